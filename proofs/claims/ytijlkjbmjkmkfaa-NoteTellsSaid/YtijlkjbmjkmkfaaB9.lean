/- The contracts of the fields, in the forms that later walks use. Conditions: those that each theorem names. -/
import Derived.Test.YtijlkjbmjkmkfaaN2
import Derived.Test.YtijlkjbmjkmkfaaF7
namespace Go.Proofs
open Go Go.Bz
theorem ctNone {P : Program} {k : FuncId} {args : Array Value} {h : PH} {L : OL} {v : Value} (c : Ct P k args h L (fun u _ _ => u = v)) : Ct P k args h L (Pu v) :=
  c.then_ fun _ _ h' L' w st e => ⟨h', [], st.drop (List.nil_sublist _), e, rfl⟩
theorem ctPu {P : Program} {k : FuncId} {args : Array Value} {h : PH} {L : OL} {v : Value} (c : Ct P k args h L (fun u _ L' => L' = [] ∧ u = v)) : Ct P k args h L (Pu v) :=
  c.mono fun _ _ _ _ e => ⟨e.2, e.1⟩
def errI (b : Bool) (e : Int) : Int := if b then 0 else e
def WordT (l : List UInt8) : Value := .tuple #[(wordOf l).v, .int .i64 (if l.length = 16 then 0 else 3)]
def TakeT (l : List UInt8) : Value := .tuple #[.int .i64 (if l.length = 8 then take8 l else 0), .int .i64 (if l.length = 8 then 0 else 3)]
theorem same_pu (h : PH) (a b : Value) (la lb : List UInt8) (ha : Bs h a la) (hb : Bs h b lb) (hla : la.length < 1000000000000) : Ct Try.prog 21 #[a, b] h [] (Pu (.bool (decide (la = lb)))) := ctNone (same_ok h a b la lb ha hb hla)
theorem word_pu (h : PH) (v : Value) (l : List UInt8) (hv : Bs h v l) (hl : l.length < 1000000000000) : Ct Try.prog 99 #[v] h [] (Pu (WordT l)) :=
  ctPu ((word_ok h v l hv hl).mono fun u _ _ _ e => ⟨e.1, by
    rw [e.2]
    by_cases c : l.length = 16
    · have e1 : wordOf l = ⟨l, c⟩ := by unfold wordOf; exact dif_pos c
      unfold WordR WordT; rw [dif_pos c, if_pos c, e1]; rfl
    · have e1 : wordOf l = AB.zero 16 := by unfold wordOf; exact dif_neg c
      unfold WordR WordT; rw [dif_neg c, if_neg c, e1]⟩)
theorem name_pu (h : PH) (s : ByteArray) (hl : s.size < 1000000000000) : Ct Try.prog 100 #[.string s] h [] (Pu (.bool (nameOk s.data.toList))) := ctPu (name_ok h s hl)
theorem take_pu (h : PH) (v : Value) (l : List UInt8) (hv : Bs h v l) (hl : l.length < 1000000000000) : Ct Try.prog 97 #[v] h [] (Pu (TakeT l)) :=
  ctPu ((take_ok h v l hv hl).mono fun u _ _ _ e => ⟨e.1, by
    rw [e.2]; unfold TakeT
    by_cases c : l.length = 8
    · rw [if_pos c, if_pos c, if_pos c]
    · rw [if_neg c, if_neg c, if_neg c]⟩)
theorem clone_z (h : PH) (v : Value) (l : List UInt8) (hs : Bs h v l) (hl : l.length < 1000000000000) : Ct Try.prog 101 #[v] h [] (Fz fun v h' => ∃ s' : SV, v = s'.v ∧ Bs h' s'.v l) := clone_ok h v l hs hl
theorem number_z (h : PH) (n : Int) : Ct Try.prog 98 #[.int .i64 n] h [] (Fz fun v h' => Bs h' v (num8 n)) := number_ok h n
theorem put_z (h : PH) (v : Value) (ll : List (List UInt8)) (hv : Rs h v ll) : Ct Try.prog 19 #[v] h [] (Fz (PutR (fput ll) 7)) := put_ok h v ll hv
def splitL : Except Int (List (List UInt8)) → List (List UInt8) | .ok l => l | .error _ => []
def splitE : Except Int (List (List UInt8)) → Int | .ok _ => 0 | .error e => e
def SplitZ (o : Except Int (List (List UInt8))) (v : Value) (h' : PH) : Prop := ∃ s : SV, v = .tuple #[s.v, .int .i64 (splitE o)] ∧ Rs h' s.v (splitL o)
theorem Rs.sv {h : PH} {v : Value} {ll : List (List UInt8)} (r : Rs h v ll) : ∃ s : SV, v = s.v := by
  obtain ⟨ss, _, sl, _⟩ := r
  obtain ⟨s, e, _⟩ := sl.sv
  exact ⟨s, e⟩
theorem split_z (h : PH) (v : Value) (l : List UInt8) (hv : Bs h v l) (hl : l.length < 1000000000000) : Ct Try.prog 20 #[v] h [] (Fz (SplitZ (fsplit 0 l))) :=
  (split_ok h v l hv hl).mono fun u h' L' _ r => by
    refine ⟨r.1, ?_⟩
    have r2 := r.2
    cases e : fsplit 0 l with
    | error x => rw [e] at r2; exact ⟨SV.nil, r2, Rs.nil h'⟩
    | ok ll =>
      rw [e] at r2
      obtain ⟨v1, rfl, rs⟩ := r2
      obtain ⟨s, rfl⟩ := Rs.sv rs
      exact ⟨s, rfl, rs⟩
end Go.Proofs
