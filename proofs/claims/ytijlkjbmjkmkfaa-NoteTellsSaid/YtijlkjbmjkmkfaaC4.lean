/- The frame of a law's proof: what came in, and what is owed behind the call. Conditions: those that each theorem names. -/
import Derived.Test.YtijlkjbmjkmkfaaC2
namespace Go.Bz
open Go.ChangeAt Go.ChangeShapes Go.WideShapes Go.RowKit

theorem val_agg {P : Program} {w : World} {r : Reach} {b : Nat} {t : TypeId} {v : Value} {sz : Nat} [I : TI P t true sz] (h : Value.okWide P w r b t v) : ∃ cs : Array Value, v = .agg cs := by
  obtain ⟨d, hd, ha⟩ := I.ag
  unfold Value.okWide at h
  rw [hd] at h
  cases d <;> simp [isAggD] at ha
  · obtain ⟨cs, e, _⟩ := h; exact ⟨cs, e⟩
  · obtain ⟨cs, e, _⟩ := h; exact ⟨cs, e⟩
theorem val_cells {P : Program} {w : World} {r : Reach} {b : Nat} {t : TypeId} {v : Value} {sz : Nat} [I : TI P t true sz] (h : Value.okWide P w r b t v) {cs : List Value} (e : v.cells.toList = cs) : v = .agg cs.toArray := by
  obtain ⟨c, rfl⟩ := val_agg h
  simp only [Value.cells] at e
  rw [← e]
theorem val_one {P : Program} {w : World} {r : Reach} {b : Nat} {t : TypeId} {v x : Value} [I : TI P t false 1] (h : Value.okWide P w r b t v) (e : v.cells.toList = [x]) : v = x := by
  obtain ⟨d, hd, ha⟩ := I.ag
  unfold Value.okWide at h
  rw [hd] at h
  cases v with
  | agg cs => cases d <;> simp [isAggD] at ha <;> simp [Cell.okWide, Cell.ok, hd] at h
  | _ => simpa [Value.cells] using e

section
variable {H : Type} {enc : TypeId × Value → H} {P : Program}
theorem trodAll_kept (hl : laidOutB P = true) {W W' : World} (hb : Below W.heap.size W W') : ∀ {ts : List TypeId} {vs : List Value} {ds : List (DataW H)} {p : List MemPlace}, (∀ t ∈ ts, P.readableRec t = true ∧ t < P.types.size) →
    DataW.TrodAll enc P W 0 (fun _ => true) true ts vs ds p → DataW.TrodAll enc P W' 0 (fun b => decide (b < W.heap.size)) true ts vs ds p := by
  intro ts
  induction ts with
  | nil => intro vs ds p _ h; cases vs <;> cases ds <;> simp [DataW.TrodAll] at h ⊢; exact h
  | cons t ts ih =>
    intro vs ds p hr h
    obtain ⟨v, vs, d, ds, p1, q1, rfl, rfl, rfl, h1, h2⟩ := trodAll_cons h
    have lt : ∀ x ∈ p1, x.block < W.heap.size := by obtain ⟨m, hm⟩ := h1; exact DataW.trod_lt m _ _ _ hm
    exact trodAll_cons_mk (Below.trod hl (hr t (by simp)).1 (hr t (by simp)).2 h1 hb lt) (ih (fun u hu => hr u (by simp [hu])) h2)
end

theorem law_lift {C : Checked} {os : Os} {f : FuncId} {fn : Func} {s : ChangeSpec} {H : Type} {enc : TypeId × Value → H} {tb : TypeId}
    (own : ownKnob C.prog.godebug = none) (started : os.Started) (noInit : C.prog.inits.idxOf? f = none) (hfn : C.prog.funcs[f]? = some fn)
    (witness : ∃ (w : World) (tape : Tape) (i : Input), w.os = os ∧ (w.forCall tape i).Shaped C.prog ∧ i.vars = [] ∧ Input.okWide C.prog (w.forCall tape i) .any w.heap.size f i ∧
      s.pre6 enc C.prog fn [] false (w.forCall tape i).memory i.args ∧ ({} : Assume).holds C.prog (lone (Frame.enter C.prog f i.args .normal) [] (w.forCall tape i)))
    (hv : s.vars = []) (hspec : ∀ ds : List (DataW H), ds.length = fn.params.toList.length → (s.fn H ds).results = [.lit (.bool true)] ∧ (s.fn H ds).args = ds ∧ (s.fn H ds).vars = [])
    (hres : fn.resultTypes = #[tb]) (htb : C.prog.underlying tb = some .bool) (hl : laidOutB C.prog = true) (hr : ∀ t ∈ fn.params.toList, C.prog.readableRec t = true ∧ t < C.prog.types.size)
    (walk : ∀ (W : World) (base : Nat) (args : List Value), args.length = fn.params.toList.length →
      (∀ (i : Nat) (t : TypeId) (v : Value), fn.params.toList[i]? = some t → args[i]? = some v → Value.okWide C.prog W .any base t v ∧ G enc C.prog W t v.cells.toList) →
      Calls C.prog f args.toArray W fun e W' => e = .returned (.bool true) ∧ Below W.heap.size W W') :
    ReturnsInHanded {} C os f .any (s.pre6 enc C.prog fn [] false) (s.post enc C.prog fn false true false false) := by
  refine returnsInHanded_of_calls own started noInit witness ?_
  intro w tape i _ _ _ hok hpre hholds
  obtain ⟨_, _, _, fn', hfn', _, _, _, _, hval⟩ := hok
  have e : fn' = fn := Option.some.inj (hfn'.symm.trans hfn)
  subst e
  obtain ⟨⟨ds, gs, before, hw, _⟩, hz⟩ := hpre
  have hsz := hz.weights hw
  have hw' := DataW.Whole.of_heap (w' := w.forCall tape i) (by rfl) hw
  generalize w.forCall tape i = W at *
  have hw2 := hw'
  obtain ⟨p, q, hA, hV, rfl, _, _⟩ := hw'
  rw [hv] at hV
  have hgs : gs = [] := by cases gs <;> simp [DataW.TrodVars] at hV ⊢
  subst hgs
  obtain ⟨ha1, ha2⟩ := G.args hA hsz
  have hdl : ds.length = fn'.params.toList.length := by
    have : ∀ (ts : List TypeId) (vs : List Value) (ds : List (DataW H)) (p : List MemPlace), DataW.TrodAll enc C.prog W 0 (fun _ => true) true ts vs ds p → ds.length = ts.length := by
      intro ts
      induction ts with
      | nil => intro vs ds p h; cases vs <;> cases ds <;> simp [DataW.TrodAll] at h ⊢
      | cons t ts ih => intro vs ds p h; obtain ⟨v, vs, d, ds, p1, q1, rfl, rfl, rfl, h1, h2⟩ := trodAll_cons h; simp [ih _ _ _ h2]
    exact this _ _ _ _ hA
  have hcall := walk W w.heap.size i.args.toList ha1 fun j t v ht hv' => ⟨hval j t v (by simpa using ht) (by simpa using hv'), ha2 j t v ht hv'⟩
  rw [Array.toArray_toList] at hcall
  refine hcall.mono fun e W' ⟨he, bel⟩ => ?_
  subst he
  refine ChangeSpec.post_blind ?_
  obtain ⟨s1, s2, s3⟩ := hspec ds hdl
  refine ⟨ds, [], _, [], p, [], hw2, ?_, ?_, ?_, bel.frame _, fun h => by cases h⟩
  · rw [hres, List.append_nil, s1]
    exact trodAll_mk1 (shut_bool htb _)
  · rw [List.append_nil, s2]
    exact trodAll_kept hl bel hr hA
  · rw [List.append_nil, s3, hv]; rfl
theorem cut1 (cs : List Value) (n0 : Nat) (h : cs.length = n0) : cs = (cs.drop (0)).take n0 ++ [] := by
  subst h; simp
theorem cut2 (cs : List Value) (n0 n1 : Nat) (h : cs.length = n0 + n1) : cs = (cs.drop (0)).take n0 ++ ((cs.drop (n0)).take n1 ++ []) := by
  have ih := cut1 (cs.drop n0) n1 (by simp; omega)
  simp only [List.drop_drop] at ih
  conv => lhs; rw [← List.take_append_drop n0 cs, ih]
  simp [Nat.add_assoc]
theorem cut3 (cs : List Value) (n0 n1 n2 : Nat) (h : cs.length = n0 + n1 + n2) : cs = (cs.drop (0)).take n0 ++ ((cs.drop (n0)).take n1 ++ ((cs.drop (n0 + n1)).take n2 ++ [])) := by
  have ih := cut2 (cs.drop n0) n1 n2 (by simp; omega)
  simp only [List.drop_drop] at ih
  conv => lhs; rw [← List.take_append_drop n0 cs, ih]
  simp [Nat.add_assoc]
theorem cut4 (cs : List Value) (n0 n1 n2 n3 : Nat) (h : cs.length = n0 + n1 + n2 + n3) : cs = (cs.drop (0)).take n0 ++ ((cs.drop (n0)).take n1 ++ ((cs.drop (n0 + n1)).take n2 ++ ((cs.drop (n0 + n1 + n2)).take n3 ++ []))) := by
  have ih := cut3 (cs.drop n0) n1 n2 n3 (by simp; omega)
  simp only [List.drop_drop] at ih
  conv => lhs; rw [← List.take_append_drop n0 cs, ih]
  simp [Nat.add_assoc]
theorem cut5 (cs : List Value) (n0 n1 n2 n3 n4 : Nat) (h : cs.length = n0 + n1 + n2 + n3 + n4) : cs = (cs.drop (0)).take n0 ++ ((cs.drop (n0)).take n1 ++ ((cs.drop (n0 + n1)).take n2 ++ ((cs.drop (n0 + n1 + n2)).take n3 ++ ((cs.drop (n0 + n1 + n2 + n3)).take n4 ++ [])))) := by
  have ih := cut4 (cs.drop n0) n1 n2 n3 n4 (by simp; omega)
  simp only [List.drop_drop] at ih
  conv => lhs; rw [← List.take_append_drop n0 cs, ih]
  simp [Nat.add_assoc]
theorem cut6 (cs : List Value) (n0 n1 n2 n3 n4 n5 : Nat) (h : cs.length = n0 + n1 + n2 + n3 + n4 + n5) : cs = (cs.drop (0)).take n0 ++ ((cs.drop (n0)).take n1 ++ ((cs.drop (n0 + n1)).take n2 ++ ((cs.drop (n0 + n1 + n2)).take n3 ++ ((cs.drop (n0 + n1 + n2 + n3)).take n4 ++ ((cs.drop (n0 + n1 + n2 + n3 + n4)).take n5 ++ []))))) := by
  have ih := cut5 (cs.drop n0) n1 n2 n3 n4 n5 (by simp; omega)
  simp only [List.drop_drop] at ih
  conv => lhs; rw [← List.take_append_drop n0 cs, ih]
  simp [Nat.add_assoc]
theorem cut7 (cs : List Value) (n0 n1 n2 n3 n4 n5 n6 : Nat) (h : cs.length = n0 + n1 + n2 + n3 + n4 + n5 + n6) : cs = (cs.drop (0)).take n0 ++ ((cs.drop (n0)).take n1 ++ ((cs.drop (n0 + n1)).take n2 ++ ((cs.drop (n0 + n1 + n2)).take n3 ++ ((cs.drop (n0 + n1 + n2 + n3)).take n4 ++ ((cs.drop (n0 + n1 + n2 + n3 + n4)).take n5 ++ ((cs.drop (n0 + n1 + n2 + n3 + n4 + n5)).take n6 ++ [])))))) := by
  have ih := cut6 (cs.drop n0) n1 n2 n3 n4 n5 n6 (by simp; omega)
  simp only [List.drop_drop] at ih
  conv => lhs; rw [← List.take_append_drop n0 cs, ih]
  simp [Nat.add_assoc]
theorem cut8 (cs : List Value) (n0 n1 n2 n3 n4 n5 n6 n7 : Nat) (h : cs.length = n0 + n1 + n2 + n3 + n4 + n5 + n6 + n7) : cs = (cs.drop (0)).take n0 ++ ((cs.drop (n0)).take n1 ++ ((cs.drop (n0 + n1)).take n2 ++ ((cs.drop (n0 + n1 + n2)).take n3 ++ ((cs.drop (n0 + n1 + n2 + n3)).take n4 ++ ((cs.drop (n0 + n1 + n2 + n3 + n4)).take n5 ++ ((cs.drop (n0 + n1 + n2 + n3 + n4 + n5)).take n6 ++ ((cs.drop (n0 + n1 + n2 + n3 + n4 + n5 + n6)).take n7 ++ []))))))) := by
  have ih := cut7 (cs.drop n0) n1 n2 n3 n4 n5 n6 n7 (by simp; omega)
  simp only [List.drop_drop] at ih
  conv => lhs; rw [← List.take_append_drop n0 cs, ih]
  simp [Nat.add_assoc]
theorem cut9 (cs : List Value) (n0 n1 n2 n3 n4 n5 n6 n7 n8 : Nat) (h : cs.length = n0 + n1 + n2 + n3 + n4 + n5 + n6 + n7 + n8) : cs = (cs.drop (0)).take n0 ++ ((cs.drop (n0)).take n1 ++ ((cs.drop (n0 + n1)).take n2 ++ ((cs.drop (n0 + n1 + n2)).take n3 ++ ((cs.drop (n0 + n1 + n2 + n3)).take n4 ++ ((cs.drop (n0 + n1 + n2 + n3 + n4)).take n5 ++ ((cs.drop (n0 + n1 + n2 + n3 + n4 + n5)).take n6 ++ ((cs.drop (n0 + n1 + n2 + n3 + n4 + n5 + n6)).take n7 ++ ((cs.drop (n0 + n1 + n2 + n3 + n4 + n5 + n6 + n7)).take n8 ++ [])))))))) := by
  have ih := cut8 (cs.drop n0) n1 n2 n3 n4 n5 n6 n7 n8 (by simp; omega)
  simp only [List.drop_drop] at ih
  conv => lhs; rw [← List.take_append_drop n0 cs, ih]
  simp [Nat.add_assoc]
end Go.Bz
