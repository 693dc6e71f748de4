/- Copies of byte slices; the fields' encoding. Conditions: what is handed over can be read, and is short. -/
import Derived.Test.YtijlkjbmjkmkfaaF1
namespace Go.Proofs
open Go Go.Bz

theorem clone_own (h : PH) (v : Value) (l : List UInt8) (hs : Bs h v l) (hl : l.length < 1000000000000) :
    Ct Try.prog 101 #[v] h [] (fun v h' L' => ∃ s' junk, v = s'.v ∧ Acc s' 1 (bc l) junk ∧ L' = accL s' 5 (bc l) junk) := by
  obtain ⟨s, rfl, _⟩ := Sl.sv hs
  refine Ct.enter (n := 8) (rs := #[.tmp 2]) Try.func101 rfl rfl rfl (by simp) ?_
  intro E hE
  rw [fr1]
  refine WS.seq fun K1 hK1 => ?_
  refine WS.region_lit ?_
  refine WO.yld (Yld.assign (evo_const _ _)) ?_
  refine WO.nil ?_
  refine hK1 _ _ _ ?_
  clear hK1
  refine WS.seq fun K2 hK2 => ?_
  refine WS.seq fun K3 hK3 => ?_
  refine WS.region_lit ?_
  refine WO.yld (Yld.move EVx) ?_
  -- @@ op: t4 := eql t3 cslice(none 0 0) (T22) : T4   info {3: {'k': 'sl', 'f': 'hs', 'bs': True, 'el': False}}
  refine WO.yld (Yld.eqlNilS EVx rfl) ?_
  refine WO.nil ?_
  refine hK3 _ _ _ ?_
  clear hK3
  -- @@ cond t4
  refine WS.cond EVx (fun c1 => ?_) (fun c1 => ?_)
  ·
    refine WS.seq fun K4 hK4 => ?_
    refine WS.region_lit ?_
    refine WO.yld (Yld.assign (evo_const _ _)) ?_
    refine WO.nil ?_
    refine hK4 _ _ _ ?_
    clear hK4
    refine WS.ret ?_
    refine FnEnd.mk (RV.one (RO.tmpE EVx)) ?_
    -- @@ fin
    have hn : l = [] := by
      have h1 := hs
      rcases h1.2 with ⟨a0, e, h0⟩ | ⟨b, o, cap, e, _⟩
      · exact List.eq_nil_of_length_eq_zero h0
      · have : s.a = some ⟨b, o, none⟩ := by unfold SV.v at e; injection e
        rw [this] at c1; simp at c1
    subst hn
    exact ⟨SV.nil, [], rfl, Acc.nil 1, rfl⟩
  ·
    refine WS.skip ?_
    refine hK2 _ _ _ ?_
    clear hK2
    refine WS.seq fun K4 hK4 => ?_
    refine WS.region_lit ?_
    -- @@ op: t5 := buildSlice 22 0 [] : T22   info {}
    refine WO.chn rfl (Chn.buildAcc (sz := 1) Parts.nil rfl (by decide) (by decide) fun s1 hn1 ac1 => ?_)
    refine WO.yld (Yld.move EVx) ?_
    -- @@ op: t7 := append[t5, t6] ty[22, 22] : T22   info {5: None, 6: {'k': 'sl', 'f': 'hs', 'bs': True, 'el': False}}
    refine WO.chn rfl (Chn.append EVx ac1 rfl EVx hs.up (bc_ones l) rfl (by decide) (by omega) (by omega) fun s2 junk2 hn2 ac2 => ?_)
    rw [List.nil_append] at ac2 ⊢
    rw [List.append_nil]
    refine WO.yld (Yld.assign EVx) ?_
    refine WO.nil ?_
    refine hK4 _ _ _ ?_
    clear hK4
    refine WS.ret ?_
    refine FnEnd.mk (RV.one (RO.tmpE EVx)) ?_
    -- @@ fin
    exact ⟨s2, junk2, rfl, ac2, rfl⟩
theorem clone_ok (h : PH) (v : Value) (l : List UInt8) (hs : Bs h v l) (hl : l.length < 1000000000000) :
    Ct Try.prog 101 #[v] h [] (fun v h' L' => L' = [] ∧ ∃ s' : SV, v = s'.v ∧ Bs h' s'.v l) :=
  (clone_own h v l hs hl).then_ fun E v h' L' w st ⟨s', junk, e, ac, hL⟩ => by
    subst hL
    have st : Sat E h' (accL s' 5 (bc l) junk ++ []) w := by simpa using st
    obtain ⟨h2, le2, sl, st2⟩ := st.freezeAcc ac
    refine ⟨h2, [], st2, rfl, s', e, ?_⟩
    have := ac.len
    rw [bc_len, Nat.mul_one] at this
    rw [← this] at sl
    exact sl
end Go.Proofs
