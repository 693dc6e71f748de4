/- The bytes of two slices, held against each other. Conditions: the slices can be read. -/
import Derived.Test.YtijlkjbmjkmkfaaB6
namespace Go.Proofs
open Go Go.Bz

theorem same_ok (h : PH) (a b : Value) (la lb : List UInt8) (ha : Bs h a la) (hb : Bs h b lb) (hla : la.length < 1000000000000) :
    Ct Try.prog 21 #[a, b] h [] (fun v _ _ => v = .bool (decide (la = lb))) := by
  refine Ct.enter (n := 26) (rs := #[.tmp 4]) Try.func21 rfl rfl rfl (by simp) ?_
  intro E hE
  rw [fr2]
  refine WS.seq fun K1 hK1 => ?_
  refine WS.region_lit ?_
  refine WO.yld (Yld.assign (evo_const _ _)) ?_
  refine WO.nil ?_
  refine hK1 _ _ _ ?_
  clear hK1
  refine WS.seq fun K2 hK2 => ?_
  refine WS.seq fun K3 hK3 => ?_
  refine WS.region_lit ?_
  refine WO.yld (Yld.move EVx) ?_
  refine WO.yld (Sl.lenS ha EVx) ?_
  refine WO.yld (Yld.move EVx) ?_
  refine WO.yld (Sl.lenS hb EVx) ?_
  refine WO.yld (Yld.neqI EVx EVx) ?_
  refine WO.nil ?_
  refine hK3 _ _ _ ?_
  clear hK3
  -- @@ cond t10
  refine WS.cond EVx (fun c1 => ?_) (fun c1 => ?_)
  ·
    refine WS.seq fun K4 hK4 => ?_
    refine WS.region_lit ?_
    refine WO.yld (Yld.assign (evo_const _ _)) ?_
    refine WO.nil ?_
    refine hK4 _ _ _ ?_
    clear hK4
    refine WS.ret ?_
    refine FnEnd.mk0 (RV.one (RO.tmpE EVx)) ?_
    -- @@ fin
    have hne : la ≠ lb := fun e => by subst e; simp at c1
    rw [decide_eq_false hne]
  ·
    have hlen : la.length = lb.length := by simp at c1; omega
    refine WS.skip ?_
    refine hK2 _ _ _ ?_
    clear hK2
    refine WS.seq fun K4 hK4 => ?_
    refine WS.seq fun K5 hK5 => ?_
    refine WS.region_lit ?_
    refine WO.yld (Yld.assign (evo_const _ _)) ?_
    refine WO.nil ?_
    refine hK5 _ _ _ ?_
    clear hK5
    refine WS.blk fun X6 hX6 hY6 => ?_
    -- @@ loop
    refine WS.loop (fun m f h' L => h' = h ∧ L = [] ∧ ∃ k : Nat, k ≤ la.length ∧ m = la.length - k ∧ la.take k = lb.take k ∧ f 0 = a ∧ f 1 = b ∧ f 5 = .int .i64 k) (la.length) ?_ ?_
    · exact ⟨rfl, rfl, 0, by omega, by omega, by simp, rfl, rfl, rfl⟩
    · rintro m f h _ _ ⟨rfl, rfl, k, hk, rfl, htake, f0, f1, f5⟩
      obtain ⟨g, rfl⟩ : ∃ g, f = upd (upd (upd g 0 a) 1 b) 5 (.int .i64 k) := ⟨f, by rw [upd_id f0, upd_id f1, upd_id f5]⟩
      clear f0 f1 f5
      refine WS.seq fun K7 hK7 => ?_
      refine WS.seq fun K8 hK8 => ?_
      refine WS.region_lit ?_
      refine WO.yld (Yld.move EVx) ?_
      refine WO.yld (Yld.move EVx) ?_
      refine WO.yld (Sl.lenS ha EVx) ?_
      refine WO.yld (Yld.lss EVx EVx) ?_
      refine WO.nil ?_
      refine hK8 _ _ _ ?_
      clear hK8
      -- @@ cond t14
      refine WS.cond EVx (fun c2 => ?_) (fun c2 => ?_)
      ·
        have hlt : k < la.length := by simpa using c2
        refine WS.skip ?_
        refine hK7 _ _ _ ?_
        clear hK7
        refine WS.seq fun K9 hK9 => ?_
        refine WS.blk fun X10 hX10 hY10 => ?_
        refine WS.seq fun K11 hK11 => ?_
        refine WS.draw [] [(0, 2), (1, 2), (2, 2), (3, 1), (4, 2), (5, 2), (6, 2), (7, 1), (8, 2)] _ (by kernel_rfl) (by kernel_rfl) (by decide) (fun _ hm => hm) ?_
        refine WPl.wl rfl (Yld.move EVx) ?_
        refine WPl.wl rfl (Yld.move EVx) ?_
        refine WPl.wl rfl (Sl.indexN ha EVx EVx (by first | omega | decide | simp)) ?_
        refine WPl.rd rfl (Bs.load ha EVx (by first | omega | decide | simp)) ?_
        refine WPl.wl rfl (Yld.move EVx) ?_
        refine WPl.wl rfl (Yld.move EVx) ?_
        refine WPl.wl rfl (Sl.indexN hb EVx EVx (by first | omega | decide | simp)) ?_
        refine WPl.rd rfl (Bs.load hb EVx (by first | omega | decide | simp)) ?_
        refine WPl.wl rfl (Yld.neqI EVx EVx) ?_
        refine WPl.nil ?_
        refine hK11 _ _ _ ?_
        clear hK11
        -- @@ cond t25
        refine WS.cond EVx (fun c3 => ?_) (fun c3 => ?_)
        ·
          refine WS.seq fun K12 hK12 => ?_
          refine WS.region_lit ?_
          refine WO.yld (Yld.assign (evo_const _ _)) ?_
          refine WO.nil ?_
          refine hK12 _ _ _ ?_
          clear hK12
          refine WS.ret ?_
          refine FnEnd.mk0 (RV.one (RO.tmpE EVx)) ?_
          -- @@ fin
          have hne : la ≠ lb := fun e => by subst e; simp at c3
          rw [decide_eq_false hne]
        ·
          refine WS.skip ?_
          refine hK9 _ _ _ ?_
          clear hK9
          refine WS.region_lit ?_
          refine WO.yld (Yld.move EVx) ?_
          refine WO.yld (Yld.add EVx (evo_const _ _)) ?_
          refine WO.yld (Yld.assign EVx) ?_
          refine WO.nil ?_
          -- @@ loopend
          have c3 := nd_f c3
          refine ⟨_, ?_, rfl, rfl, k + 1, by omega, rfl, ?_, rfl, rfl, ?_⟩
          · omega
          · rw [List.take_succ_eq_append_getElem hlt, List.take_succ_eq_append_getElem (hlen ▸ hlt), htake]
            have : la[k] = lb[k]'(hlen ▸ hlt) := by
              have h1 : (la.getD k 0) = la[k] := by simp [List.getD, List.getElem?_eq_getElem hlt]
              have h2 : (lb.getD k 0) = lb[k]'(hlen ▸ hlt) := by simp [List.getD, List.getElem?_eq_getElem (hlen ▸ hlt : k < lb.length)]
              rw [← h1, ← h2]; exact UInt8.toNat_inj.1 (by omega)
            rw [this]
          · show Value.int .i64 (IntKind.i64.wrap (k + 1)) = _
            rw [wrap_i64 (by omega) (by omega)]; rfl
      ·
        refine WS.exit (hX6 _ _ _ ?_)
        refine hK4 _ _ _ ?_
        clear hK4
        refine WS.seq fun K9 hK9 => ?_
        refine WS.region_lit ?_
        refine WO.yld (Yld.assign (evo_const _ _)) ?_
        refine WO.nil ?_
        refine hK9 _ _ _ ?_
        clear hK9
        refine WS.ret ?_
        refine FnEnd.mk0 (RV.one (RO.tmpE EVx)) ?_
        -- @@ fin
        have hke : k = la.length := by simp at c2; omega
        subst hke
        have : la = lb := by rw [List.take_length] at htake; rw [htake, hlen, List.take_length]
        rw [decide_eq_true this]
end Go.Proofs
