/- Notes: whether two are the same; what a kind has. Conditions: what is handed over can be read. -/
import Derived.Test.YtijlkjbmjkmkfaaN1
import Derived.Test.YtijlkjbmjkmkfaaF6
import Derived.Test.YtijlkjbmjkmkfaaB8
namespace Go.Proofs
open Go Go.Bz

theorem nsame_ok (h : PH) (a b : NoteM) (pa pb : NoteP) (na : NR h a pa) (nb : NR h b pb) (fa : pa.Fits) :
    Ct Try.prog 31 #[a.v, b.v] h [] (Pu (.bool (sameN pa pb))) := by
  refine Ct.enter (n := 59) (rs := #[.tmp 4]) Try.func31 rfl rfl rfl (by simp) ?_
  intro E hE
  rw [fr2]
  refine WS.seq fun K1 hK1 => ?_
  refine WS.region_lit ?_
  refine WO.chn rfl (Chn.bx EVx fun b2 => ?_)
  refine WO.chn rfl (Chn.bx EVx fun b3 => ?_)
  refine WO.yld (Yld.assign (evo_const _ _)) ?_
  refine WO.nil ?_
  refine hK1 _ _ _ ?_
  clear hK1
  refine WS.seq fun K2 hK2 => ?_
  refine WS.region_lit ?_
  refine WO.yld (Yld.fieldAddrL (o' := 0) EVx rfl) ?_
  refine WO.yld (Yld.ld1 EVx (At.tail At.head)) ?_
  refine WO.yld (Yld.fieldAddrL (o' := 0) EVx rfl) ?_
  refine WO.yld (Yld.ld1 EVx At.head) ?_
  refine WO.yld (Yld.eqlI EVx EVx) ?_
  refine WO.yld (Yld.move EVx) ?_
  refine WO.gyT0 rfl EVx (fun hp => Yld.fieldAddrL (o' := 1) EVx rfl) ?_
  refine WO.gyT0 rfl EVx (fun hp => Yld.ld1 (EVc hp EVx) (At.tail At.head)) ?_
  refine WO.gyT0 rfl EVx (fun hp => Yld.fieldAddrL (o' := 1) EVx rfl) ?_
  refine WO.gyT0 rfl EVx (fun hp => Yld.ld1 (EVc hp EVx) At.head) ?_
  refine WO.gyT0 rfl EVx (fun hp => Yld.eqlStr (EVc hp EVx) (EVc hp EVx)) ?_
  refine WO.yld (Yld.pickAnd' EVx (fun h => (EVc h EVx)) (evo_const _ _)) ?_
  refine WO.yld (Yld.move EVx) ?_
  refine WO.gyT0 rfl EVx (fun hp => Yld.fieldAddrL (o' := 2) EVx rfl) ?_
  refine WO.gyT0 rfl EVx (fun hp => Yld.ld1 (EVc hp EVx) (At.tail At.head)) ?_
  refine WO.gyT0 rfl EVx (fun hp => Yld.fieldAddrL (o' := 2) EVx rfl) ?_
  refine WO.gyT0 rfl EVx (fun hp => Yld.ld1 (EVc hp EVx) At.head) ?_
  refine WO.gyT0 rfl EVx (fun hp => Yld.eqlStr (EVc hp EVx) (EVc hp EVx)) ?_
  refine WO.yld (Yld.pickAnd' EVx (fun h => (EVc h EVx)) (evo_const _ _)) ?_
  refine WO.yld (Yld.move EVx) ?_
  refine WO.gyT0 rfl EVx (fun hp => Yld.fieldAddrL (o' := 3) EVx rfl) ?_
  refine WO.gyT0 rfl EVx (fun hp => Yld.ldN (EVc hp EVx) (At.tail At.head)) ?_
  refine WO.gyT0 rfl EVx (fun hp => Yld.fieldAddrL (o' := 3) EVx rfl) ?_
  refine WO.gyT0 rfl EVx (fun hp => Yld.ldN (EVc hp EVx) At.head) ?_
  refine WO.gyT0 rfl EVx (fun hp => Yld.eqlAB (EVc hp EVx) (EVc hp EVx)) ?_
  refine WO.yld (Yld.pickAnd' EVx (fun h => (EVc h EVx)) (evo_const _ _)) ?_
  refine WO.yld (Yld.move EVx) ?_
  refine WO.gyT0 rfl EVx (fun hp => Yld.fieldAddrL (o' := 19) EVx rfl) ?_
  refine WO.gyT0 rfl EVx (fun hp => Yld.ldN (EVc hp EVx) (At.tail At.head)) ?_
  refine WO.gyT0 rfl EVx (fun hp => Yld.fieldAddrL (o' := 19) EVx rfl) ?_
  refine WO.gyT0 rfl EVx (fun hp => Yld.ldN (EVc hp EVx) At.head) ?_
  refine WO.gyT0 rfl EVx (fun hp => Yld.eqlAB (EVc hp EVx) (EVc hp EVx)) ?_
  refine WO.yld (Yld.pickAnd' EVx (fun h => (EVc h EVx)) (evo_const _ _)) ?_
  refine WO.yld (Yld.move EVx) ?_
  refine WO.gyT0 rfl EVx (fun hp => Yld.fieldAddrL (o' := 35) EVx rfl) ?_
  refine WO.gyT0 rfl EVx (fun hp => Yld.ld1 (EVc hp EVx) (At.tail At.head)) ?_
  refine WO.gyT0 rfl EVx (fun hp => Yld.fieldAddrL (o' := 35) EVx rfl) ?_
  refine WO.gyT0 rfl EVx (fun hp => Yld.ld1 (EVc hp EVx) At.head) ?_
  refine WO.gpT0 rfl EVx (fun hp => Chn.callZ (evo_func _ _) (AC (EVc hp EVx) (AC (EVc hp EVx) AN)) ((equal_ok _ _ _ _ _ na.p nb.p fa.p).pz)) fun h43 le43 => ?_
  replace na := na.mono le43
  replace nb := nb.mono le43
  refine WO.yld (Yld.pickAnd' EVx (fun h => (EVc h EVx)) (evo_const _ _)) ?_
  refine WO.yld (Yld.move EVx) ?_
  refine WO.gyT0 rfl EVx (fun hp => Yld.fieldAddrL (o' := 36) EVx rfl) ?_
  refine WO.gyT0 rfl EVx (fun hp => Yld.ld1 (EVc hp EVx) (At.tail At.head)) ?_
  refine WO.gyT0 rfl EVx (fun hp => Yld.fieldAddrL (o' := 36) EVx rfl) ?_
  refine WO.gyT0 rfl EVx (fun hp => Yld.ld1 (EVc hp EVx) At.head) ?_
  refine WO.gpT0 rfl EVx (fun hp => Chn.callZ (evo_func _ _) (AC (EVc hp EVx) (AC (EVc hp EVx) AN)) ((equal_ok _ _ _ _ _ na.q nb.q fa.q).pz)) fun h50 le50 => ?_
  replace na := na.mono le50
  replace nb := nb.mono le50
  refine WO.yld (Yld.pickAnd' EVx (fun h => (EVc h EVx)) (evo_const _ _)) ?_
  refine WO.yld (Yld.move EVx) ?_
  refine WO.gyT0 rfl EVx (fun hp => Yld.fieldAddrL (o' := 37) EVx rfl) ?_
  refine WO.gyT0 rfl EVx (fun hp => Yld.ld1 (EVc hp EVx) (At.tail At.head)) ?_
  refine WO.gyT0 rfl EVx (fun hp => Yld.fieldAddrL (o' := 37) EVx rfl) ?_
  refine WO.gyT0 rfl EVx (fun hp => Yld.ld1 (EVc hp EVx) At.head) ?_
  refine WO.gpT0 rfl EVx (fun hp => Chn.callZ (evo_func _ _) (AC (EVc hp EVx) (AC (EVc hp EVx) AN)) ((equal_ok _ _ _ _ _ na.r nb.r fa.r).pz)) fun h57 le57 => ?_
  replace na := na.mono le57
  replace nb := nb.mono le57
  refine WO.yld (Yld.pickAnd' EVx (fun h => (EVc h EVx)) (evo_const _ _)) ?_
  refine WO.yld (Yld.assign EVx) ?_
  refine WO.nil ?_
  refine hK2 _ _ _ ?_
  clear hK2
  refine WS.ret ?_
  refine FnEnd.mk0 (RV.one (RO.tmpE EVx)) ?_
  -- @@ fin
  refine ⟨?_, rfl⟩
  rw [na.k, na.a, na.b, na.x, na.y, nb.k, nb.a, nb.b, nb.x, nb.y]; rfl

theorem has_at (k : Int) (h : 1 ≤ k ∧ k ≤ 16) : (hasL.map fun l => Value.string ⟨(codes l).toArray⟩)[k.toNat]? = some (.string ⟨(codes (hasT k)).toArray⟩) := by
  have e : hasT k = hasL.getD k.toNat [] := by unfold hasT; rw [if_neg (by omega)]
  have h2 : k.toNat < hasL.length := by show _ < 17; omega
  rw [e, List.getElem?_map, List.getD, List.getElem?_eq_getElem h2]; rfl
theorem has_ok (h : PH) (k : Int) : Ct Try.prog 152 #[.int .i64 k] h [] (Pu (.string ⟨(codes (hasT k)).toArray⟩)) := by
  refine Ct.enter (n := 12) (rs := #[.tmp 2]) Try.func152 rfl rfl rfl (by simp) ?_
  intro E hE
  rw [fr1]
  refine WS.seq fun K1 hK1 => ?_
  refine WS.region_lit ?_
  refine WO.yld (Yld.assign (evo_const _ _)) ?_
  refine WO.nil ?_
  refine hK1 _ _ _ ?_
  clear hK1
  refine WS.seq fun K2 hK2 => ?_
  refine WS.seq fun K3 hK3 => ?_
  refine WS.region_lit ?_
  refine WO.yld (Yld.move EVx) ?_
  refine WO.yld (Yld.lss EVx (evo_const _ _)) ?_
  refine WO.yld (Yld.move EVx) ?_
  refine WO.gyF0 rfl EVx (fun hp => Yld.move EVx) ?_
  refine WO.gyF0 rfl EVx (fun hp => Yld.gtr (EVc hp EVx) (evo_const _ _)) ?_
  refine WO.yld (Yld.pickOr' EVx (evo_const _ _) (fun h => (EVc (nf h) EVx))) ?_
  refine WO.nil ?_
  refine hK3 _ _ _ ?_
  clear hK3
  -- @@ cond t8
  refine WS.cond EVx (fun c1 => ?_) (fun c1 => ?_)
  ·
    refine WS.seq fun K4 hK4 => ?_
    refine WS.region_lit ?_
    refine WO.yld (Yld.assign (evo_const _ _)) ?_
    refine WO.nil ?_
    refine hK4 _ _ _ ?_
    clear hK4
    refine WS.ret ?_
    refine FnEnd.mk0 (RV.one (RO.tmpE EVx)) ?_
    -- @@ fin
    have : hasT k = [] := by unfold hasT; rw [if_pos (by simp at c1; omega)]
    rw [this]; exact ⟨rfl, rfl⟩
  ·
    have h1 : 1 ≤ k ∧ k ≤ 16 := by simp at c1; omega
    refine WS.skip ?_
    refine hK2 _ _ _ ?_
    clear hK2
    refine WS.seq fun K4 hK4 => ?_
    refine WS.region_lit ?_
    refine WO.yld ((show Yld _ _ _ _ _ _ (.agg ((hasL.map fun l => Value.string ⟨(codes l).toArray⟩)).toArray) from fun w _ => by kernel_rfl)) ?_
    refine WO.yld (Yld.move EVx) ?_
    -- @@ op: t11 := index 315 t9 t10 : T9   info {9: None, 10: None}
    refine WO.yld (Yld.idx1 (v := .string ⟨(codes (hasT k)).toArray⟩) EVx EVx (by omega) (by omega) (has_at k h1)) ?_
    refine WO.yld (Yld.assign EVx) ?_
    refine WO.nil ?_
    refine hK4 _ _ _ ?_
    clear hK4
    refine WS.ret ?_
    refine FnEnd.mk0 (RV.one (RO.tmpE EVx)) ?_
    -- @@ fin
    exact ⟨rfl, rfl⟩
end Go.Proofs
