/- The reference of layer 10: whether a note may be. Conditions: what is handed over can be read, and is short. -/
import Derived.Test.YtijlkjbmjkmkfaaR4
import Derived.Test.YtijlkjbmjkmkfaaS6
namespace Go.Proofs
open Go Go.Bz

theorem rhas_eq (h : PH) (k k' : Int) (e : k = k') : Ct Try.prog 103 #[.int .i64 k] h [] (Pu (.string ⟨(codes (hasT k')).toArray⟩)) := e ▸ rhas_ok h k
theorem rright_ok (h : PH) (n : NoteM) (u : NoteP) (hn : NR h n u) (hu : u.Fits) : Ct Try.prog 30 #[n.v] h [] (Pu (.bool (rightN u))) := by
  refine Ct.enter (n := 112) (rs := #[.tmp 2]) Try.func30 rfl rfl rfl (by simp) ?_
  intro E hE
  rw [fr1]
  have hT4 := hasT_len u.Kind
  have hs1 : decide ((⟨(codes (hasT u.Kind)).toArray⟩ : ByteArray) = ⟨#[]⟩) = decide (hasT u.Kind = []) := decide_eq_decide.2 (str_nil _)
  have hna := hn.a
  have hnb := hn.b
  have hnx := hn.x
  have hny := hn.y
  refine WS.seq fun K1 hK1 => ?_
  refine WS.region_lit ?_
  refine WO.chn rfl (Chn.bx EVx fun b1 => ?_)
  refine WO.yld (Yld.assign (evo_const _ _)) ?_
  refine WO.nil ?_
  refine hK1 _ _ _ ?_
  clear hK1
  refine WS.seq fun K2 hK2 => ?_
  refine WS.region_lit ?_
  refine WO.yld (Yld.fieldAddrL (o' := 0) EVx rfl) ?_
  refine WO.yld (Yld.ld1 EVx At.head) ?_
  refine WO.cZ rfl (Chn.callZ (evo_func _ _) (AC EVx AN) ((rhas_eq _ _ _ hn.k).pz)) ?_
  rintro _ h6 le6 rfl
  replace hn := hn.mono le6
  refine WO.yld (Yld.assign EVx) ?_
  refine WO.nil ?_
  refine hK2 _ _ _ ?_
  clear hK2
  refine WS.seq fun K3 hK3 => ?_
  refine WS.seq fun K4 hK4 => ?_
  refine WS.region_lit ?_
  refine WO.yld (Yld.move EVx) ?_
  refine WO.yld (Yld.eqlStr EVx (evo_const _ _)) ?_
  refine WO.nil ?_
  refine hK4 _ _ _ ?_
  clear hK4
  refine WS.cond EVx (fun c1 => ?_) (fun c1 => ?_)
  ·
    refine WS.seq fun K5 hK5 => ?_
    refine WS.region_lit ?_
    refine WO.yld (Yld.assign (evo_const _ _)) ?_
    refine WO.nil ?_
    refine hK5 _ _ _ ?_
    clear hK5
    refine WS.ret ?_
    refine FnEnd.mk0 (RV.one (RO.tmpE EVx)) ?_
    -- @@ fin
    exact ⟨by rw [rightN_eq]; first | rw [hs1] at c1; rw [c1]; rfl | (rw [hs1] at c1; rw [hna, hnb] at c2; have c2 : r2N u = _ := c2; rw [c1, c2]; first | rfl | (rw [hnx, hny] at c3; have c3 : r3N u = _ := c3; rw [c3]; first | rfl | (have c4 : r4N u = _ := c4; rw [c4]; rfl))), rfl⟩
  ·
    refine WS.skip ?_
    refine hK3 _ _ _ ?_
    clear hK3
    refine WS.seq fun K6 hK6 => ?_
    refine WS.seq fun K7 hK7 => ?_
    refine WS.draw [] [(0, 2), (2, 2), (3, 1), (4, 2), (1, 0), (5, 2), (6, 2), (7, 2), (9, 2), (10, 1), (11, 2), (8, 0), (12, 2), (13, 2), (14, 2), (15, 2), (16, 1), (17, 2), (18, 2), (19, 2), (20, 1), (21, 0), (22, 2), (23, 2), (24, 2), (25, 2), (26, 2), (27, 1), (28, 2), (29, 2), (30, 2), (31, 1), (32, 0), (33, 2), (34, 2), (35, 2)] _ (by kernel_rfl) (by kernel_rfl) (by decide) (fun _ hm => hm) ?_
    refine WPl.wl rfl (Yld.move EVx) ?_
    refine WPl.wl rfl (Yld.fieldAddrL (o' := 1) EVx rfl) ?_
    refine WPl.rd rfl (Yld.ld1 EVx At.head) ?_
    refine WPl.wl rfl (Yld.neqStr EVx (evo_const _ _)) ?_
    refine WPl.cZ rfl (Chn.callZ (evo_func _ _) (AC EVx (AC (evo_const _ _) AN)) ((in_code _ (hasT u.Kind) .A 65 rfl (by omega)).pz)) ⟨PH.le_refl _, fun _ hm => hm⟩ ?_
    rintro _ h10 le10 rfl
    have hn_1 := hn.mono le10
    refine WPl.wl rfl (Yld.neqB EVx EVx) ?_
    refine WPl.wl rfl (Yld.move EVx) ?_
    refine WPl.wlF0 rfl rfl EVx (fun hp => Yld.move EVx) ?_
    refine WPl.wlF0 rfl rfl EVx (fun hp => Yld.fieldAddrL (o' := 2) EVx rfl) ?_
    refine WPl.rdF0 rfl rfl EVx (fun hp => Yld.ld1 (EVc hp EVx) At.head) ?_
    refine WPl.wlF0 rfl rfl EVx (fun hp => Yld.neqStr (EVc hp EVx) (evo_const _ _)) ?_
    refine WPl.gpF0 rfl rfl EVx (fun hp => Chn.callZ (evo_func _ _) (AC (EVc hp EVx) (AC (evo_const _ _) AN)) ((in_code _ (hasT u.Kind) .B 66 rfl (by omega)).pz)) ⟨le10, fun _ hm => hm⟩ fun h17 le17 => ?_
    have hn_2 := hn_1.mono le17
    refine WPl.wlF0 rfl rfl EVx (fun hp => Yld.neqB (EVc hp EVx) (EVc hp EVx)) ?_
    refine WPl.wl rfl (Yld.pickOr' EVx (evo_const _ _) (fun h => (EVc (nf h) EVx))) ?_
    refine WPl.wl rfl (Yld.move EVx) ?_
    refine WPl.wlF0 rfl rfl EVx (fun hp => Yld.fieldAddrL (o' := 1) EVx rfl) ?_
    refine WPl.rdF0 rfl rfl EVx (fun hp => Yld.ld1 (EVc hp EVx) At.head) ?_
    refine WPl.wlF0 rfl rfl EVx (fun hp => Yld.neqStr (EVc hp EVx) (evo_const _ _)) ?_
    refine WPl.wlF0 rfl rfl EVx (fun hp => Yld.move (EVc hp EVx)) ?_
    refine WPl.wlT rfl rfl EVx (fun hp => Yld.fieldAddrL (o' := 1) EVx rfl) ?_
    refine WPl.rdT rfl rfl EVx (fun hp => Yld.ld1 (EVc hp EVx) At.head) ?_
    refine WPl.gpT rfl rfl EVx (fun hp => Chn.callZ (evo_func _ _) (AC (EVc hp EVx) AN) ((rname_pu _ _ (by rw [hn.a]; exact hu.a)).pz)) ⟨PH.le_trans (le10) le17, fun _ hm => hm⟩ fun h30 le30 => ?_
    have hn_3 := hn_2.mono le30
    refine WPl.wlT rfl rfl EVx (fun hp => Yld.not (EVc hp EVx)) ?_
    refine WPl.wlF0 rfl rfl EVx (fun hp => Yld.pickAnd' (EVc hp EVx) (fun h => (EVc (ai hp h) EVx)) (evo_const _ _)) ?_
    refine WPl.wl rfl (Yld.pickOr' EVx (evo_const _ _) (fun h => (EVc (nf h) EVx))) ?_
    refine WPl.wl rfl (Yld.move EVx) ?_
    refine WPl.wlF0 rfl rfl EVx (fun hp => Yld.fieldAddrL (o' := 2) EVx rfl) ?_
    refine WPl.rdF0 rfl rfl EVx (fun hp => Yld.ld1 (EVc hp EVx) At.head) ?_
    refine WPl.wlF0 rfl rfl EVx (fun hp => Yld.neqStr (EVc hp EVx) (evo_const _ _)) ?_
    refine WPl.wlF0 rfl rfl EVx (fun hp => Yld.move (EVc hp EVx)) ?_
    refine WPl.wlT rfl rfl EVx (fun hp => Yld.fieldAddrL (o' := 2) EVx rfl) ?_
    refine WPl.rdT rfl rfl EVx (fun hp => Yld.ld1 (EVc hp EVx) At.head) ?_
    refine WPl.gpT rfl rfl EVx (fun hp => Chn.callZ (evo_func _ _) (AC (EVc hp EVx) AN) ((rname_pu _ _ (by rw [hn.b]; exact hu.b)).pz)) ⟨PH.le_trans (PH.le_trans (le10) le17) le30, fun _ hm => hm⟩ fun h41 le41 => ?_
    have hn_4 := hn_3.mono le41
    refine WPl.wlT rfl rfl EVx (fun hp => Yld.not (EVc hp EVx)) ?_
    refine WPl.wlF0 rfl rfl EVx (fun hp => Yld.pickAnd' (EVc hp EVx) (fun h => (EVc (ai hp h) EVx)) (evo_const _ _)) ?_
    refine WPl.wl rfl (Yld.pickOr' EVx (evo_const _ _) (fun h => (EVc (nf h) EVx))) ?_
    refine WPl.nil ?_
    refine hK7 _ _ _ ?_
    clear hK7
    refine WS.cond EVx (fun c2 => ?_) (fun c2 => ?_)
    ·
      refine WS.seq fun K8 hK8 => ?_
      refine WS.region_lit ?_
      refine WO.yld (Yld.assign (evo_const _ _)) ?_
      refine WO.nil ?_
      refine hK8 _ _ _ ?_
      clear hK8
      refine WS.ret ?_
      refine FnEnd.mk0 (RV.one (RO.tmpE EVx)) ?_
      -- @@ fin
      exact ⟨by rw [rightN_eq]; first | rw [hs1] at c1; rw [c1]; rfl | (rw [hs1] at c1; rw [hna, hnb] at c2; have c2 : r2N u = _ := c2; rw [c1, c2]; first | rfl | (rw [hnx, hny] at c3; have c3 : r3N u = _ := c3; rw [c3]; first | rfl | (have c4 : r4N u = _ := c4; rw [c4]; rfl))), rfl⟩
    ·
      refine WS.skip ?_
      refine hK6 _ _ _ ?_
      clear hK6
      refine WS.seq fun K9 hK9 => ?_
      refine WS.seq fun K10 hK10 => ?_
      refine WS.region_lit ?_
      refine WO.yld (Yld.move EVx) ?_
      refine WO.cZ rfl (Chn.callZ (evo_func _ _) (AC EVx (AC (evo_const _ _) AN)) ((in_code _ (hasT u.Kind) .X 88 rfl (by omega)).pz)) ?_
      rintro _ h46 le46 rfl
      replace hn_4 := hn_4.mono le46
      refine WO.yld (Yld.not EVx) ?_
      refine WO.yld (Yld.move EVx) ?_
      refine WO.gyT0 rfl EVx (fun hp => Yld.fieldAddrL (o' := 3) EVx rfl) ?_
      refine WO.gyT0 rfl EVx (fun hp => Yld.ldN (EVc hp EVx) At.head) ?_
      refine WO.gyT0 rfl EVx (fun hp => (show Yld _ _ _ _ _ _ (AB.zero 16).v from fun w _ => by kernel_rfl)) ?_
      refine WO.gyT0 rfl EVx (fun hp => Yld.neqAB (EVc hp EVx) (EVc hp EVx)) ?_
      refine WO.yld (Yld.pickAnd' EVx (fun h => (EVc h EVx)) (evo_const _ _)) ?_
      refine WO.yld (Yld.move EVx) ?_
      refine WO.gyF0 rfl EVx (fun hp => Yld.move EVx) ?_
      refine WO.gpF0 rfl EVx (fun hp => Chn.callZ (evo_func _ _) (AC (EVc hp EVx) (AC (evo_const _ _) AN)) ((in_code _ (hasT u.Kind) .Y 89 rfl (by omega)).pz)) fun h56 le56 => ?_
      replace hn_4 := hn_4.mono le56
      refine WO.gyF0 rfl EVx (fun hp => Yld.not (EVc hp EVx)) ?_
      refine WO.gyF0 rfl EVx (fun hp => Yld.move (EVc hp EVx)) ?_
      refine WO.gyT rfl EVx (fun hp => Yld.fieldAddrL (o' := 19) EVx rfl) ?_
      refine WO.gyT rfl EVx (fun hp => Yld.ldN (EVc hp EVx) At.head) ?_
      refine WO.gyT rfl EVx (fun hp => (show Yld _ _ _ _ _ _ (AB.zero 16).v from fun w _ => by kernel_rfl)) ?_
      refine WO.gyT rfl EVx (fun hp => Yld.neqAB (EVc hp EVx) (EVc hp EVx)) ?_
      refine WO.gyF0 rfl EVx (fun hp => Yld.pickAnd' (EVc hp EVx) (fun h => (EVc (ai hp h) EVx)) (evo_const _ _)) ?_
      refine WO.yld (Yld.pickOr' EVx (evo_const _ _) (fun h => (EVc (nf h) EVx))) ?_
      refine WO.nil ?_
      refine hK10 _ _ _ ?_
      clear hK10
      refine WS.cond EVx (fun c3 => ?_) (fun c3 => ?_)
      ·
        refine WS.seq fun K11 hK11 => ?_
        refine WS.region_lit ?_
        refine WO.yld (Yld.assign (evo_const _ _)) ?_
        refine WO.nil ?_
        refine hK11 _ _ _ ?_
        clear hK11
        refine WS.ret ?_
        refine FnEnd.mk0 (RV.one (RO.tmpE EVx)) ?_
        -- @@ fin
        exact ⟨by rw [rightN_eq]; first | rw [hs1] at c1; rw [c1]; rfl | (rw [hs1] at c1; rw [hna, hnb] at c2; have c2 : r2N u = _ := c2; rw [c1, c2]; first | rfl | (rw [hnx, hny] at c3; have c3 : r3N u = _ := c3; rw [c3]; first | rfl | (have c4 : r4N u = _ := c4; rw [c4]; rfl))), rfl⟩
      ·
        refine WS.skip ?_
        refine hK9 _ _ _ ?_
        clear hK9
        refine WS.seq fun K12 hK12 => ?_
        refine WS.seq fun K13 hK13 => ?_
        refine WS.region_lit ?_
        refine WO.yld (Yld.move EVx) ?_
        refine WO.cZ rfl (Chn.callZ (evo_func _ _) (AC EVx (AC (evo_const _ _) AN)) ((in_code _ (hasT u.Kind) .P 80 rfl (by omega)).pz)) ?_
        rintro _ h66 le66 rfl
        replace hn_4 := hn_4.mono le66
        refine WO.yld (Yld.not EVx) ?_
        refine WO.yld (Yld.move EVx) ?_
        refine WO.gyT0 rfl EVx (fun hp => Yld.fieldAddrL (o' := 35) EVx rfl) ?_
        refine WO.gyT0 rfl EVx (fun hp => Yld.ld1 (EVc hp EVx) At.head) ?_
        refine WO.gyT0 rfl EVx (fun hp => Sl.lenS hn.p (EVc hp EVx)) ?_
        refine WO.gyT0 rfl EVx (fun hp => Yld.gtr (EVc hp EVx) (evo_const _ _)) ?_
        refine WO.yld (Yld.pickAnd' EVx (fun h => (EVc h EVx)) (evo_const _ _)) ?_
        refine WO.yld (Yld.move EVx) ?_
        refine WO.gyF0 rfl EVx (fun hp => Yld.move EVx) ?_
        refine WO.gpF0 rfl EVx (fun hp => Chn.callZ (evo_func _ _) (AC (EVc hp EVx) (AC (evo_const _ _) AN)) ((in_code _ (hasT u.Kind) .Q 81 rfl (by omega)).pz)) fun h76 le76 => ?_
        replace hn_4 := hn_4.mono le76
        refine WO.gyF0 rfl EVx (fun hp => Yld.not (EVc hp EVx)) ?_
        refine WO.gyF0 rfl EVx (fun hp => Yld.move (EVc hp EVx)) ?_
        refine WO.gyT rfl EVx (fun hp => Yld.fieldAddrL (o' := 36) EVx rfl) ?_
        refine WO.gyT rfl EVx (fun hp => Yld.ld1 (EVc hp EVx) At.head) ?_
        refine WO.gyT rfl EVx (fun hp => Sl.lenS hn.q (EVc hp EVx)) ?_
        refine WO.gyT rfl EVx (fun hp => Yld.gtr (EVc hp EVx) (evo_const _ _)) ?_
        refine WO.gyF0 rfl EVx (fun hp => Yld.pickAnd' (EVc hp EVx) (fun h => (EVc (ai hp h) EVx)) (evo_const _ _)) ?_
        refine WO.yld (Yld.pickOr' EVx (evo_const _ _) (fun h => (EVc (nf h) EVx))) ?_
        refine WO.yld (Yld.move EVx) ?_
        refine WO.gyF0 rfl EVx (fun hp => Yld.move EVx) ?_
        refine WO.gpF0 rfl EVx (fun hp => Chn.callZ (evo_func _ _) (AC (EVc hp EVx) (AC (evo_const _ _) AN)) ((in_code _ (hasT u.Kind) .R 82 rfl (by omega)).pz)) fun h87 le87 => ?_
        replace hn_4 := hn_4.mono le87
        refine WO.gyF0 rfl EVx (fun hp => Yld.not (EVc hp EVx)) ?_
        refine WO.gyF0 rfl EVx (fun hp => Yld.move (EVc hp EVx)) ?_
        refine WO.gyT rfl EVx (fun hp => Yld.fieldAddrL (o' := 37) EVx rfl) ?_
        refine WO.gyT rfl EVx (fun hp => Yld.ld1 (EVc hp EVx) At.head) ?_
        refine WO.gyT rfl EVx (fun hp => Sl.lenS hn.r (EVc hp EVx)) ?_
        refine WO.gyT rfl EVx (fun hp => Yld.gtr (EVc hp EVx) (evo_const _ _)) ?_
        refine WO.gyF0 rfl EVx (fun hp => Yld.pickAnd' (EVc hp EVx) (fun h => (EVc (ai hp h) EVx)) (evo_const _ _)) ?_
        refine WO.yld (Yld.pickOr' EVx (evo_const _ _) (fun h => (EVc (nf h) EVx))) ?_
        refine WO.nil ?_
        refine hK13 _ _ _ ?_
        clear hK13
        refine WS.cond EVx (fun c4 => ?_) (fun c4 => ?_)
        ·
          refine WS.seq fun K14 hK14 => ?_
          refine WS.region_lit ?_
          refine WO.yld (Yld.assign (evo_const _ _)) ?_
          refine WO.nil ?_
          refine hK14 _ _ _ ?_
          clear hK14
          refine WS.ret ?_
          refine FnEnd.mk0 (RV.one (RO.tmpE EVx)) ?_
          -- @@ fin
          exact ⟨by rw [rightN_eq]; first | rw [hs1] at c1; rw [c1]; rfl | (rw [hs1] at c1; rw [hna, hnb] at c2; have c2 : r2N u = _ := c2; rw [c1, c2]; first | rfl | (rw [hnx, hny] at c3; have c3 : r3N u = _ := c3; rw [c3]; first | rfl | (have c4 : r4N u = _ := c4; rw [c4]; rfl))), rfl⟩
        ·
          refine WS.skip ?_
          refine hK12 _ _ _ ?_
          clear hK12
          refine WS.seq fun K15 hK15 => ?_
          refine WS.region_lit ?_
          refine WO.yld (Yld.fieldAddrL (o' := 35) EVx rfl) ?_
          refine WO.yld (Yld.ld1 EVx At.head) ?_
          refine WO.yld (Sl.lenS hn.p EVx) ?_
          refine WO.yld (Yld.leq EVx (evo_const _ _)) ?_
          refine WO.yld (Yld.move EVx) ?_
          refine WO.gyT0 rfl EVx (fun hp => Yld.fieldAddrL (o' := 36) EVx rfl) ?_
          refine WO.gyT0 rfl EVx (fun hp => Yld.ld1 (EVc hp EVx) At.head) ?_
          refine WO.gyT0 rfl EVx (fun hp => Sl.lenS hn.q (EVc hp EVx)) ?_
          refine WO.gyT0 rfl EVx (fun hp => Yld.leq (EVc hp EVx) (evo_const _ _)) ?_
          refine WO.yld (Yld.pickAnd' EVx (fun h => (EVc h EVx)) (evo_const _ _)) ?_
          refine WO.yld (Yld.move EVx) ?_
          refine WO.gyT0 rfl EVx (fun hp => Yld.fieldAddrL (o' := 37) EVx rfl) ?_
          refine WO.gyT0 rfl EVx (fun hp => Yld.ld1 (EVc hp EVx) At.head) ?_
          refine WO.gyT0 rfl EVx (fun hp => Sl.lenS hn.r (EVc hp EVx)) ?_
          refine WO.gyT0 rfl EVx (fun hp => Yld.leq (EVc hp EVx) (evo_const _ _)) ?_
          refine WO.yld (Yld.pickAnd' EVx (fun h => (EVc h EVx)) (evo_const _ _)) ?_
          refine WO.yld (Yld.assign EVx) ?_
          refine WO.nil ?_
          refine hK15 _ _ _ ?_
          clear hK15
          refine WS.ret ?_
          refine FnEnd.mk0 (RV.one (RO.tmpE EVx)) ?_
          -- @@ fin
          exact ⟨by rw [rightN_eq]; first | rw [hs1] at c1; rw [c1]; rfl | (rw [hs1] at c1; rw [hna, hnb] at c2; have c2 : r2N u = _ := c2; rw [c1, c2]; first | rfl | (rw [hnx, hny] at c3; have c3 : r3N u = _ := c3; rw [c3]; first | rfl | (have c4 : r4N u = _ := c4; rw [c4]; rfl))), rfl⟩
end Go.Proofs
