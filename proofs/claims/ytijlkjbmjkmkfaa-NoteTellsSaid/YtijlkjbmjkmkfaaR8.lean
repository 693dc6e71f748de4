/- NoteTells. Conditions: the notes and the bytes can be read, and are not longer than any that comes in. -/
import Derived.Test.YtijlkjbmjkmkfaaR7
namespace Go.Proofs
open Go Go.Bz

theorem isSome_right (u : NoteP) : (putN u).isSome = rightN u := by unfold putN; split <;> simp_all
theorem noteTells_ok (h : PH) (m : Arr2NoteM) (u0 u1 : NoteP) (v : Value) (l : List UInt8) (hn0 : NR h m.e0 u0) (hn1 : NR h m.e1 u1) (hw0 : NoteP.Wide u0) (hw1 : NoteP.Wide u1) (hv : Bs h v l) (hl : l.length ≤ 140737488355328) :
    Ct Try.prog 4 #[m.v, v] h [] (Pu (.bool true)) := by
  refine Ct.enter (n := 100) (rs := #[.tmp 4]) Try.func4 rfl rfl rfl (by simp) ?_
  intro E hE
  rw [fr2]
  refine WS.seq fun K1 hK1 => ?_
  refine WS.region_lit ?_
  refine WO.chn rfl (Chn.bx EVx fun b2 => ?_)
  refine WO.yld (Yld.assign (evo_const _ _)) ?_
  refine WO.nil ?_
  refine hK1 _ _ _ ?_
  clear hK1
  refine WS.seq fun K2 hK2 => ?_
  refine WS.region_lit ?_
  refine WO.cZ rfl (Chn.callZ (evo_func _ _) AN ((awake10_ok _).pz)) ?_
  rintro _ h18 le18 rfl
  replace hn0 := hn0.mono le18
  replace hn1 := hn1.mono le18
  replace hv := hv.mono le18
  refine WO.yld (Yld.assign EVx) ?_
  refine WO.nil ?_
  refine hK2 _ _ _ ?_
  clear hK2
  refine WS.seq fun K3 hK3 => ?_
  refine WS.region_lit ?_
  refine WO.yld (Yld.indexAddrL (o' := 0) EVx rfl (by decide) (by decide) rfl) ?_
  refine WO.yld (Yld.ldN EVx At.head) ?_
  refine WO.chn rfl (Chn.alloc fun b6 => ?_)
  refine WO.chn rfl (Chn.st EVx EVx Put.head ?_)
  refine WO.nil ?_
  refine hK3 _ _ _ ?_
  clear hK3
  refine WS.seq fun K4 hK4 => ?_
  refine WS.region_lit ?_
  refine WO.yld (Yld.indexAddrL (o' := 38) EVx rfl (by decide) (by decide) rfl) ?_
  refine WO.yld (Yld.ldN EVx (At.tail At.head)) ?_
  refine WO.chn rfl (Chn.alloc fun b7 => ?_)
  refine WO.chn rfl (Chn.st EVx EVx Put.head ?_)
  refine WO.nil ?_
  refine hK4 _ _ _ ?_
  clear hK4
  refine WS.seq fun K5 hK5 => ?_
  refine WS.seq fun K6 hK6 => ?_
  refine WS.region_lit ?_
  refine WO.yld (Yld.ldN EVx (At.tail At.head)) ?_
  refine WO.cZ rfl (Chn.callZ (evo_func _ _) (AC EVx AN) ((small_ok _ m.e0 _ hn0 hw0).pz)) ?_
  rintro _ h24 le24 rfl
  replace hn0 := hn0.mono le24
  replace hn1 := hn1.mono le24
  replace hv := hv.mono le24
  refine WO.yld (Yld.not EVx) ?_
  refine WO.yld (Yld.move EVx) ?_
  refine WO.gyF0 rfl EVx (fun hp => Yld.ldN EVx At.head) ?_
  refine WO.gpF0 rfl EVx (fun hp => Chn.callZ (evo_func _ _) (AC (EVc hp EVx) AN) ((small_ok _ m.e1 _ hn1 hw1).pz)) fun h28 le28 => ?_
  replace hn0 := hn0.mono le28
  replace hn1 := hn1.mono le28
  replace hv := hv.mono le28
  refine WO.gyF0 rfl EVx (fun hp => Yld.not (EVc hp EVx)) ?_
  refine WO.yld (Yld.pickOr' EVx (evo_const _ _) (fun h => (EVc (nf h) EVx))) ?_
  refine WO.yld (Yld.move EVx) ?_
  refine WO.gyF0 rfl EVx (fun hp => Yld.move EVx) ?_
  refine WO.gyF0 rfl EVx (fun hp => Sl.lenS hv (EVc hp EVx)) ?_
  refine WO.gyF0 rfl EVx (fun hp => Yld.gtr (EVc hp EVx) (evo_const _ _)) ?_
  refine WO.yld (Yld.pickOr' EVx (evo_const _ _) (fun h => (EVc (nf h) EVx))) ?_
  refine WO.nil ?_
  refine hK6 _ _ _ ?_
  clear hK6
  -- @@ cond t35
  refine WS.cond EVx (fun c1 => ?_) (fun c1 => ?_)
  ·
    refine WS.seq fun K7 hK7 => ?_
    refine WS.region_lit ?_
    refine WO.yld (Yld.move EVx) ?_
    refine WO.yld (Yld.assign EVx) ?_
    refine WO.nil ?_
    refine hK7 _ _ _ ?_
    clear hK7
    refine WS.ret ?_
    refine FnEnd.mk0 (RV.one (RO.tmpE EVx)) ?_
    -- @@ fin
    exact ⟨rfl, rfl⟩
  ·
    have c1 : smallN u0 = true ∧ smallN u1 = true ∧ l.length ≤ 2000 := by
      simp at c1
      exact ⟨c1.1.1, c1.1.2, by omega⟩
    have hu0 := smallN_fits c1.1
    have hu1 := smallN_fits c1.2.1
    have hls : l.length < 1000000000000 := by omega
    refine WS.skip ?_
    refine hK5 _ _ _ ?_
    clear hK5
    refine WS.seq fun K7 hK7 => ?_
    refine WS.region_lit ?_
    refine WO.yld (Yld.indexAddrL (o' := 0) EVx rfl (by decide) (by decide) rfl) ?_
    refine WO.yld (Yld.ldN EVx (At.tail (At.tail At.head))) ?_
    refine WO.cZ rfl (Chn.callZ (evo_func _ _) (AC EVx AN) (nput_ok _ m.e0 _ hn0 hu0)) ?_
    rintro _ h40 le40 ⟨s40, rfl, hb40⟩
    replace hn0 := hn0.mono le40
    replace hn1 := hn1.mono le40
    replace hv := hv.mono le40
    refine WO.yld (Yld.move EVx) ?_
    refine WO.yld (Yld.ext0 EVx) ?_
    refine WO.yld (Yld.ext1 EVx) ?_
    refine WO.yld (Yld.assign EVx) ?_
    refine WO.yld (Yld.assign EVx) ?_
    refine WO.nil ?_
    refine hK7 _ _ _ ?_
    clear hK7
    refine WS.seq fun K8 hK8 => ?_
    refine WS.region_lit ?_
    refine WO.yld (Yld.ldN EVx (At.tail At.head)) ?_
    -- @@ op: t45 := CALL F25[t44] ty[37] : T25   info {44: None}
    refine WO.cZ rfl (Chn.callZ (evo_func _ _) (AC EVx AN) (rnput_ok _ m.e0 _ hn0 hu0)) ?_
    rintro _ h45 le45 ⟨s45, rfl, hb45⟩
    replace hn0 := hn0.mono le45
    replace hn1 := hn1.mono le45
    replace hv := hv.mono le45
    replace hb40 := hb40.mono le45
    refine WO.yld (Yld.move EVx) ?_
    refine WO.yld (Yld.ext0 EVx) ?_
    refine WO.yld (Yld.ext1 EVx) ?_
    refine WO.yld (Yld.assign EVx) ?_
    refine WO.yld (Yld.assign EVx) ?_
    refine WO.nil ?_
    refine hK8 _ _ _ ?_
    clear hK8
    refine WS.seq fun K9 hK9 => ?_
    refine WS.region_lit ?_
    refine WO.yld (Yld.move EVx) ?_
    -- @@ op: t50 := CALL F26[t49] ty[22] : T41   info {49: {'k': 'sl', 'f': 'hv', 'bs': True, 'el': False}}
    refine WO.cZ rfl (Chn.callZ (evo_func _ _) (AC EVx AN) (nread_ok _ _ _ hv hls)) ?_
    rintro _ h50 le50 ⟨n50, rfl, hn50⟩
    replace hn0 := hn0.mono le50
    replace hn1 := hn1.mono le50
    replace hv := hv.mono le50
    replace hb40 := hb40.mono le50
    replace hb45 := hb45.mono le50
    refine WO.yld (Yld.move EVx) ?_
    refine WO.yld (Yld.ext0 EVx) ?_
    refine WO.yld (Yld.ext1 EVx) ?_
    refine WO.chn rfl (Chn.alloc fun b12 => ?_)
    refine WO.chn rfl (Chn.st EVx EVx Put.head ?_)
    refine WO.yld (Yld.assign EVx) ?_
    refine WO.nil ?_
    refine hK9 _ _ _ ?_
    clear hK9
    refine WS.seq fun K10 hK10 => ?_
    refine WS.region_lit ?_
    refine WO.yld (Yld.move EVx) ?_
    -- @@ op: t55 := CALL F27[t54] ty[22] : T43   info {54: {'k': 'sl', 'f': 'hv', 'bs': True, 'el': False}}
    refine WO.cZ rfl (Chn.callZ (evo_func _ _) (AC EVx AN) (rnread_ok _ _ _ hv hls)) ?_
    rintro _ h55 le55 ⟨n55, rfl, hn55⟩
    replace hn0 := hn0.mono le55
    replace hn1 := hn1.mono le55
    replace hv := hv.mono le55
    replace hb40 := hb40.mono le55
    replace hb45 := hb45.mono le55
    replace hn50 := hn50.mono le55
    refine WO.yld (Yld.move EVx) ?_
    refine WO.yld (Yld.ext0 EVx) ?_
    refine WO.yld (Yld.ext1 EVx) ?_
    refine WO.chn rfl (Chn.alloc fun b14 => ?_)
    refine WO.chn rfl (Chn.st EVx EVx Put.head ?_)
    refine WO.yld (Yld.assign EVx) ?_
    refine WO.nil ?_
    refine hK10 _ _ _ ?_
    clear hK10
    refine WS.seq fun K11 hK11 => ?_
    refine WS.region_lit ?_
    refine WO.yld (Yld.move EVx) ?_
    refine WO.yld (Yld.move EVx) ?_
    -- @@ op: t60 := CALL F21[t58, t59] ty[22, 22] : T4   info {58: None, 59: None}
    have hlen : ((putN u0).getD []).length < 1000000000000 := by
      unfold putN
      split
      · rename_i hr
        have := encs_len (partsN u0) (putN_eq hr).1
        have := partsN_len u0
        simp; omega
      · simp
    have hrd : ((readN l).getD NoteP.zero).Fits := by
      cases e : readN l with
      | none => exact NoteP.zero_fits
      | some w => exact rightN_fits (putN_read e).1
    refine WO.cZ rfl (Chn.callZ (evo_func _ _) (AC EVx (AC EVx AN)) ((same_pu _ _ _ _ _ hb40 hb45 hlen).pz)) ?_
    rintro _ h60 le60 rfl
    replace hn0 := hn0.mono le60
    replace hn1 := hn1.mono le60
    replace hv := hv.mono le60
    replace hb40 := hb40.mono le60
    replace hb45 := hb45.mono le60
    replace hn50 := hn50.mono le60
    replace hn55 := hn55.mono le60
    refine WO.yld (Yld.assign EVx) ?_
    refine WO.nil ?_
    refine hK11 _ _ _ ?_
    clear hK11
    refine WS.seq fun K12 hK12 => ?_
    refine WS.region_lit ?_
    refine WO.yld (Yld.ldN EVx (At.tail At.head)) ?_
    refine WO.yld (Yld.ldN EVx At.head) ?_
    -- @@ op: t63 := CALL F28[t61, t62] ty[37, 37] : T4   info {61: None, 62: None}
    refine WO.cZ rfl (Chn.callZ (evo_func _ _) (AC EVx (AC EVx AN)) ((rsame_ok _ n50 n55 _ _ hn50 hn55 hrd).pz)) ?_
    rintro _ h63 le63 rfl
    replace hn0 := hn0.mono le63
    replace hn1 := hn1.mono le63
    replace hv := hv.mono le63
    replace hb40 := hb40.mono le63
    replace hb45 := hb45.mono le63
    replace hn50 := hn50.mono le63
    replace hn55 := hn55.mono le63
    refine WO.yld (Yld.assign EVx) ?_
    refine WO.nil ?_
    refine hK12 _ _ _ ?_
    clear hK12
    refine WS.seq fun K13 hK13 => ?_
    refine WS.draw [] [(0, 2), (1, 2), (2, 2), (3, 1), (5, 1), (4, 0), (6, 0), (7, 2), (8, 2), (9, 2), (10, 2), (11, 2), (12, 2), (13, 2), (14, 2), (15, 2), (16, 2), (17, 2), (18, 2), (19, 2), (20, 2), (21, 2), (22, 2), (23, 2), (24, 2), (25, 2), (26, 2), (27, 1), (28, 2), (29, 1), (31, 1), (32, 1), (30, 0), (33, 0), (34, 2), (35, 2), (36, 2)] _ (by kernel_rfl) (by kernel_rfl) (by decide) (fun _ hm => hm) ?_
    refine WPl.wl rfl (Yld.move EVx) ?_
    refine WPl.wl rfl (Yld.move EVx) ?_
    refine WPl.wlT0 rfl rfl EVx (fun hp => Yld.indexAddrL (o' := 0) EVx rfl (by decide) (by decide) rfl) ?_
    refine WPl.rdT0 rfl rfl EVx (fun hp => Yld.ldN (EVc hp EVx) (At.tail (At.tail (At.tail (At.tail At.head))))) ?_
    refine WPl.rdT0 rfl rfl EVx (fun hp => Yld.ldN EVx (At.tail (At.tail (At.tail At.head)))) ?_
    refine WPl.gpT0 rfl rfl EVx (fun hp => Chn.callZ (evo_func _ _) (AC (EVc hp EVx) AN) ((right_ok _ m.e0 _ hn0 hu0).pz)) ⟨PH.le_refl _, fun _ hm => hm⟩ fun h68 le68 => ?_
    have hn0_1 := hn0.mono le68
    have hn1_1 := hn1.mono le68
    have hv_1 := hv.mono le68
    have hb40_1 := hb40.mono le68
    have hb45_1 := hb45.mono le68
    have hn50_1 := hn50.mono le68
    have hn55_1 := hn55.mono le68
    refine WPl.gpT0 rfl rfl EVx (fun hp => Chn.callZ (evo_func _ _) (AC (EVc hp EVx) AN) ((rright_ok _ m.e0 _ hn0_1 hu0).pz)) ⟨le68, fun _ hm => hm⟩ fun h70 le70 => ?_
    have hn0_2 := hn0_1.mono le70
    have hn1_2 := hn1_1.mono le70
    have hv_2 := hv_1.mono le70
    have hb40_2 := hb40_1.mono le70
    have hb45_2 := hb45_1.mono le70
    have hn50_2 := hn50_1.mono le70
    have hn55_2 := hn55_1.mono le70
    refine WPl.wlT0 rfl rfl EVx (fun hp => Yld.eqlB (EVc hp EVx) (EVc hp EVx)) ?_
    refine WPl.wl rfl (Yld.pickAnd' EVx (fun h => (EVc h EVx)) (evo_const _ _)) ?_
    refine WPl.wl rfl (Yld.move EVx) ?_
    refine WPl.wlT0 rfl rfl EVx (fun hp => Yld.move EVx) ?_
    refine WPl.wl rfl (Yld.pickAnd' EVx (fun h => (EVc h EVx)) (evo_const _ _)) ?_
    refine WPl.wl rfl (Yld.move EVx) ?_
    refine WPl.wlT0 rfl rfl EVx (fun hp => Yld.move EVx) ?_
    refine WPl.wlT0 rfl rfl EVx (fun hp => Yld.move EVx) ?_
    refine WPl.wlT0 rfl rfl EVx (fun hp => Yld.eqlI (EVc hp EVx) (EVc hp EVx)) ?_
    refine WPl.wl rfl (Yld.pickAnd' EVx (fun h => (EVc h EVx)) (evo_const _ _)) ?_
    refine WPl.wl rfl (Yld.move EVx) ?_
    refine WPl.wlT0 rfl rfl EVx (fun hp => Yld.move EVx) ?_
    refine WPl.wl rfl (Yld.pickAnd' EVx (fun h => (EVc h EVx)) (evo_const _ _)) ?_
    refine WPl.wl rfl (Yld.move EVx) ?_
    refine WPl.wlT0 rfl rfl EVx (fun hp => Yld.move EVx) ?_
    refine WPl.wlT0 rfl rfl EVx (fun hp => Yld.move EVx) ?_
    refine WPl.wlT0 rfl rfl EVx (fun hp => Yld.eqlI (EVc hp EVx) (EVc hp EVx)) ?_
    refine WPl.wl rfl (Yld.pickAnd' EVx (fun h => (EVc h EVx)) (evo_const _ _)) ?_
    refine WPl.wl rfl (Yld.move EVx) ?_
    refine WPl.wlT0 rfl rfl EVx (fun hp => Yld.indexAddrL (o' := 0) EVx rfl (by decide) (by decide) rfl) ?_
    refine WPl.rdT0 rfl rfl EVx (fun hp => Yld.ldN (EVc hp EVx) (At.tail (At.tail (At.tail (At.tail At.head))))) ?_
    refine WPl.wlT0 rfl rfl EVx (fun hp => Yld.indexAddrL (o' := 38) EVx rfl (by decide) (by decide) rfl) ?_
    refine WPl.rdT0 rfl rfl EVx (fun hp => Yld.ldN (EVc hp EVx) (At.tail (At.tail (At.tail (At.tail At.head))))) ?_
    refine WPl.rdT0 rfl rfl EVx (fun hp => Yld.ldN EVx (At.tail (At.tail (At.tail At.head)))) ?_
    refine WPl.rdT0 rfl rfl EVx (fun hp => Yld.ldN EVx (At.tail (At.tail At.head))) ?_
    refine WPl.gpT0 rfl rfl EVx (fun hp => Chn.callZ (evo_func _ _) (AC (EVc hp EVx) (AC (EVc hp EVx) AN)) ((nsame_ok _ m.e0 m.e1 _ _ hn0_2 hn1_2 hu0).pz)) ⟨PH.le_trans (le68) le70, fun _ hm => hm⟩ fun h94 le94 => ?_
    have hn0_3 := hn0_2.mono le94
    have hn1_3 := hn1_2.mono le94
    have hv_3 := hv_2.mono le94
    have hb40_3 := hb40_2.mono le94
    have hb45_3 := hb45_2.mono le94
    have hn50_3 := hn50_2.mono le94
    have hn55_3 := hn55_2.mono le94
    refine WPl.gpT0 rfl rfl EVx (fun hp => Chn.callZ (evo_func _ _) (AC (EVc hp EVx) (AC (EVc hp EVx) AN)) ((rsame_ok _ m.e0 m.e1 _ _ hn0_3 hn1_3 hu0).pz)) ⟨PH.le_trans (PH.le_trans (le68) le70) le94, fun _ hm => hm⟩ fun h97 le97 => ?_
    have hn0_4 := hn0_3.mono le97
    have hn1_4 := hn1_3.mono le97
    have hv_4 := hv_3.mono le97
    have hb40_4 := hb40_3.mono le97
    have hb45_4 := hb45_3.mono le97
    have hn50_4 := hn50_3.mono le97
    have hn55_4 := hn55_3.mono le97
    refine WPl.wlT0 rfl rfl EVx (fun hp => Yld.eqlB (EVc hp EVx) (EVc hp EVx)) ?_
    refine WPl.wl rfl (Yld.pickAnd' EVx (fun h => (EVc h EVx)) (evo_const _ _)) ?_
    refine WPl.wl rfl (Yld.assign EVx) ?_
    refine WPl.nil ?_
    refine hK13 _ _ _ ?_
    clear hK13
    refine WS.ret ?_
    refine FnEnd.mk0 (RV.one (RO.tmpE EVx)) ?_
    -- @@ fin
    refine ⟨?_, rfl⟩
    rw [sameN_refl, decide_eq_true rfl]
    simp
end Go.Proofs
