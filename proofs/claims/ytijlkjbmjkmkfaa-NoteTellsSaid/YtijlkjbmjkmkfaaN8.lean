/- NoteBack. Conditions: the note and the bytes can be read, and are not longer than any that comes in. -/
import Derived.Test.YtijlkjbmjkmkfaaN7
import Derived.Test.YtijlkjbmjkmkfaaS5
namespace Go.Proofs
open Go Go.Bz

structure NoteP.Wide (u : NoteP) : Prop where
  a : u.A.size ≤ 140737488355328
  b : u.B.size ≤ 140737488355328
  p : u.P.length ≤ 140737488355328
  q : u.Q.length ≤ 140737488355328
  r : u.R.length ≤ 140737488355328
def smallN (u : NoteP) : Bool := decide (u.A.size + u.B.size + u.P.length + u.Q.length + u.R.length ≤ 2000)
theorem smallN_fits {u : NoteP} (h : smallN u = true) : u.Fits := by
  have := of_decide_eq_true h
  exact ⟨by omega, by omega, by omega, by omega, by omega⟩
theorem small_ok (h : PH) (n : NoteM) (u : NoteP) (hn : NR h n u) (hw : NoteP.Wide u) : Ct Try.prog 23 #[n.v] h [] (Pu (.bool (smallN u))) := by
  refine Ct.enter (n := 23) (rs := #[.tmp 2]) Try.func23 rfl rfl rfl (by simp) ?_
  intro E hE
  rw [fr1]
  have hp := hn.p
  have hq := hn.q
  have hr := hn.r
  refine WS.seq fun K1 hK1 => ?_
  refine WS.region_lit ?_
  refine WO.chn rfl (Chn.bx EVx fun b1 => ?_)
  refine WO.yld (Yld.assign (evo_const _ _)) ?_
  refine WO.nil ?_
  refine hK1 _ _ _ ?_
  clear hK1
  refine WS.seq fun K2 hK2 => ?_
  refine WS.region_lit ?_
  refine WO.yld (Yld.fieldAddrL (o' := 1) EVx rfl) ?_
  refine WO.yld (Yld.ld1 EVx At.head) ?_
  refine WO.yld (Yld.lenStr EVx) ?_
  refine WO.yld (Yld.fieldAddrL (o' := 2) EVx rfl) ?_
  refine WO.yld (Yld.ld1 EVx At.head) ?_
  refine WO.yld (Yld.lenStr EVx) ?_
  refine WO.yld (Yld.add EVx EVx) ?_
  refine WO.yld (Yld.fieldAddrL (o' := 35) EVx rfl) ?_
  refine WO.yld (Yld.ld1 EVx At.head) ?_
  refine WO.yld (Sl.lenS hp EVx) ?_
  refine WO.yld (Yld.add EVx EVx) ?_
  refine WO.yld (Yld.fieldAddrL (o' := 36) EVx rfl) ?_
  refine WO.yld (Yld.ld1 EVx At.head) ?_
  refine WO.yld (Sl.lenS hq EVx) ?_
  refine WO.yld (Yld.add EVx EVx) ?_
  refine WO.yld (Yld.fieldAddrL (o' := 37) EVx rfl) ?_
  refine WO.yld (Yld.ld1 EVx At.head) ?_
  refine WO.yld (Sl.lenS hr EVx) ?_
  refine WO.yld (Yld.add EVx EVx) ?_
  refine WO.yld (Yld.leq EVx (evo_const _ _)) ?_
  refine WO.yld (Yld.assign EVx) ?_
  refine WO.nil ?_
  refine hK2 _ _ _ ?_
  clear hK2
  refine WS.ret ?_
  refine FnEnd.mk0 (RV.one (RO.tmpE EVx)) ?_
  -- @@ fin
  refine ⟨?_, rfl⟩
  rw [hn.a, hn.b]
  obtain ⟨wa, wb, wp, wq, wr⟩ := hw
  unfold smallN
  rw [wrap_i64 (x := (u.A.size : Int) + _) (by omega) (by omega), wrap_i64 (x := (u.A.size : Int) + _ + _) (by omega) (by omega), wrap_i64 (x := (u.A.size : Int) + _ + _ + _) (by omega) (by omega), wrap_i64 (by omega) (by omega)]
  congr 1
  rw [decide_eq_decide]; omega
def word7 : AB 16 := ⟨7 :: List.replicate 15 0, rfl⟩
def noteW : NoteP := { NoteP.zero with Kind := 2, B := ⟨#[98, 111, 98]⟩, P := [120, 121], Y := word7 }
def noteW28 : List UInt8 := [2, 0, 3, 98, 111, 98, 0, 2, 120, 121, 0, 16, 7, 0, 0, 0, 0, 0, 0, 0, 0, 0, 0, 0, 0, 0, 0, 0]
theorem noteW_right : rightN noteW = true := by kernel_rfl
theorem noteW_put : putN noteW = some noteW28 := by kernel_rfl
theorem noteW_read : readN noteW28 = some noteW := by
  have h := readN_put noteW_right
  have e : Bz.byteOf noteW.Kind :: encs (partsN noteW) = noteW28 := by kernel_rfl
  rw [e] at h; exact h
theorem noteV_put : putN { NoteP.zero with Kind := 2, A := ⟨#[98, 111, 98]⟩ } = none := by kernel_rfl
theorem noteW_fits : noteW.Fits := ⟨by decide, by decide, by decide, by decide, by decide⟩
theorem awake10_ok (h : PH) : Ct Try.prog 22 #[] h [] (Pu (.bool true)) := by
  refine Ct.enter (n := 69) (rs := #[.tmp 0]) Try.func22 rfl rfl rfl (by simp) ?_
  intro E hE
  rw [fr0]
  refine WS.seq fun K1 hK1 => ?_
  refine WS.region_lit ?_
  refine WO.yld (Yld.assign (evo_const _ _)) ?_
  refine WO.nil ?_
  refine hK1 _ _ _ ?_
  clear hK1
  refine WS.seq fun K2 hK2 => ?_
  refine WS.region_lit ?_
  -- @@ op: t8 := buildSlice 22 2 [(0, c120:u8), (1, c121:u8)] : T22   info {}
  refine WO.chn rfl (Chn.buildSliceE (sz := 1) (Parts.cons (v := .int .u8 120) EVx (Parts.cons (v := .int .u8 121) EVx Parts.nil)) (rfl : _ = bc [120, 121]) rfl (by decide) fun b8 => ?_)
  refine WO.chn rfl (Chn.strLitS EVx rfl (by simp [maxLen]) rfl fun s9 h9 le9 hb9 => ?_)
  have hn : NR h9 { NoteM.zero with Kind := 2, B := ⟨#[98, 111, 98]⟩, P := s9, Y := word7 } noteW := ⟨rfl, rfl, rfl, rfl, rfl, hb9, Bs.nil _, Bs.nil _⟩
  refine WO.yld ((show Yld _ _ _ _ _ _ word7.v from fun w _ => by kernel_rfl)) ?_
  refine WO.yld (Yld.build (Fills.cons rfl (evo_const _ _) (Fills.cons rfl (evo_const _ _) (Fills.cons rfl EVx (Fills.cons rfl EVx Fills.nil))))) ?_
  refine WO.chn rfl (Chn.alloc fun b1 => ?_)
  refine WO.chn rfl (Chn.st EVx EVx Put.head ?_)
  refine WO.nil ?_
  refine hK2 _ _ _ ?_
  clear hK2
  refine WS.seq fun K3 hK3 => ?_
  refine WS.region_lit ?_
  refine WO.yld (Yld.ldN EVx At.head) ?_
  refine WO.cZ rfl (Chn.callZ (evo_func _ _) (AC EVx AN) (nput_ok _ _ _ hn noteW_fits)) ?_
  rintro _ h14 le14 ⟨s14, rfl, hb14⟩
  replace hn := hn.mono le14
  refine WO.yld (Yld.move EVx) ?_
  refine WO.yld (Yld.ext0 EVx) ?_
  refine WO.yld (Yld.ext1 EVx) ?_
  refine WO.yld (Yld.assign EVx) ?_
  refine WO.yld (Yld.assign EVx) ?_
  refine WO.nil ?_
  refine hK3 _ _ _ ?_
  clear hK3
  refine WS.seq fun K4 hK4 => ?_
  refine WS.region_lit ?_
  refine WO.yld (Yld.move EVx) ?_
  -- @@ op: t19 := CALL F26[t18] ty[22] : T41   info {18: None}
  rw [noteW_put] at hb14 ⊢
  have hb14 : Bs h14 s14.v noteW28 := hb14
  refine WO.cZ rfl (Chn.callZ (evo_func _ _) (AC EVx AN) (nread_ok _ _ _ hb14 (by decide))) ?_
  rintro _ h19 le19 ⟨n19, rfl, hn19⟩
  replace hn := hn.mono le19
  replace hb14 := hb14.mono le19
  refine WO.yld (Yld.move EVx) ?_
  refine WO.yld (Yld.ext0 EVx) ?_
  refine WO.yld (Yld.ext1 EVx) ?_
  refine WO.chn rfl (Chn.alloc fun b4 => ?_)
  refine WO.chn rfl (Chn.st EVx EVx Put.head ?_)
  refine WO.yld (Yld.assign EVx) ?_
  refine WO.nil ?_
  refine hK4 _ _ _ ?_
  clear hK4
  refine WS.seq fun K5 hK5 => ?_
  refine WS.region_lit ?_
  refine WO.yld (Yld.build (Fills.cons rfl (evo_const _ _) (Fills.cons rfl (evo_const _ _) Fills.nil))) ?_
  -- @@ op: t24 := CALL F24[t23] ty[35] : T25   info {23: None}
  rw [noteW_read] at hn19 ⊢
  have hn19 : NR h19 n19 noteW := hn19
  have hnz := fun h => NR.zero h
  refine WO.cZ rfl (Chn.callZ (evo_func _ _) (AC EVx AN) (nput_ok _ { NoteM.zero with Kind := 2, A := ⟨#[98, 111, 98]⟩ } { NoteP.zero with Kind := 2, A := ⟨#[98, 111, 98]⟩ } ⟨rfl, rfl, rfl, rfl, rfl, Bs.nil _, Bs.nil _, Bs.nil _⟩ ⟨by decide, by decide, by decide, by decide, by decide⟩)) ?_
  rintro _ h24 le24 ⟨s24, rfl, hb24⟩
  replace hn := hn.mono le24
  replace hb14 := hb14.mono le24
  replace hn19 := hn19.mono le24
  refine WO.yld (Yld.move EVx) ?_
  refine WO.yld (Yld.ext0 EVx) ?_
  refine WO.yld (Yld.ext1 EVx) ?_
  refine WO.yld (Yld.assign EVx) ?_
  refine WO.yld (Yld.assign EVx) ?_
  refine WO.nil ?_
  refine hK5 _ _ _ ?_
  clear hK5
  refine WS.seq fun K6 hK6 => ?_
  refine WS.region_lit ?_
  refine WO.yld (Yld.move EVx) ?_
  refine WO.yld (Yld.eqlI EVx (evo_const _ _)) ?_
  refine WO.yld (Yld.move EVx) ?_
  refine WO.gyT0 rfl EVx (fun hp => Yld.move EVx) ?_
  refine WO.gyT0 rfl EVx (fun hp => Sl.lenS hb14 (EVc hp EVx)) ?_
  refine WO.gyT0 rfl EVx (fun hp => Yld.eqlI (EVc hp EVx) (evo_const _ _)) ?_
  refine WO.yld (Yld.pickAnd' EVx (fun h => (EVc h EVx)) (evo_const _ _)) ?_
  refine WO.yld (Yld.move EVx) ?_
  refine WO.gyT0 rfl EVx (fun hp => Yld.move EVx) ?_
  refine WO.gyT0 rfl EVx (fun hp => Sl.indexL 0 hb14 (EVc hp EVx) rfl rfl (by first | omega | decide | (simp at hp; omega) | simp)) ?_
  refine WO.gyT0 rfl EVx (fun hp => Bs.load hb14 (EVc hp EVx) (by first | omega | decide | (simp at hp; omega) | simp)) ?_
  refine WO.gyT0 rfl EVx (fun hp => Yld.eqlI (EVc hp EVx) (evo_const _ _)) ?_
  refine WO.yld (Yld.pickAnd' EVx (fun h => (EVc h EVx)) (evo_const _ _)) ?_
  refine WO.yld (Yld.move EVx) ?_
  refine WO.gyT0 rfl EVx (fun hp => Yld.move EVx) ?_
  refine WO.gyT0 rfl EVx (fun hp => Sl.indexL 2 hb14 (EVc hp EVx) rfl rfl (by first | omega | decide | (simp at hp; omega) | simp)) ?_
  refine WO.gyT0 rfl EVx (fun hp => Bs.load hb14 (EVc hp EVx) (by first | omega | decide | (simp at hp; omega) | simp)) ?_
  refine WO.gyT0 rfl EVx (fun hp => Yld.eqlI (EVc hp EVx) (evo_const _ _)) ?_
  refine WO.yld (Yld.pickAnd' EVx (fun h => (EVc h EVx)) (evo_const _ _)) ?_
  refine WO.yld (Yld.move EVx) ?_
  refine WO.gyT0 rfl EVx (fun hp => Yld.move EVx) ?_
  refine WO.gyT0 rfl EVx (fun hp => Yld.eqlI (EVc hp EVx) (evo_const _ _)) ?_
  refine WO.yld (Yld.pickAnd' EVx (fun h => (EVc h EVx)) (evo_const _ _)) ?_
  refine WO.yld (Yld.move EVx) ?_
  refine WO.gyT0 rfl EVx (fun hp => Yld.ldN EVx (At.tail At.head)) ?_
  refine WO.gyT0 rfl EVx (fun hp => Yld.ldN EVx At.head) ?_
  refine WO.gpT0 rfl EVx (fun hp => Chn.callZ (evo_func _ _) (AC (EVc hp EVx) (AC (EVc hp EVx) AN)) ((nsame_ok _ _ n19 _ _ hn hn19 noteW_fits).pz)) fun h53 le53 => ?_
  replace hn := hn.mono le53
  replace hb14 := hb14.mono le53
  replace hn19 := hn19.mono le53
  refine WO.yld (Yld.pickAnd' EVx (fun h => (EVc h EVx)) (evo_const _ _)) ?_
  refine WO.yld (Yld.move EVx) ?_
  refine WO.gyT0 rfl EVx (fun hp => Yld.ldN EVx (At.tail At.head)) ?_
  refine WO.gpT0 rfl EVx (fun hp => Chn.callZ (evo_func _ _) (AC (EVc hp EVx) AN) ((right_ok _ _ _ hn noteW_fits).pz)) fun h57 le57 => ?_
  replace hn := hn.mono le57
  replace hb14 := hb14.mono le57
  replace hn19 := hn19.mono le57
  refine WO.yld (Yld.pickAnd' EVx (fun h => (EVc h EVx)) (evo_const _ _)) ?_
  refine WO.yld (Yld.move EVx) ?_
  refine WO.gyT0 rfl EVx (fun hp => Yld.move EVx) ?_
  refine WO.gyT0 rfl EVx (fun hp => Yld.eqlI (EVc hp EVx) (evo_const _ _)) ?_
  refine WO.yld (Yld.pickAnd' EVx (fun h => (EVc h EVx)) (evo_const _ _)) ?_
  refine WO.yld (Yld.move EVx) ?_
  refine WO.gyT0 rfl EVx (fun hp => Yld.ldN EVx (At.tail At.head)) ?_
  refine WO.gyT0 rfl EVx (fun hp => Yld.build Fills.nil) ?_
  refine WO.gpT0 rfl EVx (fun hp => Chn.callZ (evo_func _ _) (AC (EVc hp EVx) (AC (EVc hp EVx) AN)) ((nsame_ok _ _ NoteM.zero _ _ hn (NR.zero _) noteW_fits).pz)) fun h66 le66 => ?_
  replace hn := hn.mono le66
  replace hb14 := hb14.mono le66
  replace hn19 := hn19.mono le66
  refine WO.gyT0 rfl EVx (fun hp => Yld.not (EVc hp EVx)) ?_
  refine WO.yld (Yld.pickAnd' EVx (fun h => (EVc h EVx)) (evo_const _ _)) ?_
  refine WO.yld (Yld.assign EVx) ?_
  refine WO.nil ?_
  refine hK6 _ _ _ ?_
  clear hK6
  refine WS.ret ?_
  refine FnEnd.mk0 (RV.one (RO.tmpE EVx)) ?_
  -- @@ fin
  rw [noteV_put]
  refine ⟨?_, rfl⟩
  rw [sameN_refl, noteW_right]
  kernel_rfl

theorem noteBack_ok (h : PH) (n : NoteM) (u : NoteP) (v : Value) (l : List UInt8) (hn : NR h n u) (hw : NoteP.Wide u) (hv : Bs h v l) (hl : l.length ≤ 140737488355328) :
    Ct Try.prog 5 #[n.v, v] h [] (Pu (.bool true)) := by
  refine Ct.enter (n := 83) (rs := #[.tmp 4]) Try.func5 rfl rfl rfl (by simp) ?_
  intro E hE
  rw [fr2]
  refine WS.seq fun K1 hK1 => ?_
  refine WS.region_lit ?_
  refine WO.chn rfl (Chn.bx EVx fun b2 => ?_)
  refine WO.yld (Yld.assign (evo_const _ _)) ?_
  refine WO.nil ?_
  refine hK1 _ _ _ ?_
  clear hK1
  refine WS.seq fun K2 hK2 => ?_
  refine WS.region_lit ?_
  refine WO.cZ rfl (Chn.callZ (evo_func _ _) AN ((awake10_ok _).pz)) ?_
  rintro _ h15 le15 rfl
  replace hn := hn.mono le15
  replace hv := hv.mono le15
  refine WO.yld (Yld.assign EVx) ?_
  refine WO.nil ?_
  refine hK2 _ _ _ ?_
  clear hK2
  refine WS.seq fun K3 hK3 => ?_
  refine WS.seq fun K4 hK4 => ?_
  refine WS.region_lit ?_
  refine WO.yld (Yld.ldN EVx At.head) ?_
  refine WO.cZ rfl (Chn.callZ (evo_func _ _) (AC EVx AN) ((small_ok _ n _ hn hw).pz)) ?_
  rintro _ h17 le17 rfl
  replace hn := hn.mono le17
  replace hv := hv.mono le17
  refine WO.yld (Yld.not EVx) ?_
  refine WO.yld (Yld.move EVx) ?_
  refine WO.gyF0 rfl EVx (fun hp => Yld.move EVx) ?_
  refine WO.gyF0 rfl EVx (fun hp => Sl.lenS hv (EVc hp EVx)) ?_
  refine WO.gyF0 rfl EVx (fun hp => Yld.gtr (EVc hp EVx) (evo_const _ _)) ?_
  refine WO.yld (Yld.pickOr' EVx (evo_const _ _) (fun h => (EVc (nf h) EVx))) ?_
  refine WO.nil ?_
  refine hK4 _ _ _ ?_
  clear hK4
  -- @@ cond t23
  refine WS.cond EVx (fun c1 => ?_) (fun c1 => ?_)
  ·
    refine WS.seq fun K5 hK5 => ?_
    refine WS.region_lit ?_
    refine WO.yld (Yld.move EVx) ?_
    refine WO.yld (Yld.assign EVx) ?_
    refine WO.nil ?_
    refine hK5 _ _ _ ?_
    clear hK5
    refine WS.ret ?_
    refine FnEnd.mk0 (RV.one (RO.tmpE EVx)) ?_
    -- @@ fin
    exact ⟨rfl, rfl⟩
  ·
    have c1 : smallN u = true ∧ l.length ≤ 2000 := by
      simp at c1
      exact ⟨c1.1, by omega⟩
    have hu := smallN_fits c1.1
    have hls : l.length < 1000000000000 := by omega
    refine WS.skip ?_
    refine hK3 _ _ _ ?_
    clear hK3
    refine WS.seq fun K5 hK5 => ?_
    refine WS.region_lit ?_
    refine WO.yld (Yld.ldN EVx At.head) ?_
    refine WO.cZ rfl (Chn.callZ (evo_func _ _) (AC EVx AN) (nput_ok _ n _ hn hu)) ?_
    rintro _ h27 le27 ⟨s27, rfl, hb27⟩
    replace hn := hn.mono le27
    replace hv := hv.mono le27
    refine WO.yld (Yld.move EVx) ?_
    refine WO.yld (Yld.ext0 EVx) ?_
    refine WO.yld (Yld.ext1 EVx) ?_
    refine WO.yld (Yld.assign EVx) ?_
    refine WO.yld (Yld.assign EVx) ?_
    refine WO.nil ?_
    refine hK5 _ _ _ ?_
    clear hK5
    refine WS.seq fun K6 hK6 => ?_
    refine WS.seq fun K7 hK7 => ?_
    refine WS.region_lit ?_
    refine WO.yld (Yld.move EVx) ?_
    refine WO.yld (Yld.eqlI EVx (evo_const _ _)) ?_
    refine WO.yld (Yld.ldN EVx At.head) ?_
    -- @@ op: t33 := CALL F29[t32] ty[35] : T4   info {32: None}
    refine WO.cZ rfl (Chn.callZ (evo_func _ _) (AC EVx AN) ((right_ok _ n _ hn hu).pz)) ?_
    rintro _ h33 le33 rfl
    replace hn := hn.mono le33
    replace hv := hv.mono le33
    replace hb27 := hb27.mono le33
    refine WO.yld (Yld.neqB EVx EVx) ?_
    refine WO.nil ?_
    refine hK7 _ _ _ ?_
    clear hK7
    -- @@ cond t34
    have hput : (putN u).isSome = rightN u := by unfold putN; split <;> simp_all
    rw [hput] at *
    refine WS.cond EVx (fun c2 => ?_) (fun c2 => ?_)
    ·
      refine WS.seq fun K8 hK8 => ?_
      refine WS.region_lit ?_
      refine WO.yld (Yld.assign (evo_const _ _)) ?_
      refine WO.nil ?_
      refine hK8 _ _ _ ?_
      clear hK8
      refine WS.ret ?_
      refine FnEnd.mk0 (RV.one (RO.tmpE EVx)) ?_
      -- @@ fin
      cases hr : rightN u <;> rw [hr] at c2 <;> simp at c2
    ·
      refine WS.skip ?_
      refine hK6 _ _ _ ?_
      clear hK6
      refine WS.cut (fun f h' L => h33.le h' ∧ f 1 = v ∧ f 5 = .bool true) ?_ ?_
      ·
        refine WS.seq fun K8 hK8 => ?_
        refine WS.region_lit ?_
        refine WO.yld (Yld.move EVx) ?_
        refine WO.yld (Yld.eqlI EVx (evo_const _ _)) ?_
        refine WO.nil ?_
        refine hK8 _ _ _ ?_
        clear hK8
        -- @@ cond t36
        refine WS.cond EVx (fun c3 => ?_) (fun c3 => ?_)
        ·
          have hr : rightN u = true := by
            cases hr : rightN u with
            | true => rfl
            | false => rw [hr] at c3; simp at c3
          have hpe : putN u = some (Bz.byteOf u.Kind :: encs (partsN u)) := by unfold putN; rw [if_pos hr]
          have hen : (Bz.byteOf u.Kind :: encs (partsN u)).length < 1000000000000 := by
            have := encs_len (partsN u) (putN_eq hr).1
            have := partsN_len u
            simp; omega
          rw [hpe] at hb27
          refine WS.seq fun K9 hK9 => ?_
          refine WS.region_lit ?_
          refine WO.yld (Yld.move EVx) ?_
          refine WO.cZ rfl (Chn.callZ (evo_func _ _) (AC EVx AN) (nread_ok _ _ _ hb27 hen)) ?_
          rintro _ h39 le39 ⟨n39, rfl, hn39⟩
          replace hn := hn.mono le39
          replace hv := hv.mono le39
          replace hb27 := hb27.mono le39
          refine WO.yld (Yld.move EVx) ?_
          refine WO.yld (Yld.ext0 EVx) ?_
          refine WO.yld (Yld.ext1 EVx) ?_
          refine WO.chn rfl (Chn.alloc fun b8 => ?_)
          refine WO.chn rfl (Chn.st EVx EVx Put.head ?_)
          refine WO.yld (Yld.assign EVx) ?_
          refine WO.nil ?_
          refine hK9 _ _ _ ?_
          clear hK9
          refine WS.seq fun K10 hK10 => ?_
          refine WS.region_lit ?_
          refine WO.yld (Yld.move EVx) ?_
          refine WO.yld (Yld.neqI EVx (evo_const _ _)) ?_
          refine WO.yld (Yld.move EVx) ?_
          refine WO.gyF0 rfl EVx (fun hp => Yld.ldN EVx (At.tail At.head)) ?_
          refine WO.gyF0 rfl EVx (fun hp => Yld.ldN EVx At.head) ?_
          -- @@ op: t47 := CALL F31[t45, t46] ty[35, 35] : T4   [guard some (2, false)]   path (((43, 1), False),)   info {45: None, 46: None}
          rw [Option.getD_some, readN_put hr] at hn39
          rw [Option.getD_some, readN_put hr]
          have hn39 : NR h39 n39 u := hn39
          refine WO.gpF0 rfl EVx (fun hp => Chn.callZ (evo_func _ _) (AC (EVc hp EVx) (AC (EVc hp EVx) AN)) ((nsame_ok _ n n39 _ _ hn hn39 hu).pz)) fun h47 le47 => ?_
          replace hn := hn.mono le47
          replace hv := hv.mono le47
          replace hb27 := hb27.mono le47
          replace hn39 := hn39.mono le47
          refine WO.gyF0 rfl EVx (fun hp => Yld.not (EVc hp EVx)) ?_
          refine WO.yld (Yld.pickOr' EVx (evo_const _ _) (fun h => (EVc (nf h) EVx))) ?_
          refine WO.nil ?_
          refine hK10 _ _ _ ?_
          clear hK10
          -- @@ cond t49
          rw [sameN_refl]
          refine WS.cond (t := false) EVx (fun c => by cases c) (fun _ => ?_)
          refine WS.skip ?_
          -- @@ cutend
          exact ⟨PH.le_trans le39 le47, rfl, rfl⟩
        ·
          refine WS.skip ?_
          -- @@ cutend
          exact ⟨PH.le_refl _, rfl, rfl⟩
      · rintro f h0 L0 _ ⟨le0, f1, f5⟩
        obtain ⟨g, rfl⟩ : ∃ g, f = upd (upd g 1 v) 5 (.bool true) := ⟨f, by rw [upd_id f1, upd_id f5]⟩
        clear f1 f5
        replace hv := hv.mono le0
        refine WS.seq fun K8 hK8 => ?_
        refine WS.region_lit ?_
        refine WO.yld (Yld.move EVx) ?_
        refine WO.cZ rfl (Chn.callZ (evo_func _ _) (AC EVx AN) (nread_ok _ _ _ hv hls)) ?_
        rintro _ h52 le52 ⟨n52, rfl, hn52⟩
        replace hv := hv.mono le52
        refine WO.yld (Yld.move EVx) ?_
        refine WO.yld (Yld.ext0 EVx) ?_
        refine WO.yld (Yld.ext1 EVx) ?_
        refine WO.chn rfl (Chn.alloc fun b10 => ?_)
        refine WO.chn rfl (Chn.st EVx EVx Put.head ?_)
        refine WO.yld (Yld.assign EVx) ?_
        refine WO.nil ?_
        refine hK8 _ _ _ ?_
        clear hK8
        refine WS.seq fun K9 hK9 => ?_
        refine WS.seq fun K10 hK10 => ?_
        refine WS.region_lit ?_
        refine WO.yld (Yld.move EVx) ?_
        refine WO.yld (Yld.neqI EVx (evo_const _ _)) ?_
        refine WO.nil ?_
        refine hK10 _ _ _ ?_
        clear hK10
        -- @@ cond t56
        cases hrd : readN l with
        | none =>
          have hn52 : NR h52 n52 NoteP.zero := by rw [hrd] at hn52; exact hn52
          refine WS.cond (t := true) EVx (fun _ => ?_) (fun c => by cases c)
          refine WS.seq fun K11 hK11 => ?_
          refine WS.region_lit ?_
          refine WO.yld (Yld.move EVx) ?_
          refine WO.yld (Yld.move EVx) ?_
          refine WO.gyT0 rfl EVx (fun hp => Yld.ldN EVx At.head) ?_
          refine WO.gyT0 rfl EVx (fun hp => Yld.build Fills.nil) ?_
          -- @@ op: t61 := CALL F31[t59, t60] ty[35, 35] : T4   [guard some (1, true)]   path (((15, 1), True),)   info {59: None, 60: None}
          refine WO.gpT0 rfl EVx (fun hp => Chn.callZ (evo_func _ _) (AC (EVc hp EVx) (AC (EVc hp EVx) AN)) ((nsame_ok _ n52 NoteM.zero _ _ hn52 (NR.zero _) NoteP.zero_fits).pz)) fun h61 le61 => ?_
          replace hv := hv.mono le61
          replace hn52 := hn52.mono le61
          refine WO.yld (Yld.pickAnd' EVx (fun h => (EVc h EVx)) (evo_const _ _)) ?_
          refine WO.yld (Yld.assign EVx) ?_
          refine WO.nil ?_
          refine hK11 _ _ _ ?_
          clear hK11
          refine WS.ret ?_
          refine FnEnd.mk0 (RV.one (RO.tmpE EVx)) ?_
          -- @@ fin
          exact ⟨by rw [sameN_refl]; rfl, rfl⟩
        | some m =>
          have hn52 : NR h52 n52 m := by rw [hrd] at hn52; exact hn52
          obtain ⟨hr, hp⟩ := putN_read hrd
          have hm := rightN_fits hr
          refine WS.cond (t := false) EVx (fun c => by cases c) (fun _ => ?_)
          refine WS.skip ?_
          refine hK9 _ _ _ ?_
          clear hK9
          refine WS.seq fun K11 hK11 => ?_
          refine WS.region_lit ?_
          refine WO.yld (Yld.ldN EVx At.head) ?_
          -- @@ op: t65 := CALL F24[t64] ty[35] : T25   info {64: None}
          refine WO.cZ rfl (Chn.callZ (evo_func _ _) (AC EVx AN) (nput_ok _ n52 _ hn52 hm)) ?_
          rintro _ h65 le65 ⟨s65, rfl, hb65⟩
          replace hv := hv.mono le65
          replace hn52 := hn52.mono le65
          refine WO.yld (Yld.move EVx) ?_
          refine WO.yld (Yld.ext0 EVx) ?_
          refine WO.yld (Yld.ext1 EVx) ?_
          refine WO.yld (Yld.assign EVx) ?_
          refine WO.yld (Yld.assign EVx) ?_
          refine WO.nil ?_
          refine hK11 _ _ _ ?_
          clear hK11
          refine WS.seq fun K12 hK12 => ?_
          refine WS.region_lit ?_
          refine WO.yld (Yld.move EVx) ?_
          refine WO.yld (Yld.move EVx) ?_
          -- @@ op: t70 := CALL F21[t68, t69] ty[22, 22] : T4   info {68: {'k': 'sl', 'f': 'hv', 'bs': True, 'el': False}, 69: None}
          rw [hp] at hb65 ⊢
          have hb65 : Bs h65 s65.v l := hb65
          refine WO.cZ rfl (Chn.callZ (evo_func _ _) (AC EVx (AC EVx AN)) ((same_pu _ _ _ _ _ hv hb65 hls).pz)) ?_
          rintro _ h70 le70 rfl
          replace hv := hv.mono le70
          replace hn52 := hn52.mono le70
          replace hb65 := hb65.mono le70
          refine WO.yld (Yld.assign EVx) ?_
          refine WO.nil ?_
          refine hK12 _ _ _ ?_
          clear hK12
          refine WS.seq fun K13 hK13 => ?_
          refine WS.region_lit ?_
          refine WO.yld (Yld.move EVx) ?_
          refine WO.yld (Yld.move EVx) ?_
          refine WO.gyT0 rfl EVx (fun hp => Yld.move EVx) ?_
          refine WO.gyT0 rfl EVx (fun hp => Yld.eqlI (EVc hp EVx) (evo_const _ _)) ?_
          refine WO.yld (Yld.pickAnd' EVx (fun h => (EVc h EVx)) (evo_const _ _)) ?_
          refine WO.yld (Yld.move EVx) ?_
          refine WO.gyT0 rfl EVx (fun hp => Yld.move EVx) ?_
          refine WO.yld (Yld.pickAnd' EVx (fun h => (EVc h EVx)) (evo_const _ _)) ?_
          refine WO.yld (Yld.move EVx) ?_
          refine WO.gyT0 rfl EVx (fun hp => Yld.ldN EVx At.head) ?_
          refine WO.gpT0 rfl EVx (fun hp => Chn.callZ (evo_func _ _) (AC (EVc hp EVx) AN) ((right_ok _ n52 _ hn52 hm).pz)) fun h81 le81 => ?_
          replace hv := hv.mono le81
          replace hn52 := hn52.mono le81
          replace hb65 := hb65.mono le81
          refine WO.yld (Yld.pickAnd' EVx (fun h => (EVc h EVx)) (evo_const _ _)) ?_
          refine WO.yld (Yld.assign EVx) ?_
          refine WO.nil ?_
          refine hK13 _ _ _ ?_
          clear hK13
          refine WS.ret ?_
          refine FnEnd.mk0 (RV.one (RO.tmpE EVx)) ?_
          -- @@ fin
          exact ⟨by rw [hr, decide_eq_true rfl]; rfl, rfl⟩
end Go.Proofs
