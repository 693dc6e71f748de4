/- law09's own small run. Conditions: none. -/
import Derived.Test.YtijlkjbmjkmkfaaF6
import Derived.Test.YtijlkjbmjkmkfaaS3
namespace Go.Proofs
open Go Go.Bz

theorem rs_two {h : PH} {v : Value} {s1 s2 : SV} {a b : List UInt8} (sl : Sl h [] 1 v 2 [s1.v, s2.v]) (ha : Bs h s1.v a) (hb : Bs h s2.v b) : Rs h v [a, b] :=
  ⟨[s1, s2], rfl, sl, fun i hi => by
    match i, hi with
    | 0, _ => exact ha
    | 1, _ => exact hb⟩
theorem awake_ok (h : PH) : Ct Try.prog 18 #[] h [] (fun v _ L' => L' = [] ∧ v = .bool true) := by
  refine Ct.enter (n := 84) (rs := #[.tmp 0]) Try.func18 rfl rfl rfl (by simp) ?_
  intro E hE
  rw [fr0]
  refine WS.seq fun K1 hK1 => ?_
  refine WS.region_lit ?_
  refine WO.yld (Yld.assign (evo_const _ _)) ?_
  refine WO.nil ?_
  refine hK1 _ _ _ ?_
  clear hK1
  refine WS.seq fun K2 hK2 => ?_
  refine WS.region_lit ?_
  -- @@ op: t10 := buildSlice 22 2 [(0, c97:u8), (1, c98:u8)] : T22   info {}
  refine WO.chn rfl (Chn.buildSliceE (sz := 1) (Parts.cons (evo_const _ _) (Parts.cons (evo_const _ _) Parts.nil)) (out' := bc [97, 98]) rfl rfl (by decide) fun b10 => ?_)
  refine WO.chn rfl (Chn.strLit EVx rfl (by decide) rfl fun h1 le1 hb => ?_)
  refine WO.chn rfl (Chn.buildAcc (sz := 1) (Parts.cons (v := (SV.mk (some ⟨b10, 0, none⟩) 2 2).v) EVx (Parts.cons (v := SV.nil.v) (evo_const _ _) Parts.nil)) rfl (by decide) (by decide) fun s2 hn2 ac2 => ?_)
  refine WO.freezeAcc ac2 rfl fun h2 le2 sl2 => ?_
  rw [hn2] at sl2
  have rs := rs_two sl2 (hb.mono le2) (Bs.nil h2)
  refine WO.chn rfl (Chn.call (evo_func _ _) (map_evo (AC EVx AN)) (put_ok _ _ _ rs) rfl ?_)
  rintro v1 h3 L1 le3 ⟨rfl, sb, rfl, hx⟩
  have hfp : fput [[97, 98], []] = some [0, 2, 97, 98, 0, 0] := by decide
  rw [hfp] at hx ⊢
  simp only [Option.isSome_some, if_true, Option.getD_some] at hx ⊢
  refine WO.yld (Yld.move EVx) ?_
  refine WO.yld (Yld.ext0 EVx) ?_
  refine WO.yld (Yld.ext1 EVx) ?_
  refine WO.yld (Yld.assign EVx) ?_
  refine WO.yld (Yld.assign EVx) ?_
  refine WO.nil ?_
  refine hK2 _ _ _ ?_
  clear hK2
  refine WS.seq fun K3 hK3 => ?_
  refine WS.region_lit ?_
  refine WO.yld (Yld.move EVx) ?_
  -- @@ op: t18 := CALL F20[t17] ty[22] : T28   info {17: None}
  refine WO.chn rfl (Chn.call (evo_func _ _) (map_evo (AC EVx AN)) (split_ok _ _ _ hx (by decide)) rfl ?_)
  rintro v2 h4 L2 le4 ⟨rfl, r4⟩
  have hsp : fsplit 0 [0, 2, 97, 98, 0, 0] = .ok [[97, 98], []] := fsplit_encs [[97, 98], []] 0 (by decide) (by decide)
  rw [hsp] at r4
  obtain ⟨v3, rfl, ss, hss, hsl, hel⟩ := r4
  refine WO.yld (Yld.move EVx) ?_
  refine WO.yld (Yld.ext0 EVx) ?_
  refine WO.yld (Yld.ext1 EVx) ?_
  refine WO.yld (Yld.assign EVx) ?_
  refine WO.yld (Yld.assign EVx) ?_
  refine WO.nil ?_
  refine hK3 _ _ _ ?_
  clear hK3
  refine WS.seq fun K4 hK4 => ?_
  refine WS.region_lit ?_
  -- @@ op: t22 := CALL F98[c-2:i64] ty[2] : T22   info {}
  refine WO.chn rfl (Chn.call (evo_func _ _) (map_evo (AC (evo_const _ _) AN)) (number_ok _ (-2)) rfl ?_)
  rintro v5 h5 L5 le5 ⟨rfl, b5⟩
  -- @@ op: t23 := CALL F97[t22] ty[22] : T175   info {22: None}
  refine WO.chn rfl (Chn.call (evo_func _ _) (map_evo (AC EVx AN)) (take_ok _ _ _ b5 (by decide)) rfl ?_)
  rintro v6 h6 L6 le6 ⟨rfl, rfl⟩
  rw [if_pos (num8_len _), take8_num8 (-2) (by decide) (by decide)]
  refine WO.yld (Yld.move EVx) ?_
  refine WO.yld (Yld.ext0 EVx) ?_
  refine WO.yld (Yld.ext1 EVx) ?_
  refine WO.yld (Yld.assign EVx) ?_
  refine WO.yld (Yld.assign EVx) ?_
  refine WO.nil ?_
  refine hK4 _ _ _ ?_
  clear hK4
  refine WS.seq fun K5 hK5 => ?_
  refine WS.region_lit ?_
  -- @@ op: t27 := makeSlice 22 c16:i64 c16:i64 : T22   info {}
  refine WO.chn rfl (Chn.makeSlice (len := 16) (cap := 16) (evo_const _ _) (evo_const _ _) (by decide) (by decide) (by decide) fun s7 hn7 ac7 => ?_)
  refine WO.freezeAcc ac7 rfl fun h7 le7 sl7 => ?_
  rw [hn7] at sl7
  have b7 : Bs h7 s7.v (List.replicate 16 0) := sl7
  refine WO.chn rfl (Chn.call (evo_func _ _) (map_evo (AC EVx AN)) (word_ok _ _ _ b7 (by decide)) rfl ?_)
  rintro v8 h8 L8 le8 ⟨rfl, rfl⟩
  rw [WordR, dif_pos (by decide)]
  have le48 := PH.le_trans le5 (PH.le_trans le6 (PH.le_trans le7 le8))
  have hx8 := hx.mono (PH.le_trans le4 le48)
  have hel8 := (hel 0 (by decide)).mono le48
  have hsl8 := Sl.mono (L := []) le48 hsl
  have hss2 : ss.length = 2 := hss
  refine WO.yld (Yld.move EVx) ?_
  refine WO.yld (Yld.ext0 EVx) ?_
  refine WO.yld (Yld.ext1 EVx) ?_
  refine WO.chn rfl (Chn.alloc fun b7 => ?_)
  refine WO.chn rfl (Chn.st EVx EVx Put.head ?_)
  refine WO.yld (Yld.assign EVx) ?_
  refine WO.nil ?_
  refine hK5 _ _ _ ?_
  clear hK5
  refine WS.seq fun K6 hK6 => ?_
  refine WS.region_lit ?_
  refine WO.yld (Yld.move EVx) ?_
  refine WO.yld (Yld.eqlI EVx (evo_const _ _)) ?_
  refine WO.yld (Yld.move EVx) ?_
  refine WO.gyT0 rfl EVx (fun hp => Yld.move EVx) ?_
  refine WO.gyT0 rfl EVx (fun hp => Sl.lenS hx8 (EVc hp EVx)) ?_
  refine WO.gyT0 rfl EVx (fun hp => Yld.eqlI (EVc hp EVx) (evo_const _ _)) ?_
  refine WO.yld (Yld.pickAnd' EVx (fun h => (EVc h EVx)) (evo_const _ _)) ?_
  refine WO.yld (Yld.move EVx) ?_
  refine WO.gyT0 rfl EVx (fun hp => Yld.move EVx) ?_
  refine WO.gyT0 rfl EVx (fun hp => Sl.indexL 1 hx8 (EVc hp EVx) rfl rfl (by first | omega | decide | (simp at hp; omega) | simp)) ?_
  refine WO.gyT0 rfl EVx (fun hp => Bs.load hx8 (EVc hp EVx) (by first | omega | decide | (simp at hp; omega) | simp)) ?_
  refine WO.gyT0 rfl EVx (fun hp => Yld.eqlI (EVc hp EVx) (evo_const _ _)) ?_
  refine WO.yld (Yld.pickAnd' EVx (fun h => (EVc h EVx)) (evo_const _ _)) ?_
  refine WO.yld (Yld.move EVx) ?_
  refine WO.gyT0 rfl EVx (fun hp => Yld.move EVx) ?_
  refine WO.gyT0 rfl EVx (fun hp => Yld.eqlI (EVc hp EVx) (evo_const _ _)) ?_
  refine WO.yld (Yld.pickAnd' EVx (fun h => (EVc h EVx)) (evo_const _ _)) ?_
  refine WO.yld (Yld.move EVx) ?_
  refine WO.gyT0 rfl EVx (fun hp => Yld.move EVx) ?_
  refine WO.gyT0 rfl EVx (fun hp => Sl.lenS hsl8 (EVc hp EVx)) ?_
  refine WO.gyT0 rfl EVx (fun hp => Yld.eqlI (EVc hp EVx) (evo_const _ _)) ?_
  refine WO.yld (Yld.pickAnd' EVx (fun h => (EVc h EVx)) (evo_const _ _)) ?_
  refine WO.yld (Yld.move EVx) ?_
  refine WO.gyT0 rfl EVx (fun hp => Yld.move EVx) ?_
  refine WO.gyT0 rfl EVx (fun hp => Sl.indexL 0 hsl8 (EVc hp EVx) rfl rfl (by first | omega | decide | (simp at hp; omega) | simp)) ?_
  refine WO.gyT0 rfl EVx (fun hp => Sl.loadSV hsl8 (EVc hp EVx) (by omega)) ?_
  refine WO.gyT0 rfl EVx (fun hp => Yld.toStr (EVc hp EVx) (Bs.up hel8)) ?_
  refine WO.gyT0 rfl EVx (fun hp => Yld.eqlStr (EVc hp EVx) (evo_const _ _)) ?_
  refine WO.yld (Yld.pickAnd' EVx (fun h => (EVc h EVx)) (evo_const _ _)) ?_
  refine WO.yld (Yld.move EVx) ?_
  refine WO.gyT0 rfl EVx (fun hp => Yld.move EVx) ?_
  refine WO.gyT0 rfl EVx (fun hp => Yld.eqlI (EVc hp EVx) (evo_const _ _)) ?_
  refine WO.yld (Yld.pickAnd' EVx (fun h => (EVc h EVx)) (evo_const _ _)) ?_
  refine WO.yld (Yld.move EVx) ?_
  refine WO.gyT0 rfl EVx (fun hp => Yld.move EVx) ?_
  refine WO.gyT0 rfl EVx (fun hp => Yld.eqlI (EVc hp EVx) (evo_const _ _)) ?_
  refine WO.yld (Yld.pickAnd' EVx (fun h => (EVc h EVx)) (evo_const _ _)) ?_
  refine WO.yld (Yld.move EVx) ?_
  refine WO.gyT0 rfl EVx (fun hp => Yld.ldN EVx At.head) ?_
  refine WO.gyT0 rfl EVx (fun hp => Yld.buildA Fills.nil) ?_
  refine WO.gyT0 rfl EVx (fun hp => Yld.eqlAB (EVc hp EVx) (EVc hp EVx)) ?_
  refine WO.yld (Yld.pickAnd' EVx (fun h => (EVc h EVx)) (evo_const _ _)) ?_
  refine WO.yld (Yld.move EVx) ?_
  refine WO.gyT0 rfl EVx (fun hp => Yld.move EVx) ?_
  refine WO.gyT0 rfl EVx (fun hp => Yld.eqlI (EVc hp EVx) (evo_const _ _)) ?_
  refine WO.yld (Yld.pickAnd' EVx (fun h => (EVc h EVx)) (evo_const _ _)) ?_
  refine WO.yld (Yld.move EVx) ?_
  refine WO.gpT0 rfl EVx (fun hp => Chn.callZ (evo_func _ _) (AC (evo_const _ _) AN) ((((name_ok _ _ (by decide)).mono fun _ _ _ _ e => ⟨e.2, e.1⟩)).pz)) fun h78 le78 => ?_
  replace hx8 := hx8.mono le78
  replace hsl8 := Sl.mono (L := []) le78 hsl8
  replace hel8 := hel8.mono le78
  refine WO.yld (Yld.pickAnd' EVx (fun h => (EVc h EVx)) (evo_const _ _)) ?_
  refine WO.yld (Yld.move EVx) ?_
  refine WO.gpT0 rfl EVx (fun hp => Chn.callZ (evo_func _ _) (AC (evo_const _ _) AN) ((((name_ok _ _ (by decide)).mono fun _ _ _ _ e => ⟨e.2, e.1⟩)).pz)) fun h81 le81 => ?_
  replace hx8 := hx8.mono le81
  replace hsl8 := Sl.mono (L := []) le81 hsl8
  replace hel8 := hel8.mono le81
  refine WO.gyT0 rfl EVx (fun hp => Yld.not (EVc hp EVx)) ?_
  refine WO.yld (Yld.pickAnd' EVx (fun h => (EVc h EVx)) (evo_const _ _)) ?_
  refine WO.yld (Yld.assign EVx) ?_
  refine WO.nil ?_
  refine hK6 _ _ _ ?_
  clear hK6
  refine WS.ret ?_
  refine FnEnd.mk0 (RV.one (RO.tmpE EVx)) ?_
  -- @@ fin
  exact ⟨rfl, by kernel_rfl⟩
end Go.Proofs
