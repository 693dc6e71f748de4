/- law09's own small run. Conditions: none. -/
import Derived.Test.YtijlkjbmjkmkfaaF6
import Derived.Test.YtijlkjbmjkmkfaaS3
namespace Go.Proofs
open Go Go.Bz

theorem rs_two {h : PH} {v : Value} {s1 s2 : SV} {a b : List UInt8} (sl : Sl h [] 1 v 2 [s1.v, s2.v]) (ha : Bs h s1.v a) (hb : Bs h s2.v b) : Rs h v [a, b] :=
  ⟨[s1, s2], rfl, sl, fun i hi => by
    match i, hi with
    | 0, _ => exact ha
    | 1, _ => exact hb⟩
theorem awake_ok (h : PH) : Ct Try.prog 18 #[] h [] (fun v _ L' => L' = [] ∧ v = .bool true) := by
  refine Ct.enter (n := 84) (rs := #[.tmp 0]) Try.func18 rfl rfl rfl (by simp) ?_
  intro E hE
  refine WS.seq fun K1 hK1 => ?_
  refine WS.region_lit ?_
  refine WO.yld (Yld.assign (evo_const _ _)) ?_
  refine WO.nil ?_
  refine hK1 _ _ _ ?_
  clear hK1
  refine WS.seq fun K2 hK2 => ?_
  refine WS.region_lit ?_
  -- @@ op: t10 := buildSlice 22 2 [(0, c97:u8), (1, c98:u8)] : T22   info {}
  refine WO.chn rfl (Chn.buildSliceE (sz := 1) (Parts.cons (evo_const _ _) (Parts.cons (evo_const _ _) Parts.nil)) (out' := bc [97, 98]) rfl rfl (by decide) fun b10 => ?_)
  refine WO.chn rfl (Chn.strLit (by (repeat' (first | refine' evo_there (by rfl) ?_ | exact evo_here _ _ _)) <;> (try ((try simp only [evo, upd, ↓reduceIte, Nat.reduceEqDiff]) <;> rfl))) rfl (by decide) rfl fun h1 le1 hb => ?_)
  refine WO.chn rfl (Chn.buildAcc (sz := 1) (Parts.cons (v := (SV.mk (some ⟨b10, 0, none⟩) 2 2).v) (by (repeat' (first | refine' evo_there (by rfl) ?_ | exact evo_here _ _ _)) <;> (try ((try simp only [evo, upd, ↓reduceIte, Nat.reduceEqDiff]) <;> rfl))) (Parts.cons (v := SV.nil.v) (evo_const _ _) Parts.nil)) rfl (by decide) (by decide) fun s2 hn2 ac2 => ?_)
  refine WO.freezeAcc ac2 rfl fun h2 le2 sl2 => ?_
  rw [hn2] at sl2
  have rs := rs_two sl2 (hb.mono le2) (Bs.nil h2)
  refine WO.chn rfl (Chn.call (evo_func _ _) (by simp only [List.map_toArray, List.map, evo, upd, ↓reduceIte, Nat.reduceEqDiff] <;> rfl) (put_ok _ _ _ rs) rfl ?_)
  rintro v1 h3 L1 le3 ⟨rfl, sb, rfl, hx⟩
  have hfp : fput [[97, 98], []] = some [0, 2, 97, 98, 0, 0] := by decide
  rw [hfp] at hx ⊢
  simp only [Option.isSome_some, if_true, Option.getD_some] at hx ⊢
  refine WO.yld (Yld.move (by (repeat' (first | refine' evo_there (by rfl) ?_ | exact evo_here _ _ _)) <;> (try ((try simp only [evo, upd, ↓reduceIte, Nat.reduceEqDiff]) <;> rfl)))) ?_
  refine WO.yld (Yld.ext0 (by (repeat' (first | refine' evo_there (by rfl) ?_ | exact evo_here _ _ _)) <;> (try ((try simp only [evo, upd, ↓reduceIte, Nat.reduceEqDiff]) <;> rfl)))) ?_
  refine WO.yld (Yld.ext1 (by (repeat' (first | refine' evo_there (by rfl) ?_ | exact evo_here _ _ _)) <;> (try ((try simp only [evo, upd, ↓reduceIte, Nat.reduceEqDiff]) <;> rfl)))) ?_
  refine WO.yld (Yld.assign (by (repeat' (first | refine' evo_there (by rfl) ?_ | exact evo_here _ _ _)) <;> (try ((try simp only [evo, upd, ↓reduceIte, Nat.reduceEqDiff]) <;> rfl)))) ?_
  refine WO.yld (Yld.assign (by (repeat' (first | refine' evo_there (by rfl) ?_ | exact evo_here _ _ _)) <;> (try ((try simp only [evo, upd, ↓reduceIte, Nat.reduceEqDiff]) <;> rfl)))) ?_
  refine WO.nil ?_
  refine hK2 _ _ _ ?_
  clear hK2
  refine WS.seq fun K3 hK3 => ?_
  refine WS.region_lit ?_
  refine WO.yld (Yld.move (by (repeat' (first | refine' evo_there (by rfl) ?_ | exact evo_here _ _ _)) <;> (try ((try simp only [evo, upd, ↓reduceIte, Nat.reduceEqDiff]) <;> rfl)))) ?_
  -- @@ op: t18 := CALL F20[t17] ty[22] : T28   info {17: None}
  refine WO.chn rfl (Chn.call (evo_func _ _) (by simp only [List.map_toArray, List.map, evo, upd, ↓reduceIte, Nat.reduceEqDiff] <;> rfl) (split_ok _ _ _ hx (by decide)) rfl ?_)
  rintro v2 h4 L2 le4 ⟨rfl, r4⟩
  have hsp : fsplit 0 [0, 2, 97, 98, 0, 0] = .ok [[97, 98], []] := fsplit_encs [[97, 98], []] 0 (by decide) (by decide)
  rw [hsp] at r4
  obtain ⟨v3, rfl, ss, hss, hsl, hel⟩ := r4
  refine WO.yld (Yld.move (by (repeat' (first | refine' evo_there (by rfl) ?_ | exact evo_here _ _ _)) <;> (try ((try simp only [evo, upd, ↓reduceIte, Nat.reduceEqDiff]) <;> rfl)))) ?_
  refine WO.yld (Yld.ext0 (by (repeat' (first | refine' evo_there (by rfl) ?_ | exact evo_here _ _ _)) <;> (try ((try simp only [evo, upd, ↓reduceIte, Nat.reduceEqDiff]) <;> rfl)))) ?_
  refine WO.yld (Yld.ext1 (by (repeat' (first | refine' evo_there (by rfl) ?_ | exact evo_here _ _ _)) <;> (try ((try simp only [evo, upd, ↓reduceIte, Nat.reduceEqDiff]) <;> rfl)))) ?_
  refine WO.yld (Yld.assign (by (repeat' (first | refine' evo_there (by rfl) ?_ | exact evo_here _ _ _)) <;> (try ((try simp only [evo, upd, ↓reduceIte, Nat.reduceEqDiff]) <;> rfl)))) ?_
  refine WO.yld (Yld.assign (by (repeat' (first | refine' evo_there (by rfl) ?_ | exact evo_here _ _ _)) <;> (try ((try simp only [evo, upd, ↓reduceIte, Nat.reduceEqDiff]) <;> rfl)))) ?_
  refine WO.nil ?_
  refine hK3 _ _ _ ?_
  clear hK3
  refine WS.seq fun K4 hK4 => ?_
  refine WS.region_lit ?_
  -- @@ op: t22 := CALL F98[c-2:i64] ty[2] : T22   info {}
  refine WO.chn rfl (Chn.call (evo_func _ _) (by simp only [List.map_toArray, List.map, evo, upd, ↓reduceIte, Nat.reduceEqDiff] <;> rfl) (number_ok _ (-2)) rfl ?_)
  rintro v5 h5 L5 le5 ⟨rfl, b5⟩
  -- @@ op: t23 := CALL F97[t22] ty[22] : T175   info {22: None}
  refine WO.chn rfl (Chn.call (evo_func _ _) (by simp only [List.map_toArray, List.map, evo, upd, ↓reduceIte, Nat.reduceEqDiff] <;> rfl) (take_ok _ _ _ b5 (by decide)) rfl ?_)
  rintro v6 h6 L6 le6 ⟨rfl, rfl⟩
  rw [if_pos (num8_len _), take8_num8 (-2) (by decide) (by decide)]
  refine WO.yld (Yld.move (by (repeat' (first | refine' evo_there (by rfl) ?_ | exact evo_here _ _ _)) <;> (try ((try simp only [evo, upd, ↓reduceIte, Nat.reduceEqDiff]) <;> rfl)))) ?_
  refine WO.yld (Yld.ext0 (by (repeat' (first | refine' evo_there (by rfl) ?_ | exact evo_here _ _ _)) <;> (try ((try simp only [evo, upd, ↓reduceIte, Nat.reduceEqDiff]) <;> rfl)))) ?_
  refine WO.yld (Yld.ext1 (by (repeat' (first | refine' evo_there (by rfl) ?_ | exact evo_here _ _ _)) <;> (try ((try simp only [evo, upd, ↓reduceIte, Nat.reduceEqDiff]) <;> rfl)))) ?_
  refine WO.yld (Yld.assign (by (repeat' (first | refine' evo_there (by rfl) ?_ | exact evo_here _ _ _)) <;> (try ((try simp only [evo, upd, ↓reduceIte, Nat.reduceEqDiff]) <;> rfl)))) ?_
  refine WO.yld (Yld.assign (by (repeat' (first | refine' evo_there (by rfl) ?_ | exact evo_here _ _ _)) <;> (try ((try simp only [evo, upd, ↓reduceIte, Nat.reduceEqDiff]) <;> rfl)))) ?_
  refine WO.nil ?_
  refine hK4 _ _ _ ?_
  clear hK4
  refine WS.seq fun K5 hK5 => ?_
  refine WS.region_lit ?_
  -- @@ op: t27 := makeSlice 22 c16:i64 c16:i64 : T22   info {}
  refine WO.chn rfl (Chn.makeSlice (len := 16) (cap := 16) (evo_const _ _) (evo_const _ _) (by decide) (by decide) (by decide) fun s7 hn7 ac7 => ?_)
  refine WO.freezeAcc ac7 rfl fun h7 le7 sl7 => ?_
  rw [hn7] at sl7
  have b7 : Bs h7 s7.v (List.replicate 16 0) := sl7
  refine WO.chn rfl (Chn.call (evo_func _ _) (by simp only [List.map_toArray, List.map, evo, upd, ↓reduceIte, Nat.reduceEqDiff] <;> rfl) (word_ok _ _ _ b7 (by decide)) rfl ?_)
  rintro v8 h8 L8 le8 ⟨rfl, rfl⟩
  rw [WordR, dif_pos (by decide)]
  refine WO.yld (Yld.move (by (repeat' (first | refine' evo_there (by rfl) ?_ | exact evo_here _ _ _)) <;> (try ((try simp only [evo, upd, ↓reduceIte, Nat.reduceEqDiff]) <;> rfl)))) ?_
  refine WO.yld (Yld.ext0 (by (repeat' (first | refine' evo_there (by rfl) ?_ | exact evo_here _ _ _)) <;> (try ((try simp only [evo, upd, ↓reduceIte, Nat.reduceEqDiff]) <;> rfl)))) ?_
  refine WO.yld (Yld.ext1 (by (repeat' (first | refine' evo_there (by rfl) ?_ | exact evo_here _ _ _)) <;> (try ((try simp only [evo, upd, ↓reduceIte, Nat.reduceEqDiff]) <;> rfl)))) ?_
  refine WO.chn rfl (Chn.alloc fun b7 => ?_)
  refine WO.chn rfl (Chn.st (by (repeat' (first | refine' evo_there (by rfl) ?_ | exact evo_here _ _ _)) <;> (try ((try simp only [evo, upd, ↓reduceIte, Nat.reduceEqDiff]) <;> rfl))) (by (repeat' (first | refine' evo_there (by rfl) ?_ | exact evo_here _ _ _)) <;> (try ((try simp only [evo, upd, ↓reduceIte, Nat.reduceEqDiff]) <;> rfl))) Put.head ?_)
  refine WO.yld (Yld.assign (by (repeat' (first | refine' evo_there (by rfl) ?_ | exact evo_here _ _ _)) <;> (try ((try simp only [evo, upd, ↓reduceIte, Nat.reduceEqDiff]) <;> rfl)))) ?_
  refine WO.nil ?_
  refine hK5 _ _ _ ?_
  clear hK5
  refine WS.seq fun K6 hK6 => ?_
  refine WS.region_lit ?_
  refine WO.yld (Yld.move (by (repeat' (first | refine' evo_there (by rfl) ?_ | exact evo_here _ _ _)) <;> (try ((try simp only [evo, upd, ↓reduceIte, Nat.reduceEqDiff]) <;> rfl)))) ?_
  refine WO.yld (Yld.eqlI (by (repeat' (first | refine' evo_there (by rfl) ?_ | exact evo_here _ _ _)) <;> (try ((try simp only [evo, upd, ↓reduceIte, Nat.reduceEqDiff]) <;> rfl))) (evo_const _ _)) ?_
  refine WO.yld (Yld.move (by (repeat' (first | refine' evo_there (by rfl) ?_ | exact evo_here _ _ _)) <;> (try ((try simp only [evo, upd, ↓reduceIte, Nat.reduceEqDiff]) <;> rfl)))) ?_
  -- @@ guard on slot 33: declare it (%guard 33 true|false PROOF)
  have le48 := PH.le_trans le5 (PH.le_trans le6 (PH.le_trans le7 le8))
  have hx8 := hx.mono (PH.le_trans le4 le48)
  have hel8 := (hel 0 (by decide)).mono le48
  have hsl8 := Sl.mono (L := []) le48 hsl
  have hss2 : ss.length = 2 := hss
  refine WO.yes rfl (by decide) (Eq.trans (by (repeat' (first | refine' evo_there (by rfl) ?_ | exact evo_here _ _ _)) <;> (try ((try simp only [evo, upd, ↓reduceIte, Nat.reduceEqDiff]) <;> rfl))) (congrArg Value.bool (rfl))) ?_
  refine WO.yld (Yld.move (by (repeat' (first | refine' evo_there (by rfl) ?_ | exact evo_here _ _ _)) <;> (try ((try simp only [evo, upd, ↓reduceIte, Nat.reduceEqDiff]) <;> rfl)))) ?_
  refine WO.yes rfl (by decide) (Eq.trans (by (repeat' (first | refine' evo_there (by rfl) ?_ | exact evo_here _ _ _)) <;> (try ((try simp only [evo, upd, ↓reduceIte, Nat.reduceEqDiff]) <;> rfl))) (congrArg Value.bool (rfl))) ?_
  refine WO.yld (Sl.lenS hx8 (by (repeat' (first | refine' evo_there (by rfl) ?_ | exact evo_here _ _ _)) <;> (try ((try simp only [evo, upd, ↓reduceIte, Nat.reduceEqDiff]) <;> rfl)))) ?_
  refine WO.yes rfl (by decide) (Eq.trans (by (repeat' (first | refine' evo_there (by rfl) ?_ | exact evo_here _ _ _)) <;> (try ((try simp only [evo, upd, ↓reduceIte, Nat.reduceEqDiff]) <;> rfl))) (congrArg Value.bool (rfl))) ?_
  refine WO.yld (Yld.eqlI (by (repeat' (first | refine' evo_there (by rfl) ?_ | exact evo_here _ _ _)) <;> (try ((try simp only [evo, upd, ↓reduceIte, Nat.reduceEqDiff]) <;> rfl))) (evo_const _ _)) ?_
  refine WO.yld (Yld.pick_t (Eq.trans (by (repeat' (first | refine' evo_there (by rfl) ?_ | exact evo_here _ _ _)) <;> (try ((try simp only [evo, upd, ↓reduceIte, Nat.reduceEqDiff]) <;> rfl))) (congrArg Value.bool (rfl))) (by (repeat' (first | refine' evo_there (by rfl) ?_ | exact evo_here _ _ _)) <;> (try ((try simp only [evo, upd, ↓reduceIte, Nat.reduceEqDiff]) <;> rfl)))) ?_
  refine WO.yld (Yld.move (by (repeat' (first | refine' evo_there (by rfl) ?_ | exact evo_here _ _ _)) <;> (try ((try simp only [evo, upd, ↓reduceIte, Nat.reduceEqDiff]) <;> rfl)))) ?_
  refine WO.yes rfl (by decide) (Eq.trans (by (repeat' (first | refine' evo_there (by rfl) ?_ | exact evo_here _ _ _)) <;> (try ((try simp only [evo, upd, ↓reduceIte, Nat.reduceEqDiff]) <;> rfl))) (congrArg Value.bool (rfl))) ?_
  refine WO.yld (Yld.move (by (repeat' (first | refine' evo_there (by rfl) ?_ | exact evo_here _ _ _)) <;> (try ((try simp only [evo, upd, ↓reduceIte, Nat.reduceEqDiff]) <;> rfl)))) ?_
  refine WO.yes rfl (by decide) (Eq.trans (by (repeat' (first | refine' evo_there (by rfl) ?_ | exact evo_here _ _ _)) <;> (try ((try simp only [evo, upd, ↓reduceIte, Nat.reduceEqDiff]) <;> rfl))) (congrArg Value.bool (rfl))) ?_
  refine WO.yld (Sl.indexL 1 hx8 (by (repeat' (first | refine' evo_there (by rfl) ?_ | exact evo_here _ _ _)) <;> (try ((try simp only [evo, upd, ↓reduceIte, Nat.reduceEqDiff]) <;> rfl))) rfl rfl (by first | omega | decide | simp)) ?_
  refine WO.yes rfl (by decide) (Eq.trans (by (repeat' (first | refine' evo_there (by rfl) ?_ | exact evo_here _ _ _)) <;> (try ((try simp only [evo, upd, ↓reduceIte, Nat.reduceEqDiff]) <;> rfl))) (congrArg Value.bool (rfl))) ?_
  refine WO.yld (Bs.load hx8 (by (repeat' (first | refine' evo_there (by rfl) ?_ | exact evo_here _ _ _)) <;> (try ((try simp only [evo, upd, ↓reduceIte, Nat.reduceEqDiff]) <;> rfl))) (by first | omega | decide | simp)) ?_
  refine WO.yes rfl (by decide) (Eq.trans (by (repeat' (first | refine' evo_there (by rfl) ?_ | exact evo_here _ _ _)) <;> (try ((try simp only [evo, upd, ↓reduceIte, Nat.reduceEqDiff]) <;> rfl))) (congrArg Value.bool (rfl))) ?_
  refine WO.yld (Yld.eqlI (by (repeat' (first | refine' evo_there (by rfl) ?_ | exact evo_here _ _ _)) <;> (try ((try simp only [evo, upd, ↓reduceIte, Nat.reduceEqDiff]) <;> rfl))) (evo_const _ _)) ?_
  refine WO.yld (Yld.pick_t (Eq.trans (by (repeat' (first | refine' evo_there (by rfl) ?_ | exact evo_here _ _ _)) <;> (try ((try simp only [evo, upd, ↓reduceIte, Nat.reduceEqDiff]) <;> rfl))) (congrArg Value.bool (rfl))) (by (repeat' (first | refine' evo_there (by rfl) ?_ | exact evo_here _ _ _)) <;> (try ((try simp only [evo, upd, ↓reduceIte, Nat.reduceEqDiff]) <;> rfl)))) ?_
  refine WO.yld (Yld.move (by (repeat' (first | refine' evo_there (by rfl) ?_ | exact evo_here _ _ _)) <;> (try ((try simp only [evo, upd, ↓reduceIte, Nat.reduceEqDiff]) <;> rfl)))) ?_
  refine WO.yes rfl (by decide) (Eq.trans (by (repeat' (first | refine' evo_there (by rfl) ?_ | exact evo_here _ _ _)) <;> (try ((try simp only [evo, upd, ↓reduceIte, Nat.reduceEqDiff]) <;> rfl))) (congrArg Value.bool (rfl))) ?_
  refine WO.yld (Yld.move (by (repeat' (first | refine' evo_there (by rfl) ?_ | exact evo_here _ _ _)) <;> (try ((try simp only [evo, upd, ↓reduceIte, Nat.reduceEqDiff]) <;> rfl)))) ?_
  refine WO.yes rfl (by decide) (Eq.trans (by (repeat' (first | refine' evo_there (by rfl) ?_ | exact evo_here _ _ _)) <;> (try ((try simp only [evo, upd, ↓reduceIte, Nat.reduceEqDiff]) <;> rfl))) (congrArg Value.bool (rfl))) ?_
  refine WO.yld (Yld.eqlI (by (repeat' (first | refine' evo_there (by rfl) ?_ | exact evo_here _ _ _)) <;> (try ((try simp only [evo, upd, ↓reduceIte, Nat.reduceEqDiff]) <;> rfl))) (evo_const _ _)) ?_
  refine WO.yld (Yld.pick_t (Eq.trans (by (repeat' (first | refine' evo_there (by rfl) ?_ | exact evo_here _ _ _)) <;> (try ((try simp only [evo, upd, ↓reduceIte, Nat.reduceEqDiff]) <;> rfl))) (congrArg Value.bool (rfl))) (by (repeat' (first | refine' evo_there (by rfl) ?_ | exact evo_here _ _ _)) <;> (try ((try simp only [evo, upd, ↓reduceIte, Nat.reduceEqDiff]) <;> rfl)))) ?_
  refine WO.yld (Yld.move (by (repeat' (first | refine' evo_there (by rfl) ?_ | exact evo_here _ _ _)) <;> (try ((try simp only [evo, upd, ↓reduceIte, Nat.reduceEqDiff]) <;> rfl)))) ?_
  refine WO.yes rfl (by decide) (Eq.trans (by (repeat' (first | refine' evo_there (by rfl) ?_ | exact evo_here _ _ _)) <;> (try ((try simp only [evo, upd, ↓reduceIte, Nat.reduceEqDiff]) <;> rfl))) (congrArg Value.bool (rfl))) ?_
  refine WO.yld (Yld.move (by (repeat' (first | refine' evo_there (by rfl) ?_ | exact evo_here _ _ _)) <;> (try ((try simp only [evo, upd, ↓reduceIte, Nat.reduceEqDiff]) <;> rfl)))) ?_
  refine WO.yes rfl (by decide) (Eq.trans (by (repeat' (first | refine' evo_there (by rfl) ?_ | exact evo_here _ _ _)) <;> (try ((try simp only [evo, upd, ↓reduceIte, Nat.reduceEqDiff]) <;> rfl))) (congrArg Value.bool (rfl))) ?_
  refine WO.yld (Sl.lenS hsl8 (by (repeat' (first | refine' evo_there (by rfl) ?_ | exact evo_here _ _ _)) <;> (try ((try simp only [evo, upd, ↓reduceIte, Nat.reduceEqDiff]) <;> rfl)))) ?_
  refine WO.yes rfl (by decide) (Eq.trans (by (repeat' (first | refine' evo_there (by rfl) ?_ | exact evo_here _ _ _)) <;> (try ((try simp only [evo, upd, ↓reduceIte, Nat.reduceEqDiff]) <;> rfl))) (congrArg Value.bool (rfl))) ?_
  refine WO.yld (Yld.eqlI (by (repeat' (first | refine' evo_there (by rfl) ?_ | exact evo_here _ _ _)) <;> (try ((try simp only [evo, upd, ↓reduceIte, Nat.reduceEqDiff]) <;> rfl))) (evo_const _ _)) ?_
  refine WO.yld (Yld.pick_t (Eq.trans (by (repeat' (first | refine' evo_there (by rfl) ?_ | exact evo_here _ _ _)) <;> (try ((try simp only [evo, upd, ↓reduceIte, Nat.reduceEqDiff]) <;> rfl))) (congrArg Value.bool (rfl))) (by (repeat' (first | refine' evo_there (by rfl) ?_ | exact evo_here _ _ _)) <;> (try ((try simp only [evo, upd, ↓reduceIte, Nat.reduceEqDiff]) <;> rfl)))) ?_
  refine WO.yld (Yld.move (by (repeat' (first | refine' evo_there (by rfl) ?_ | exact evo_here _ _ _)) <;> (try ((try simp only [evo, upd, ↓reduceIte, Nat.reduceEqDiff]) <;> rfl)))) ?_
  refine WO.yes rfl (by decide) (Eq.trans (by (repeat' (first | refine' evo_there (by rfl) ?_ | exact evo_here _ _ _)) <;> (try ((try simp only [evo, upd, ↓reduceIte, Nat.reduceEqDiff]) <;> rfl))) (congrArg Value.bool (rfl))) ?_
  refine WO.yld (Yld.move (by (repeat' (first | refine' evo_there (by rfl) ?_ | exact evo_here _ _ _)) <;> (try ((try simp only [evo, upd, ↓reduceIte, Nat.reduceEqDiff]) <;> rfl)))) ?_
  refine WO.yes rfl (by decide) (Eq.trans (by (repeat' (first | refine' evo_there (by rfl) ?_ | exact evo_here _ _ _)) <;> (try ((try simp only [evo, upd, ↓reduceIte, Nat.reduceEqDiff]) <;> rfl))) (congrArg Value.bool (rfl))) ?_
  refine WO.yld (Sl.indexL 0 hsl8 (by (repeat' (first | refine' evo_there (by rfl) ?_ | exact evo_here _ _ _)) <;> (try ((try simp only [evo, upd, ↓reduceIte, Nat.reduceEqDiff]) <;> rfl))) rfl rfl (by first | omega | decide | simp)) ?_
  -- @@ op: t56 := load 22 t55 : T22   [guard some (22, true)]   info {55: {'k': 'elp', 'f': 'hsl8', 'bs': False}}
  refine WO.yes rfl (by decide) (Eq.trans (by (repeat' (first | refine' evo_there (by rfl) ?_ | exact evo_here _ _ _)) <;> (try ((try simp only [evo, upd, ↓reduceIte, Nat.reduceEqDiff]) <;> rfl))) (congrArg Value.bool (rfl))) ?_
  refine WO.yld (Sl.loadSV hsl8 (by (repeat' (first | refine' evo_there (by rfl) ?_ | exact evo_here _ _ _)) <;> (try ((try simp only [evo, upd, ↓reduceIte, Nat.reduceEqDiff]) <;> rfl))) (by omega)) ?_
  -- @@ op: t57 := convert 22 9 t56 : T9   [guard some (22, true)]   info {56: None}
  refine WO.yes rfl (by decide) (Eq.trans (by (repeat' (first | refine' evo_there (by rfl) ?_ | exact evo_here _ _ _)) <;> (try ((try simp only [evo, upd, ↓reduceIte, Nat.reduceEqDiff]) <;> rfl))) (congrArg Value.bool (rfl))) ?_
  refine WO.yld (Yld.toStr (by (repeat' (first | refine' evo_there (by rfl) ?_ | exact evo_here _ _ _)) <;> (try ((try simp only [evo, upd, ↓reduceIte, Nat.reduceEqDiff]) <;> rfl))) (Bs.up hel8)) ?_
  refine WO.yes rfl (by decide) (Eq.trans (by (repeat' (first | refine' evo_there (by rfl) ?_ | exact evo_here _ _ _)) <;> (try ((try simp only [evo, upd, ↓reduceIte, Nat.reduceEqDiff]) <;> rfl))) (congrArg Value.bool (rfl))) ?_
  refine WO.yld (Yld.eqlStr (by (repeat' (first | refine' evo_there (by rfl) ?_ | exact evo_here _ _ _)) <;> (try ((try simp only [evo, upd, ↓reduceIte, Nat.reduceEqDiff]) <;> rfl))) (evo_const _ _)) ?_
  refine WO.yld (Yld.pick_t (Eq.trans (by (repeat' (first | refine' evo_there (by rfl) ?_ | exact evo_here _ _ _)) <;> (try ((try simp only [evo, upd, ↓reduceIte, Nat.reduceEqDiff]) <;> rfl))) (congrArg Value.bool (rfl))) (by (repeat' (first | refine' evo_there (by rfl) ?_ | exact evo_here _ _ _)) <;> (try ((try simp only [evo, upd, ↓reduceIte, Nat.reduceEqDiff]) <;> rfl)))) ?_
  refine WO.yld (Yld.move (by (repeat' (first | refine' evo_there (by rfl) ?_ | exact evo_here _ _ _)) <;> (try ((try simp only [evo, upd, ↓reduceIte, Nat.reduceEqDiff]) <;> rfl)))) ?_
  refine WO.yes rfl (by decide) (Eq.trans (by (repeat' (first | refine' evo_there (by rfl) ?_ | exact evo_here _ _ _)) <;> (try ((try simp only [evo, upd, ↓reduceIte, Nat.reduceEqDiff]) <;> rfl))) (congrArg Value.bool (rfl))) ?_
  refine WO.yld (Yld.move (by (repeat' (first | refine' evo_there (by rfl) ?_ | exact evo_here _ _ _)) <;> (try ((try simp only [evo, upd, ↓reduceIte, Nat.reduceEqDiff]) <;> rfl)))) ?_
  refine WO.yes rfl (by decide) (Eq.trans (by (repeat' (first | refine' evo_there (by rfl) ?_ | exact evo_here _ _ _)) <;> (try ((try simp only [evo, upd, ↓reduceIte, Nat.reduceEqDiff]) <;> rfl))) (congrArg Value.bool (rfl))) ?_
  refine WO.yld (Yld.eqlI (by (repeat' (first | refine' evo_there (by rfl) ?_ | exact evo_here _ _ _)) <;> (try ((try simp only [evo, upd, ↓reduceIte, Nat.reduceEqDiff]) <;> rfl))) (evo_const _ _)) ?_
  refine WO.yld (Yld.pick_t (Eq.trans (by (repeat' (first | refine' evo_there (by rfl) ?_ | exact evo_here _ _ _)) <;> (try ((try simp only [evo, upd, ↓reduceIte, Nat.reduceEqDiff]) <;> rfl))) (congrArg Value.bool (rfl))) (by (repeat' (first | refine' evo_there (by rfl) ?_ | exact evo_here _ _ _)) <;> (try ((try simp only [evo, upd, ↓reduceIte, Nat.reduceEqDiff]) <;> rfl)))) ?_
  refine WO.yld (Yld.move (by (repeat' (first | refine' evo_there (by rfl) ?_ | exact evo_here _ _ _)) <;> (try ((try simp only [evo, upd, ↓reduceIte, Nat.reduceEqDiff]) <;> rfl)))) ?_
  refine WO.yes rfl (by decide) (Eq.trans (by (repeat' (first | refine' evo_there (by rfl) ?_ | exact evo_here _ _ _)) <;> (try ((try simp only [evo, upd, ↓reduceIte, Nat.reduceEqDiff]) <;> rfl))) (congrArg Value.bool (rfl))) ?_
  refine WO.yld (Yld.move (by (repeat' (first | refine' evo_there (by rfl) ?_ | exact evo_here _ _ _)) <;> (try ((try simp only [evo, upd, ↓reduceIte, Nat.reduceEqDiff]) <;> rfl)))) ?_
  refine WO.yes rfl (by decide) (Eq.trans (by (repeat' (first | refine' evo_there (by rfl) ?_ | exact evo_here _ _ _)) <;> (try ((try simp only [evo, upd, ↓reduceIte, Nat.reduceEqDiff]) <;> rfl))) (congrArg Value.bool (rfl))) ?_
  refine WO.yld (Yld.eqlI (by (repeat' (first | refine' evo_there (by rfl) ?_ | exact evo_here _ _ _)) <;> (try ((try simp only [evo, upd, ↓reduceIte, Nat.reduceEqDiff]) <;> rfl))) (evo_const _ _)) ?_
  refine WO.yld (Yld.pick_t (Eq.trans (by (repeat' (first | refine' evo_there (by rfl) ?_ | exact evo_here _ _ _)) <;> (try ((try simp only [evo, upd, ↓reduceIte, Nat.reduceEqDiff]) <;> rfl))) (congrArg Value.bool (rfl))) (by (repeat' (first | refine' evo_there (by rfl) ?_ | exact evo_here _ _ _)) <;> (try ((try simp only [evo, upd, ↓reduceIte, Nat.reduceEqDiff]) <;> rfl)))) ?_
  refine WO.yld (Yld.move (by (repeat' (first | refine' evo_there (by rfl) ?_ | exact evo_here _ _ _)) <;> (try ((try simp only [evo, upd, ↓reduceIte, Nat.reduceEqDiff]) <;> rfl)))) ?_
  refine WO.yes rfl (by decide) (Eq.trans (by (repeat' (first | refine' evo_there (by rfl) ?_ | exact evo_here _ _ _)) <;> (try ((try simp only [evo, upd, ↓reduceIte, Nat.reduceEqDiff]) <;> rfl))) (congrArg Value.bool (rfl))) ?_
  refine WO.yld (Yld.ldN (by (repeat' (first | refine' evo_there (by rfl) ?_ | exact evo_here _ _ _)) <;> (try ((try simp only [evo, upd, ↓reduceIte, Nat.reduceEqDiff]) <;> rfl))) At.head) ?_
  refine WO.yes rfl (by decide) (Eq.trans (by (repeat' (first | refine' evo_there (by rfl) ?_ | exact evo_here _ _ _)) <;> (try ((try simp only [evo, upd, ↓reduceIte, Nat.reduceEqDiff]) <;> rfl))) (congrArg Value.bool (rfl))) ?_
  refine WO.yld (Yld.buildA Fills.nil) ?_
  refine WO.yes rfl (by decide) (Eq.trans (by (repeat' (first | refine' evo_there (by rfl) ?_ | exact evo_here _ _ _)) <;> (try ((try simp only [evo, upd, ↓reduceIte, Nat.reduceEqDiff]) <;> rfl))) (congrArg Value.bool (rfl))) ?_
  refine WO.yld (Yld.eqlAB (by (repeat' (first | refine' evo_there (by rfl) ?_ | exact evo_here _ _ _)) <;> (try ((try simp only [evo, upd, ↓reduceIte, Nat.reduceEqDiff]) <;> rfl))) (by (repeat' (first | refine' evo_there (by rfl) ?_ | exact evo_here _ _ _)) <;> (try ((try simp only [evo, upd, ↓reduceIte, Nat.reduceEqDiff]) <;> rfl)))) ?_
  refine WO.yld (Yld.pick_t (Eq.trans (by (repeat' (first | refine' evo_there (by rfl) ?_ | exact evo_here _ _ _)) <;> (try ((try simp only [evo, upd, ↓reduceIte, Nat.reduceEqDiff]) <;> rfl))) (congrArg Value.bool (rfl))) (by (repeat' (first | refine' evo_there (by rfl) ?_ | exact evo_here _ _ _)) <;> (try ((try simp only [evo, upd, ↓reduceIte, Nat.reduceEqDiff]) <;> rfl)))) ?_
  refine WO.yld (Yld.move (by (repeat' (first | refine' evo_there (by rfl) ?_ | exact evo_here _ _ _)) <;> (try ((try simp only [evo, upd, ↓reduceIte, Nat.reduceEqDiff]) <;> rfl)))) ?_
  refine WO.yes rfl (by decide) (Eq.trans (by (repeat' (first | refine' evo_there (by rfl) ?_ | exact evo_here _ _ _)) <;> (try ((try simp only [evo, upd, ↓reduceIte, Nat.reduceEqDiff]) <;> rfl))) (congrArg Value.bool (rfl))) ?_
  refine WO.yld (Yld.move (by (repeat' (first | refine' evo_there (by rfl) ?_ | exact evo_here _ _ _)) <;> (try ((try simp only [evo, upd, ↓reduceIte, Nat.reduceEqDiff]) <;> rfl)))) ?_
  refine WO.yes rfl (by decide) (Eq.trans (by (repeat' (first | refine' evo_there (by rfl) ?_ | exact evo_here _ _ _)) <;> (try ((try simp only [evo, upd, ↓reduceIte, Nat.reduceEqDiff]) <;> rfl))) (congrArg Value.bool (rfl))) ?_
  refine WO.yld (Yld.eqlI (by (repeat' (first | refine' evo_there (by rfl) ?_ | exact evo_here _ _ _)) <;> (try ((try simp only [evo, upd, ↓reduceIte, Nat.reduceEqDiff]) <;> rfl))) (evo_const _ _)) ?_
  refine WO.yld (Yld.pick_t (Eq.trans (by (repeat' (first | refine' evo_there (by rfl) ?_ | exact evo_here _ _ _)) <;> (try ((try simp only [evo, upd, ↓reduceIte, Nat.reduceEqDiff]) <;> rfl))) (congrArg Value.bool (rfl))) (by (repeat' (first | refine' evo_there (by rfl) ?_ | exact evo_here _ _ _)) <;> (try ((try simp only [evo, upd, ↓reduceIte, Nat.reduceEqDiff]) <;> rfl)))) ?_
  refine WO.yld (Yld.move (by (repeat' (first | refine' evo_there (by rfl) ?_ | exact evo_here _ _ _)) <;> (try ((try simp only [evo, upd, ↓reduceIte, Nat.reduceEqDiff]) <;> rfl)))) ?_
  -- @@ op: t78 := CALL F100[cstring(('rec', {'data': ('arr', ['107', '100', '99', '49'])}))] ty[9] : T4   [guard some (46, true)]   info {}
  refine WO.yes rfl (by decide) (Eq.trans (by (repeat' (first | refine' evo_there (by rfl) ?_ | exact evo_here _ _ _)) <;> (try ((try simp only [evo, upd, ↓reduceIte, Nat.reduceEqDiff]) <;> rfl))) (congrArg Value.bool (rfl))) ?_
  refine WO.chn rfl (Chn.call (evo_func _ _) (by simp only [List.map_toArray, List.map, evo, upd, ↓reduceIte, Nat.reduceEqDiff] <;> rfl) (name_ok _ _ (by decide)) rfl ?_)
  rintro v9 h9 L9 le9 ⟨rfl, rfl⟩
  rw [show nameOk _ = true from by decide]
  refine WO.yld (Yld.pick_t (Eq.trans (by (repeat' (first | refine' evo_there (by rfl) ?_ | exact evo_here _ _ _)) <;> (try ((try simp only [evo, upd, ↓reduceIte, Nat.reduceEqDiff]) <;> rfl))) (congrArg Value.bool (rfl))) (by (repeat' (first | refine' evo_there (by rfl) ?_ | exact evo_here _ _ _)) <;> (try ((try simp only [evo, upd, ↓reduceIte, Nat.reduceEqDiff]) <;> rfl)))) ?_
  refine WO.yld (Yld.move (by (repeat' (first | refine' evo_there (by rfl) ?_ | exact evo_here _ _ _)) <;> (try ((try simp only [evo, upd, ↓reduceIte, Nat.reduceEqDiff]) <;> rfl)))) ?_
  -- @@ op: t81 := CALL F100[cstring(('rec', {'data': ('arr', ['75', '100', '99'])}))] ty[9] : T4   [guard some (49, true)]   info {}
  refine WO.yes rfl (by decide) (Eq.trans (by (repeat' (first | refine' evo_there (by rfl) ?_ | exact evo_here _ _ _)) <;> (try ((try simp only [evo, upd, ↓reduceIte, Nat.reduceEqDiff]) <;> rfl))) (congrArg Value.bool (rfl))) ?_
  refine WO.chn rfl (Chn.call (evo_func _ _) (by simp only [List.map_toArray, List.map, evo, upd, ↓reduceIte, Nat.reduceEqDiff] <;> rfl) (name_ok _ _ (by decide)) rfl ?_)
  rintro v10 h10 L10 le10 ⟨rfl, rfl⟩
  rw [show nameOk _ = false from by decide]
  refine WO.yes rfl (by decide) (Eq.trans (by (repeat' (first | refine' evo_there (by rfl) ?_ | exact evo_here _ _ _)) <;> (try ((try simp only [evo, upd, ↓reduceIte, Nat.reduceEqDiff]) <;> rfl))) (congrArg Value.bool (rfl))) ?_
  refine WO.yld (Yld.not (by (repeat' (first | refine' evo_there (by rfl) ?_ | exact evo_here _ _ _)) <;> (try ((try simp only [evo, upd, ↓reduceIte, Nat.reduceEqDiff]) <;> rfl)))) ?_
  refine WO.yld (Yld.pick_t (Eq.trans (by (repeat' (first | refine' evo_there (by rfl) ?_ | exact evo_here _ _ _)) <;> (try ((try simp only [evo, upd, ↓reduceIte, Nat.reduceEqDiff]) <;> rfl))) (congrArg Value.bool (rfl))) (by (repeat' (first | refine' evo_there (by rfl) ?_ | exact evo_here _ _ _)) <;> (try ((try simp only [evo, upd, ↓reduceIte, Nat.reduceEqDiff]) <;> rfl)))) ?_
  refine WO.yld (Yld.assign (by (repeat' (first | refine' evo_there (by rfl) ?_ | exact evo_here _ _ _)) <;> (try ((try simp only [evo, upd, ↓reduceIte, Nat.reduceEqDiff]) <;> rfl)))) ?_
  refine WO.nil ?_
  refine hK6 _ _ _ ?_
  clear hK6
  refine WS.ret ?_
  refine FnEnd.mk0 (RV.one (RO.tmp (by (repeat' (first | refine' evo_there (by rfl) ?_ | exact evo_here _ _ _)) <;> (try ((try simp only [evo, upd, ↓reduceIte, Nat.reduceEqDiff]) <;> rfl))))) ?_
  -- @@ fin
  exact ⟨rfl, rfl⟩
end Go.Proofs
