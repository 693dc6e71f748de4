/- Notes: their parts. Conditions: what is handed over can be read. -/
import Derived.Test.YtijlkjbmjkmkfaaN4
namespace Go.Proofs
open Go Go.Bz

instance : TFt Try.prog 258 0 255 0 := mkTFt (by kernel_rfl)
instance : TFt Try.prog 258 1 256 1 := mkTFt (by kernel_rfl)

theorem codes_get (T : List Lt) (k : Nat) (hk : k < T.length) : (codes T).getD k 0 = (T.getD k .A).code := by
  simp [codes, List.getD, hk]
theorem code_small (c : Lt) : c.code.toNat < 128 := by cases c <;> decide
theorem Chn.nextLt {P : Program} {f : Fr} {E : Env} {h : PH} {L : OL} {ty : TypeId} {x : Operand} {Q : Value → PH → OL → Prop} {T : List Lt} {pos b : Nat} {L' : OL} (hx : evo f x = .pointer (some ⟨b, 0, none⟩)) (hp : pos < T.length)
    (p : Put L b (.stringIter ⟨(codes T).toArray⟩ pos) (.stringIter ⟨(codes T).toArray⟩ (pos + 1)) L') (q : Q (.tuple #[.bool true, .int .i64 pos, .int .i32 ((T.getD pos .A).code.toNat : Int)]) h L') : Chn P f E h L (.next x true) ty Q := by
  have e := codes_get T pos hp
  refine Chn.nextStr hx (by simpa [codes] using hp) (by rw [e]; exact code_small _) p ?_
  rw [e]; exact q
theorem sz_codes (T : List Lt) : (⟨(codes T).toArray⟩ : ByteArray).size = T.length := by simp [ByteArray.size, codes]

theorem parts_ok (h : PH) (n : NoteM) (u : NoteP) (hn : NR h n u) (hu : u.Fits) : Ct Try.prog 102 #[n.v] h [] (Fz fun v h' => Rs h' v (partsN u)) := by
  refine Ct.enter (n := 21) (rs := #[.tmp 2]) Try.func102 rfl rfl rfl (by simp) ?_
  intro E hE
  rw [fr1]
  refine WS.seq fun K1 hK1 => ?_
  refine WS.region_lit ?_
  refine WO.chn rfl (Chn.bx EVx fun b1 => ?_)
  refine WO.yld (Yld.assign (evo_const _ _)) ?_
  refine WO.nil ?_
  refine hK1 _ _ _ ?_
  clear hK1
  refine WS.freeze fun hb1 => ?_
  have hb : Fx (h.add b1 (NO n)) b1 (NO n) := PH.add_same _ _ _
  have hle := PH.le_add (o := NO n) hb1
  replace hn := hn.mono hle
  generalize h.add b1 (NO n) = h0 at *
  refine WS.seq fun K2 hK2 => ?_
  refine WS.region_lit ?_
  refine WO.yld (Yld.assign (evo_const _ _)) ?_
  refine WO.nil ?_
  refine hK2 _ _ _ ?_
  clear hK2
  refine WS.seq fun K3 hK3 => ?_
  refine WS.seq fun K4 hK4 => ?_
  refine WS.region_lit ?_
  refine WO.yld (Yld.fieldAddrL (o' := 0) EVx rfl) ?_
  refine WO.yld (Yld.ld1 EVx (At.h hb)) ?_
  refine WO.cZ rfl (Chn.callZ (evo_func _ _) (AC EVx AN) ((has_ok _ _).pz)) ?_
  rintro _ h8 le8 rfl
  replace hn := hn.mono le8
  replace hb := hb.mono le8
  -- @@ op: t9 := range 9 t8 : T0   info {8: None}
  refine WO.chn rfl (Chn.rangeStr EVx fun b9 => ?_)
  rw [hn.k]
  generalize hT : hasT u.Kind = T
  have hT4 : T.length ≤ 4 := by rw [← hT]; exact hasT_len _
  refine WO.nil ?_
  refine hK4 _ _ _ ?_
  clear hK4
  refine WS.blk fun X5 hX5 hY5 => ?_
  -- @@ loop
  refine WS.loop (fun m f h' L => h8.le h' ∧ ∃ (k : Nat) (so : SV) (ss : List SV) (junk : List Value), m = T.length - k ∧ k ≤ T.length ∧ ss.length = k ∧ (∀ i, i < k → Bs h' (ss.getD i SV.nil).v (getL u (T.getD i .A))) ∧ Acc so 1 (ss.map SV.v) junk ∧ L = (b9, .stringIter ⟨(codes T).toArray⟩ k) :: accL so 22 (ss.map SV.v) junk ∧ f 1 = ptr b1 0 ∧ f 3 = so.v ∧ f 9 = ptr b9 0) (T.length) ?_ ?_
  · exact ⟨PH.le_refl _, 0, SV.nil, [], [], rfl, by omega, rfl, fun i hi => by omega, Acc.nil 1, rfl, rfl, rfl, rfl⟩
  · rintro m f h9 _ _ ⟨le9, k, so, ss, junk, rfl, hk, hss, hel, ac, rfl, f1, f3, f9⟩
    obtain ⟨g, rfl⟩ : ∃ g, f = upd (upd (upd g 1 (ptr b1 0)) 3 so.v) 9 (ptr b9 0) := ⟨f, by rw [upd_id f1, upd_id f3, upd_id f9]⟩
    clear f1 f3 f9
    replace hn := hn.mono le9
    replace hb := hb.mono le9
    have hson : so.n = k := by have := ac.len; simp at this; omega
    refine WS.seq fun K6 hK6 => ?_
    refine WS.region_lit ?_
    -- @@ op: t10 := next t9 true : T0   info {9: None}
    by_cases hk2 : k < T.length
    ·
      refine WO.chn rfl (Chn.nextLt EVx hk2 Put.head ?_)
      refine WO.yld (Yld.ext0 EVx) ?_
      refine WO.nil ?_
      refine hK6 _ _ _ ?_
      clear hK6
      refine WS.seq fun K7 hK7 => ?_
      -- @@ cond t11
      refine WS.cond (t := true) EVx (fun _ => ?_) (fun c => by cases c)
      refine WS.skip ?_
      refine hK7 _ _ _ ?_
      clear hK7
      refine WS.blk fun X8 hX8 hY8 => ?_
      refine WS.seq fun K9 hK9 => ?_
      refine WS.region_lit ?_
      refine WO.yld (Yld.ext2 EVx) ?_
      refine WO.yld (Yld.assign EVx) ?_
      refine WO.nil ?_
      refine hK9 _ _ _ ?_
      clear hK9
      refine WS.region_lit ?_
      refine WO.yld (Yld.move EVx) ?_
      refine WO.yld (Yld.move EVx) ?_
      -- @@ op: t15 := CALL F153[t14] ty[21] : T258   info {14: None}
      refine WO.chn rfl (Chn.call (evo_func _ _) (map_evo (AC EVx AN)) (parted_ok _ _) rfl ?_)
      rintro _ h15 L15 le15 ⟨rfl, g15, s15, rfl, hg, hs⟩
      replace hn := hn.mono le15
      replace hb := hb.mono le15
      refine WO.yld (Yld.fld1 EVx) ?_
      -- @@ op: t17 := CALL t16[t1] ty[260] : T22   info {16: None, 1: None}
      refine WO.cZ rfl (Chn.callFZ EVx (AC EVx AN) (hg _ (PH.le_refl _) b1 n u hb hn hu)) ?_
      rintro v17 h17 le17 hv17
      replace hn := hn.mono le17
      replace hb := hb.mono le17
      obtain ⟨sv, rfl, _⟩ := hv17.sv
      -- @@ op: t18 := buildSlice 27 1 [(0, t17)] : T27   info {17: None}
      refine WO.chn rfl (Chn.buildSliceE (sz := 1) (Parts.cons (v := sv.v) EVx Parts.nil) (List.append_nil _) rfl (by decide) fun b18 => ?_)
      refine WO.chn rfl (Chn.perm (List.Perm.cons _ (List.perm_append_comm (l₁ := [(b9, Obj.stringIter ⟨(codes T).toArray⟩ (k + 1))]))) <| Chn.appendLit EVx ac rfl EVx rfl (ones_one rfl) rfl (by decide) (by omega) (by omega) fun so1 junk2 hn1 ac2 => ?_)
      refine WO.perm List.perm_append_comm ?_
      refine WO.yld (Yld.assign EVx) ?_
      refine WO.nil ?_
      -- @@ loopend
      refine ⟨_, ?_, PH.le_trans le9 (PH.le_trans le15 le17), k + 1, so1, ss ++ [sv], junk2, rfl, by omega, by simp [hss], ?_, by simpa using ac2, by simp, rfl, rfl, rfl⟩
      · omega
      · intro i hi
        by_cases h : i < k
        · rw [show (ss ++ [sv]).getD i SV.nil = ss.getD i SV.nil by simp [List.getD, List.getElem?_append_left (by omega : i < ss.length)]]
          exact (hel i h).mono (PH.le_trans le15 le17)
        · obtain rfl : i = k := by omega
          rw [show (ss ++ [sv]).getD i SV.nil = sv by rw [← hss]; simp [List.getD]]
          exact hv17
    ·
      obtain rfl : k = T.length := by omega
      refine WO.yld (Yld.nextEnd EVx (by rw [sz_codes]; exact Nat.le_refl _) At.head) ?_
      refine WO.yld (Yld.ext0 EVx) ?_
      refine WO.nil ?_
      refine hK6 _ _ _ ?_
      clear hK6
      refine WS.seq fun K7 hK7 => ?_
      -- @@ cond t11
      refine WS.cond (t := false) EVx (fun c => by cases c) (fun _ => ?_)
      refine WS.exit (hX5 _ _ _ ?_)
      refine hK3 _ _ _ ?_
      clear hK3
      refine WS.drop (List.sublist_cons_self _ _) ?_
      refine WS.freezeAcc (L2 := []) (e := 22) ac (List.append_nil _).symm fun h2 le2 sl2 => ?_
      refine WS.seq fun K8 hK8 => ?_
      refine WS.region_lit ?_
      refine WO.yld (Yld.move EVx) ?_
      refine WO.yld (Yld.assign EVx) ?_
      refine WO.nil ?_
      refine hK8 _ _ _ ?_
      clear hK8
      refine WS.ret ?_
      refine FnEnd.mk0 (RV.one (RO.tmpE EVx)) ?_
      -- @@ fin
      have hlen : (partsN u).length = T.length := by simp only [partsN, List.length_map, hT]
      refine ⟨rfl, ss, hss.trans hlen.symm, ?_, ?_⟩
      · rw [hlen, ← hson]; exact sl2
      · intro i hi
        have hi' : i < T.length := by omega
        rw [show (partsN u).getD i [] = getL u (T.getD i .A) by simp [partsN, hT, List.getD, hi']]
        exact (hel i hi').mono le2
end Go.Proofs
