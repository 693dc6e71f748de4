/- The reference of layer 10: a note as bytes. Conditions: what is handed over can be read, and is short. -/
import Derived.Test.YtijlkjbmjkmkfaaR5
namespace Go.Proofs
open Go Go.Bz

abbrev RNO (n : NoteM) : Obj := .cells n.cells.toArray 37
theorem getD_snoc {α : Type} (l : List α) (x d : α) (i : Nat) (hi : i < l.length + 1) : (l ++ [x]).getD i d = if i < l.length then l.getD i d else x := by
  by_cases h : i < l.length
  · rw [if_pos h]; simp [List.getD, List.getElem?_append_left h]
  · rw [if_neg h]; obtain rfl : i = l.length := by omega
    simp [List.getD]
theorem elems_snoc {h h' : PH} {ss : List SV} {T : List Lt} {u : NoteP} {k : Nat} {sv : SV} (hss : ss.length = k) (hel : ∀ i, i < k → Bs h (ss.getD i SV.nil).v (getL u (T.getD i .A))) (le : h.le h') (hv : Bs h' sv.v (getL u (T.getD k .A))) :
    ∀ i, i < k + 1 → Bs h' ((ss ++ [sv]).getD i SV.nil).v (getL u (T.getD i .A)) := by
  intro i hi
  rw [getD_snoc _ _ _ _ (by omega)]
  by_cases c : i < ss.length
  · rw [if_pos c]; exact (hel i (by omega)).mono le
  · rw [if_neg c]; obtain rfl : i = k := by omega
    exact hv

theorem rnput_ok (h : PH) (n : NoteM) (u : NoteP) (hn : NR h n u) (hu : u.Fits) : Ct Try.prog 25 #[n.v] h [] (Fz (PutR (putN u) 3)) := by
  refine Ct.enter (n := 86) (rs := #[.tmp 2, .tmp 3]) Try.func25 rfl rfl rfl (by simp) ?_
  intro E hE
  rw [fr1]
  refine WS.seq fun K1 hK1 => ?_
  refine WS.region_lit ?_
  refine WO.chn rfl (Chn.bx EVx fun b1 => ?_)
  refine WO.yld (Yld.assign (evo_const _ _)) ?_
  refine WO.yld (Yld.assign (evo_const _ _)) ?_
  refine WO.nil ?_
  refine hK1 _ _ _ ?_
  clear hK1
  refine WS.freeze fun hb1 => ?_
  have hb : Fx (h.add b1 (RNO n)) b1 (RNO n) := PH.add_same _ _ _
  have hle := PH.le_add (o := RNO n) hb1
  replace hn := hn.mono hle
  generalize h.add b1 (RNO n) = h0 at *
  refine WS.seq fun K2 hK2 => ?_
  refine WS.seq fun K3 hK3 => ?_
  refine WS.region_lit ?_
  refine WO.yld (Yld.ldN EVx (At.h hb)) ?_
  refine WO.cZ rfl (Chn.callZ (evo_func _ _) (AC EVx AN) ((rright_ok _ n _ hn hu).pz)) ?_
  rintro _ h10 le10 rfl
  replace hn := hn.mono le10
  replace hb := hb.mono le10
  refine WO.yld (Yld.not EVx) ?_
  refine WO.nil ?_
  refine hK3 _ _ _ ?_
  clear hK3
  -- @@ cond t11
  refine WS.cond EVx (fun c1 => ?_) (fun c1 => ?_)
  ·
    refine WS.seq fun K4 hK4 => ?_
    refine WS.region_lit ?_
    refine WO.yld (Yld.assign (evo_const _ _)) ?_
    refine WO.yld (Yld.assign (evo_const _ _)) ?_
    refine WO.nil ?_
    refine hK4 _ _ _ ?_
    clear hK4
    refine WS.ret ?_
    refine FnEnd.mk0 (RV.two (RO.tmpE EVx) (RO.tmpE EVx)) ?_
    -- @@ fin
    have : putN u = none := by unfold putN; rw [if_neg (by simpa using c1)]
    rw [this]; exact ⟨rfl, PutR.none⟩
  ·
    have c1 : rightN u = true := by simpa using c1
    obtain ⟨hp5, hpe⟩ := putN_eq c1
    generalize hT : hasT u.Kind = T
    have hT4 : T.length ≤ 4 := by rw [← hT]; exact hasT_len _
    refine WS.skip ?_
    refine hK2 _ _ _ ?_
    clear hK2
    refine WS.seq fun K4 hK4 => ?_
    refine WS.region_lit ?_
    refine WO.yld (Yld.fieldAddrL (o' := 0) EVx rfl) ?_
    refine WO.yld (Yld.ld1 EVx (At.h hb)) ?_
    refine WO.cZ rfl (Chn.callZ (evo_func _ _) (AC EVx AN) ((rhas_eq _ _ _ hn.k).pz)) ?_
    rintro _ h14 le14 rfl
    replace hn := hn.mono le14
    replace hb := hb.mono le14
    refine WO.yld (Yld.assign EVx) ?_
    refine WO.nil ?_
    refine hK4 _ _ _ ?_
    clear hK4
    refine WS.seq fun K5 hK5 => ?_
    refine WS.region_lit ?_
    refine WO.yld (Yld.assign (evo_const _ _)) ?_
    refine WO.nil ?_
    refine hK5 _ _ _ ?_
    clear hK5
    refine WS.seq fun K6 hK6 => ?_
    refine WS.seq fun K7 hK7 => ?_
    refine WS.region_lit ?_
    refine WO.yld (Yld.assign (evo_const _ _)) ?_
    refine WO.nil ?_
    refine hK7 _ _ _ ?_
    clear hK7
    refine WS.blk fun X8 hX8 hY8 => ?_
    -- @@ loop
    rw [hT]
    refine WS.loop (fun m f h' L => h14.le h' ∧ ∃ (k : Nat) (so : SV) (ss : List SV) (junk : List Value), m = T.length - k ∧ k ≤ T.length ∧ ss.length = k ∧ (∀ i, i < k → Bs h' (ss.getD i SV.nil).v (getL u (T.getD i .A))) ∧ Acc so 1 (ss.map SV.v) junk ∧ L = accL so 22 (ss.map SV.v) junk ∧ f 1 = ptr b1 0 ∧ f 4 = .string ⟨(codes T).toArray⟩ ∧ f 5 = so.v ∧ f 6 = .int .i64 k) (T.length) ?_ ?_
    · exact ⟨PH.le_refl _, 0, SV.nil, [], [], rfl, by omega, rfl, fun i hi => by omega, Acc.nil 1, rfl, rfl, rfl, rfl, rfl⟩
    · rintro m f h9 _ _ ⟨le9, k, so, ss, junk, rfl, hk, hss, hel, ac, rfl, f1, f4, f5, f6⟩
      obtain ⟨g, rfl⟩ : ∃ g, f = upd (upd (upd (upd g 1 (ptr b1 0)) 4 (.string ⟨(codes T).toArray⟩)) 5 so.v) 6 (.int .i64 k) := ⟨f, by rw [upd_id f1, upd_id f4, upd_id f5, upd_id f6]⟩
      clear f1 f4 f5 f6
      replace hn := hn.mono le9
      replace hb := hb.mono le9
      have hson : so.n = k := by have := ac.len; simp at this; omega
      have hsz := sz_codes T
      refine WS.seq fun K9 hK9 => ?_
      refine WS.seq fun K10 hK10 => ?_
      refine WS.region_lit ?_
      refine WO.yld (Yld.move EVx) ?_
      refine WO.yld (Yld.move EVx) ?_
      refine WO.yld (Yld.lenStr EVx) ?_
      refine WO.yld (Yld.lss EVx EVx) ?_
      refine WO.nil ?_
      refine hK10 _ _ _ ?_
      clear hK10
      -- @@ cond t18
      rw [hsz]
      refine WS.cond EVx (fun c2 => ?_) (fun c2 => ?_)
      ·
        have hk2 : k < T.length := by simp at c2; omega
        have hcode := codes_get T k hk2
        refine WS.skip ?_
        refine hK9 _ _ _ ?_
        clear hK9
        refine WS.seq fun K11 hK11 => ?_
        refine WS.blk fun X12 hX12 hY12 => ?_
        refine WS.seq fun K13 hK13 => ?_
        refine WS.region_lit ?_
        refine WO.yld (Yld.move EVx) ?_
        refine WO.yld (Yld.move EVx) ?_
        refine WO.yld (Yld.idxStr EVx EVx (by first | omega | decide | simp)) ?_
        refine WO.nil ?_
        refine hK13 _ _ _ ?_
        clear hK13
        refine WS.blk fun X14 hX14 hY14 => ?_
        refine WS.seq fun K15 hK15 => ?_
        refine WS.region_lit ?_
        refine WO.yld (Yld.eqlI EVx (evo_const _ _)) ?_
        refine WO.yld (Yld.assign EVx) ?_
        refine WO.nil ?_
        refine hK15 _ _ _ ?_
        clear hK15
        -- @@ cond t24
        rw [show (⟨(codes T).toArray⟩ : ByteArray).data.toList.getD k 0 = (T.getD k .A).code from by rw [← hcode]]
        generalize hc : T.getD k .A = c
        refine WS.cond EVx (fun d0 => ?_) (fun d0 => ?_)
        ·
          have e : c = .A := by revert d0; cases c <;> decide
          subst e
          refine WS.region_lit ?_
          refine WO.yld (Yld.move EVx) ?_
          refine WO.yld (Yld.fieldAddrL (o' := 1) EVx rfl) ?_
          refine WO.yld (Yld.ld1 EVx (At.h hb)) ?_
          -- @@ op: t29 := convert 9 22 t28 : T22   info {28: None}
          refine WO.chn rfl (Chn.toBytes EVx ((by rw [hn.a]; have := hu.a; omega)) fun v29 h29 le29 hb29 => ?_)
          replace hn := hn.mono le29
          replace hb := hb.mono le29
          obtain ⟨sv, rfl, _⟩ := hb29.sv
          have hv : Bs h29 sv.v (getL u (T.getD k .A)) := by rw [hc]; show Bs _ _ u.A.data.toList; rw [← hn.a]; exact hb29
          have leh := PH.le_trans le9 le29
          have lel := le29
          -- @@ op: t30 := buildSlice 27 1 [(0, t29)] : T27   info {29: {'k': 'sl', 'f': 'hb29', 'bs': True}}
          refine WO.chn rfl (Chn.buildSliceE (sz := 1) (Parts.cons (v := sv.v) EVx Parts.nil) (List.append_nil _) rfl (by decide) fun bb => ?_)
          refine WO.chn rfl (Chn.appendLit EVx ac (by rw [List.append_nil]) EVx rfl (ones_one rfl) rfl (by decide) (by omega) (by omega) fun so1 junk2 hn1 ac2 => ?_)
          refine WO.yld (Yld.assign EVx) ?_
          refine WO.nil ?_
          refine hK11 _ _ _ ?_
          clear hK11
          refine WS.region_lit ?_
          refine WO.yld (Yld.move EVx) ?_
          refine WO.yld (Yld.add EVx (evo_const _ _)) ?_
          refine WO.yld (Yld.assign EVx) ?_
          refine WO.nil ?_
          -- @@ loopend
          exact ⟨_, by omega, leh, k + 1, so1, ss ++ [sv], junk2, rfl, by omega, by simp [hss], elems_snoc hss hel lel hv, by simpa using ac2, by simp, rfl, rfl, rfl, next_k k (by omega)⟩
        ·
          refine WS.seq fun K16 hK16 => ?_
          refine WS.region_lit ?_
          refine WO.yld (Yld.eqlI EVx (evo_const _ _)) ?_
          refine WO.yld (Yld.assign EVx) ?_
          refine WO.nil ?_
          refine hK16 _ _ _ ?_
          clear hK16
          -- @@ cond t32
          refine WS.cond EVx (fun d1 => ?_) (fun d1 => ?_)
          ·
            have e : c = .B := by revert d1; cases c <;> decide
            subst e
            refine WS.region_lit ?_
            refine WO.yld (Yld.move EVx) ?_
            refine WO.yld (Yld.fieldAddrL (o' := 2) EVx rfl) ?_
            refine WO.yld (Yld.ld1 EVx (At.h hb)) ?_
            -- @@ op: t37 := convert 9 22 t36 : T22   info {36: None}
            refine WO.chn rfl (Chn.toBytes EVx ((by rw [hn.b]; have := hu.b; omega)) fun v29 h29 le29 hb29 => ?_)
            replace hn := hn.mono le29
            replace hb := hb.mono le29
            obtain ⟨sv, rfl, _⟩ := hb29.sv
            have hv : Bs h29 sv.v (getL u (T.getD k .A)) := by rw [hc]; show Bs _ _ u.B.data.toList; rw [← hn.b]; exact hb29
            have leh := PH.le_trans le9 le29
            have lel := le29
            -- @@ op: t38 := buildSlice 27 1 [(0, t37)] : T27   info {37: {'k': 'sl', 'f': 'hb29', 'bs': True}}
            refine WO.chn rfl (Chn.buildSliceE (sz := 1) (Parts.cons (v := sv.v) EVx Parts.nil) (List.append_nil _) rfl (by decide) fun bb => ?_)
            refine WO.chn rfl (Chn.appendLit EVx ac (by rw [List.append_nil]) EVx rfl (ones_one rfl) rfl (by decide) (by omega) (by omega) fun so1 junk2 hn1 ac2 => ?_)
            refine WO.yld (Yld.assign EVx) ?_
            refine WO.nil ?_
            refine hK11 _ _ _ ?_
            clear hK11
            refine WS.region_lit ?_
            refine WO.yld (Yld.move EVx) ?_
            refine WO.yld (Yld.add EVx (evo_const _ _)) ?_
            refine WO.yld (Yld.assign EVx) ?_
            refine WO.nil ?_
            -- @@ loopend
            exact ⟨_, by omega, leh, k + 1, so1, ss ++ [sv], junk2, rfl, by omega, by simp [hss], elems_snoc hss hel lel hv, by simpa using ac2, by simp, rfl, rfl, rfl, next_k k (by omega)⟩
          ·
            refine WS.seq fun K17 hK17 => ?_
            refine WS.region_lit ?_
            refine WO.yld (Yld.eqlI EVx (evo_const _ _)) ?_
            refine WO.yld (Yld.assign EVx) ?_
            refine WO.nil ?_
            refine hK17 _ _ _ ?_
            clear hK17
            -- @@ cond t40
            refine WS.cond EVx (fun d2 => ?_) (fun d2 => ?_)
            ·
              have e : c = .X := by revert d2; cases c <;> decide
              subst e
              have hv : Bs h9 (SV.mk (some ⟨b1, 3, none⟩) 16 16).v (getL u (T.getD k .A)) := by rw [hc]; show Bs _ _ u.X.1; rw [← hn.x]; exact Bs.arr hb (by simp [maxLen])
              have leh := le9
              have lel := PH.le_refl h9
              refine WS.region_lit ?_
              refine WO.yld (Yld.move EVx) ?_
              refine WO.yld (Yld.fieldAddrL (o' := 3) EVx rfl) ?_
              refine WO.yld (Yld.sliceA EVx (by decide)) ?_
              -- @@ op: t45 := buildSlice 27 1 [(0, t44)] : T27   info {44: None}
              generalize hsv : SV.mk (some ⟨b1, 3, none⟩) 16 16 = sv at hv
              refine WO.chn rfl (Chn.buildSliceE (sz := 1) (Parts.cons (v := sv.v) (show evo _ _ = sv.v from hsv ▸ EVx) Parts.nil) (List.append_nil _) rfl (by decide) fun bb => ?_)
              refine WO.chn rfl (Chn.appendLit EVx ac (by rw [List.append_nil]) EVx rfl (ones_one rfl) rfl (by decide) (by omega) (by omega) fun so1 junk2 hn1 ac2 => ?_)
              refine WO.yld (Yld.assign EVx) ?_
              refine WO.nil ?_
              refine hK11 _ _ _ ?_
              clear hK11
              refine WS.region_lit ?_
              refine WO.yld (Yld.move EVx) ?_
              refine WO.yld (Yld.add EVx (evo_const _ _)) ?_
              refine WO.yld (Yld.assign EVx) ?_
              refine WO.nil ?_
              -- @@ loopend
              exact ⟨_, by omega, leh, k + 1, so1, ss ++ [sv], junk2, rfl, by omega, by simp [hss], elems_snoc hss hel lel hv, by simpa using ac2, by simp, rfl, rfl, rfl, next_k k (by omega)⟩
            ·
              refine WS.seq fun K18 hK18 => ?_
              refine WS.region_lit ?_
              refine WO.yld (Yld.eqlI EVx (evo_const _ _)) ?_
              refine WO.yld (Yld.assign EVx) ?_
              refine WO.nil ?_
              refine hK18 _ _ _ ?_
              clear hK18
              -- @@ cond t47
              refine WS.cond EVx (fun d3 => ?_) (fun d3 => ?_)
              ·
                have e : c = .Y := by revert d3; cases c <;> decide
                subst e
                have hv : Bs h9 (SV.mk (some ⟨b1, 19, none⟩) 16 16).v (getL u (T.getD k .A)) := by rw [hc]; show Bs _ _ u.Y.1; rw [← hn.y]; exact Bs.arr hb (by simp [maxLen])
                have leh := le9
                have lel := PH.le_refl h9
                refine WS.region_lit ?_
                refine WO.yld (Yld.move EVx) ?_
                refine WO.yld (Yld.fieldAddrL (o' := 19) EVx rfl) ?_
                refine WO.yld (Yld.sliceA EVx (by decide)) ?_
                -- @@ op: t52 := buildSlice 27 1 [(0, t51)] : T27   info {51: None}
                generalize hsv : SV.mk (some ⟨b1, 19, none⟩) 16 16 = sv at hv
                refine WO.chn rfl (Chn.buildSliceE (sz := 1) (Parts.cons (v := sv.v) (show evo _ _ = sv.v from hsv ▸ EVx) Parts.nil) (List.append_nil _) rfl (by decide) fun bb => ?_)
                refine WO.chn rfl (Chn.appendLit EVx ac (by rw [List.append_nil]) EVx rfl (ones_one rfl) rfl (by decide) (by omega) (by omega) fun so1 junk2 hn1 ac2 => ?_)
                refine WO.yld (Yld.assign EVx) ?_
                refine WO.nil ?_
                refine hK11 _ _ _ ?_
                clear hK11
                refine WS.region_lit ?_
                refine WO.yld (Yld.move EVx) ?_
                refine WO.yld (Yld.add EVx (evo_const _ _)) ?_
                refine WO.yld (Yld.assign EVx) ?_
                refine WO.nil ?_
                -- @@ loopend
                exact ⟨_, by omega, leh, k + 1, so1, ss ++ [sv], junk2, rfl, by omega, by simp [hss], elems_snoc hss hel lel hv, by simpa using ac2, by simp, rfl, rfl, rfl, next_k k (by omega)⟩
              ·
                refine WS.seq fun K19 hK19 => ?_
                refine WS.region_lit ?_
                refine WO.yld (Yld.eqlI EVx (evo_const _ _)) ?_
                refine WO.yld (Yld.assign EVx) ?_
                refine WO.nil ?_
                refine hK19 _ _ _ ?_
                clear hK19
                -- @@ cond t54
                refine WS.cond EVx (fun d4 => ?_) (fun d4 => ?_)
                ·
                  have e : c = .P := by revert d4; cases c <;> decide
                  subst e
                  have hv : Bs h9 n.P.v (getL u (T.getD k .A)) := by rw [hc]; exact hn.p
                  have leh := le9
                  have lel := PH.le_refl h9
                  refine WS.region_lit ?_
                  refine WO.yld (Yld.move EVx) ?_
                  refine WO.yld (Yld.fieldAddrL (o' := 35) EVx rfl) ?_
                  refine WO.yld (Yld.ld1 EVx (At.h hb)) ?_
                  -- @@ op: t59 := buildSlice 27 1 [(0, t58)] : T27   info {58: None}
                  generalize hsv : n.P = sv at hv
                  refine WO.chn rfl (Chn.buildSliceE (sz := 1) (Parts.cons (v := sv.v) (show evo _ _ = sv.v from hsv ▸ EVx) Parts.nil) (List.append_nil _) rfl (by decide) fun bb => ?_)
                  refine WO.chn rfl (Chn.appendLit EVx ac (by rw [List.append_nil]) EVx rfl (ones_one rfl) rfl (by decide) (by omega) (by omega) fun so1 junk2 hn1 ac2 => ?_)
                  refine WO.yld (Yld.assign EVx) ?_
                  refine WO.nil ?_
                  refine hK11 _ _ _ ?_
                  clear hK11
                  refine WS.region_lit ?_
                  refine WO.yld (Yld.move EVx) ?_
                  refine WO.yld (Yld.add EVx (evo_const _ _)) ?_
                  refine WO.yld (Yld.assign EVx) ?_
                  refine WO.nil ?_
                  -- @@ loopend
                  exact ⟨_, by omega, leh, k + 1, so1, ss ++ [sv], junk2, rfl, by omega, by simp [hss], elems_snoc hss hel lel hv, by simpa using ac2, by simp, rfl, rfl, rfl, next_k k (by omega)⟩
                ·
                  refine WS.seq fun K20 hK20 => ?_
                  refine WS.region_lit ?_
                  refine WO.yld (Yld.eqlI EVx (evo_const _ _)) ?_
                  refine WO.yld (Yld.assign EVx) ?_
                  refine WO.nil ?_
                  refine hK20 _ _ _ ?_
                  clear hK20
                  -- @@ cond t61
                  refine WS.cond EVx (fun d5 => ?_) (fun d5 => ?_)
                  ·
                    have e : c = .Q := by revert d5; cases c <;> decide
                    subst e
                    have hv : Bs h9 n.Q.v (getL u (T.getD k .A)) := by rw [hc]; exact hn.q
                    have leh := le9
                    have lel := PH.le_refl h9
                    refine WS.region_lit ?_
                    refine WO.yld (Yld.move EVx) ?_
                    refine WO.yld (Yld.fieldAddrL (o' := 36) EVx rfl) ?_
                    refine WO.yld (Yld.ld1 EVx (At.h hb)) ?_
                    -- @@ op: t66 := buildSlice 27 1 [(0, t65)] : T27   info {65: None}
                    generalize hsv : n.Q = sv at hv
                    refine WO.chn rfl (Chn.buildSliceE (sz := 1) (Parts.cons (v := sv.v) (show evo _ _ = sv.v from hsv ▸ EVx) Parts.nil) (List.append_nil _) rfl (by decide) fun bb => ?_)
                    refine WO.chn rfl (Chn.appendLit EVx ac (by rw [List.append_nil]) EVx rfl (ones_one rfl) rfl (by decide) (by omega) (by omega) fun so1 junk2 hn1 ac2 => ?_)
                    refine WO.yld (Yld.assign EVx) ?_
                    refine WO.nil ?_
                    refine hK11 _ _ _ ?_
                    clear hK11
                    refine WS.region_lit ?_
                    refine WO.yld (Yld.move EVx) ?_
                    refine WO.yld (Yld.add EVx (evo_const _ _)) ?_
                    refine WO.yld (Yld.assign EVx) ?_
                    refine WO.nil ?_
                    -- @@ loopend
                    exact ⟨_, by omega, leh, k + 1, so1, ss ++ [sv], junk2, rfl, by omega, by simp [hss], elems_snoc hss hel lel hv, by simpa using ac2, by simp, rfl, rfl, rfl, next_k k (by omega)⟩
                  ·
                    refine WS.seq fun K21 hK21 => ?_
                    refine WS.region_lit ?_
                    refine WO.yld (Yld.eqlI EVx (evo_const _ _)) ?_
                    refine WO.yld (Yld.assign EVx) ?_
                    refine WO.nil ?_
                    refine hK21 _ _ _ ?_
                    clear hK21
                    -- @@ cond t68
                    refine WS.cond EVx (fun d6 => ?_) (fun d6 => ?_)
                    ·
                      have e : c = .R := by revert d6; cases c <;> decide
                      subst e
                      have hv : Bs h9 n.R.v (getL u (T.getD k .A)) := by rw [hc]; exact hn.r
                      have leh := le9
                      have lel := PH.le_refl h9
                      refine WS.region_lit ?_
                      refine WO.yld (Yld.move EVx) ?_
                      refine WO.yld (Yld.fieldAddrL (o' := 37) EVx rfl) ?_
                      refine WO.yld (Yld.ld1 EVx (At.h hb)) ?_
                      -- @@ op: t73 := buildSlice 27 1 [(0, t72)] : T27   info {72: None}
                      generalize hsv : n.R = sv at hv
                      refine WO.chn rfl (Chn.buildSliceE (sz := 1) (Parts.cons (v := sv.v) (show evo _ _ = sv.v from hsv ▸ EVx) Parts.nil) (List.append_nil _) rfl (by decide) fun bb => ?_)
                      refine WO.chn rfl (Chn.appendLit EVx ac (by rw [List.append_nil]) EVx rfl (ones_one rfl) rfl (by decide) (by omega) (by omega) fun so1 junk2 hn1 ac2 => ?_)
                      refine WO.yld (Yld.assign EVx) ?_
                      refine WO.nil ?_
                      refine hK11 _ _ _ ?_
                      clear hK11
                      refine WS.region_lit ?_
                      refine WO.yld (Yld.move EVx) ?_
                      refine WO.yld (Yld.add EVx (evo_const _ _)) ?_
                      refine WO.yld (Yld.assign EVx) ?_
                      refine WO.nil ?_
                      -- @@ loopend
                      exact ⟨_, by omega, leh, k + 1, so1, ss ++ [sv], junk2, rfl, by omega, by simp [hss], elems_snoc hss hel lel hv, by simpa using ac2, by simp, rfl, rfl, rfl, next_k k (by omega)⟩
                    ·
                      revert d0 d1 d2 d3 d4 d5 d6; cases c <;> intro d0 d1 d2 d3 d4 d5 d6 <;> first | (exact absurd d0 (by decide)) | (exact absurd d1 (by decide)) | (exact absurd d2 (by decide)) | (exact absurd d3 (by decide)) | (exact absurd d4 (by decide)) | (exact absurd d5 (by decide)) | (exact absurd d6 (by decide))
      ·
        obtain rfl : k = T.length := by simp at c2; omega
        refine WS.exit (hX8 _ _ _ ?_)
        refine hK6 _ _ _ ?_
        clear hK6
        refine WS.freezeAcc (L2 := []) (e := 22) ac (List.append_nil _).symm fun h20 le20 sl20 => ?_
        replace hn := hn.mono le20
        replace hb := hb.mono le20
        have hlen : (partsN u).length = T.length := by simp only [partsN, List.length_map, hT]
        have hrs : Rs h20 so.v (partsN u) := by
          refine ⟨ss, hss.trans hlen.symm, by rw [hlen, ← hson]; exact sl20, fun i hi => ?_⟩
          rw [show (partsN u).getD i [] = getL u (T.getD i .A) by simp [partsN, hT, List.getD, (by omega : i < T.length)]]
          exact (hel i (by omega)).mono le20
        refine WS.seq fun K11 hK11 => ?_
        refine WS.region_lit ?_
        refine WO.yld (Yld.move EVx) ?_
        refine WO.cZ rfl (Chn.callZ (evo_func _ _) (AC EVx AN) (rput_z _ _ _ hrs (by omega))) ?_
        rintro _ h77 le77 ⟨s77, rfl, hb77⟩
        replace hn := hn.mono le77
        replace hb := hb.mono le77
        refine WO.yld (Yld.move EVx) ?_
        refine WO.yld (Yld.ext0 EVx) ?_
        refine WO.yld (Yld.ext1 EVx) ?_
        refine WO.yld (Yld.assign EVx) ?_
        refine WO.yld (Yld.assign EVx) ?_
        refine WO.nil ?_
        refine hK11 _ _ _ ?_
        clear hK11
        refine WS.seq fun K12 hK12 => ?_
        refine WS.region_lit ?_
        refine WO.yld (Yld.fieldAddrL (o' := 0) EVx rfl) ?_
        refine WO.yld (Yld.ld1 EVx (At.h hb)) ?_
        refine WO.yld (Yld.conv EVx) ?_
        -- @@ op: t83 := buildSlice 22 1 [(0, t82)] : T22   info {82: None}
        rw [hpe] at hb77 ⊢
        have hen := encs_len (partsN u) hp5
        have hb77 : Bs h77 s77.v (encs (partsN u)) := hb77
        refine WO.chn rfl (Chn.buildAcc (sz := 1) (Parts.cons (v := .int .u8 ((Bz.byteOf u.Kind).toNat : Int)) (Eq.trans EVx (by rw [u8_wrap, hn.k])) Parts.nil) rfl (by decide) (by decide) fun s83 hn83 ac83 => ?_)
        refine WO.yld (Yld.move EVx) ?_
        -- @@ op: t85 := append[t83, t84] ty[22, 22] : T22   info {83: None, 84: None}
        refine WO.chn rfl (Chn.appendF EVx ac83 rfl EVx hb77.up (bc_ones _) rfl (by decide) (by omega) (by omega) fun s85 h85 le85 hn85 hs85 => ?_)
        refine WO.yld (Yld.assign EVx) ?_
        refine WO.yld (Yld.assign (evo_const _ _)) ?_
        refine WO.nil ?_
        refine hK12 _ _ _ ?_
        clear hK12
        refine WS.ret ?_
        refine FnEnd.mk0 (RV.two (RO.tmpE EVx) (RO.tmpE EVx)) ?_
        -- @@ fin
        have : putN u = some (Bz.byteOf u.Kind :: encs (partsN u)) := by unfold putN; rw [if_pos c1]
        rw [this]
        refine ⟨rfl, s85, rfl, ?_⟩
        rw [hn83] at hs85
        have e : 1 + (encs (partsN u)).length = (Bz.byteOf u.Kind :: encs (partsN u)).length := by simp; omega
        rw [e] at hs85
        exact hs85
end Go.Proofs
