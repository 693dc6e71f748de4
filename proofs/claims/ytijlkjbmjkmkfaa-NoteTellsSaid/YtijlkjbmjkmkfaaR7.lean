/- The reference of layer 10: the note of bytes. Conditions: what is handed over can be read, and is short. -/
import Derived.Test.YtijlkjbmjkmkfaaR6
namespace Go.Proofs
open Go Go.Bz

theorem rnread_ok (h : PH) (v : Value) (l : List UInt8) (hv : Bs h v l) (hl : l.length < 1000000000000) : Ct Try.prog 27 #[v] h [] (Fz (ReadR (readN l))) := by
  refine Ct.enter (n := 124) (rs := #[.cell 2 37, .tmp 3]) Try.func27 rfl rfl rfl (by simp) ?_
  intro E hE
  rw [fr1]
  refine WS.seq fun K1 hK1 => ?_
  refine WS.region_lit ?_
  refine WO.chn rfl (Chn.alloc fun b2 => ?_)
  refine WO.yld (Yld.assign (evo_const _ _)) ?_
  refine WO.nil ?_
  refine hK1 _ _ _ ?_
  clear hK1
  refine WS.seq fun K2 hK2 => ?_
  refine WS.seq fun K3 hK3 => ?_
  refine WS.region_lit ?_
  refine WO.yld (Yld.move EVx) ?_
  refine WO.yld (Sl.lenS hv EVx) ?_
  refine WO.yld (Yld.eqlI EVx (evo_const _ _)) ?_
  refine WO.nil ?_
  refine hK3 _ _ _ ?_
  clear hK3
  -- @@ cond t15
  refine WS.cond EVx (fun c1 => ?_) (fun c1 => ?_)
  ·
    refine WS.seq fun K4 hK4 => ?_
    refine WS.region_lit ?_
    refine WO.yld (Yld.build Fills.nil) ?_
    refine WO.chn rfl (Chn.st EVx EVx Put.head ?_)
    refine WO.yld (Yld.assign (evo_const _ _)) ?_
    refine WO.nil ?_
    refine hK4 _ _ _ ?_
    clear hK4
    refine WS.ret ?_
    refine FnEnd.mk0 (RV.two (RO.cellNE EVx (Cells.of (n := 38) At.head) Len.eq) (RO.tmpE EVx)) ?_
    -- @@ fin
    obtain rfl : l = [] := by simpa using c1
    exact ⟨rfl, NoteM.zero, rfl, NR.zero _⟩
  ·
    obtain ⟨k0, r, rfl⟩ : ∃ k r, l = k :: r := by
      cases l with
      | nil => simp at c1
      | cons k r => exact ⟨k, r, rfl⟩
    have hkw : IntKind.i64.wrap (((k0 :: r).getD 0 0).toNat : Int) = ((k0.toNat : Nat) : Int) := by
      have := k0.toNat_lt
      exact wrap_i64 (by show (-9223372036854775808 : Int) ≤ (k0.toNat : Int); omega) (by show (k0.toNat : Int) ≤ 9223372036854775807; omega)
    generalize hT : hasT (k0.toNat : Int) = T
    have hT4 : T.length ≤ 4 := by rw [← hT]; exact hasT_len _
    refine WS.skip ?_
    refine hK2 _ _ _ ?_
    clear hK2
    refine WS.seq fun K4 hK4 => ?_
    refine WS.region_lit ?_
    refine WO.yld (Yld.move EVx) ?_
    refine WO.yld (Sl.indexL 0 hv EVx rfl rfl (by first | omega | decide | simp)) ?_
    refine WO.yld (Bs.load hv EVx (by first | omega | decide | simp)) ?_
    refine WO.yld (Yld.conv EVx) ?_
    refine WO.cZ rfl (Chn.callZ (evo_func _ _) (AC EVx AN) (((show Ct _ _ _ _ _ (Pu (.string ⟨(codes T).toArray⟩)) from hT ▸ rhas_eq _ _ _ hkw)).pz)) ?_
    rintro _ h21 le21 rfl
    replace hv := hv.mono le21
    refine WO.yld (Yld.assign EVx) ?_
    refine WO.nil ?_
    refine hK4 _ _ _ ?_
    clear hK4
    refine WS.seq fun K5 hK5 => ?_
    refine WS.region_lit ?_
    refine WO.yld (Yld.move EVx) ?_
    -- @@ op: t24 := slice 22 t23 some c1:i64 none none : T22   info {23: {'k': 'sl', 'f': 'hv', 'bs': True, 'el': False}}
    refine WO.yld (Bs.from_ hv 1 EVx (evo_const _ _) rfl (by simp)) ?_
    -- @@ op: t25 := CALL F106[t24] ty[22] : T28   info {24: None}
    have hr := hv.drop 1 (by simp)
    simp only [List.drop_succ_cons, List.drop_zero] at hr
    generalize slcut v 1 (k0 :: r).length (vcap v) 1 = vr at hr ⊢
    have hlr : r.length < 1000000000000 := by simp at hl; omega
    refine WO.chn rfl (Chn.call (evo_func _ _) (map_evo (AC EVx AN)) (rsplit_z _ _ _ hr hlr) rfl ?_)
    rintro _ h25 L25 le25 ⟨rfl, s25, rfl, ss, hss, hsl, hel⟩
    replace hv := hv.mono le25
    replace hr := hr.mono le25
    refine WO.yld (Yld.move EVx) ?_
    refine WO.yld (Yld.ext0 EVx) ?_
    refine WO.yld (Yld.ext1 EVx) ?_
    refine WO.yld (Yld.assign EVx) ?_
    refine WO.yld (Yld.assign EVx) ?_
    refine WO.nil ?_
    refine hK5 _ _ _ ?_
    clear hK5
    refine WS.seq fun K6 hK6 => ?_
    refine WS.seq fun K7 hK7 => ?_
    refine WS.region_lit ?_
    refine WO.yld (Yld.move EVx) ?_
    refine WO.yld (Yld.neqI EVx (evo_const _ _)) ?_
    refine WO.yld (Yld.move EVx) ?_
    refine WO.gyF0 rfl EVx (fun hp => Yld.move EVx) ?_
    refine WO.gyF0 rfl EVx (fun hp => Yld.eqlStr (EVc hp EVx) (evo_const _ _)) ?_
    refine WO.yld (Yld.pickOr' EVx (evo_const _ _) (fun h => (EVc (nf h) EVx))) ?_
    refine WO.yld (Yld.move EVx) ?_
    refine WO.gyF0 rfl EVx (fun hp => Yld.move EVx) ?_
    refine WO.gyF0 rfl EVx (fun hp => Sl.lenS hsl (EVc hp EVx)) ?_
    refine WO.gyF0 rfl EVx (fun hp => Yld.move EVx) ?_
    refine WO.gyF0 rfl EVx (fun hp => Yld.lenStr (EVc hp EVx)) ?_
    refine WO.gyF0 rfl EVx (fun hp => Yld.neqI (EVc hp EVx) (EVc hp EVx)) ?_
    refine WO.yld (Yld.pickOr' EVx (evo_const _ _) (fun h => (EVc (nf h) EVx))) ?_
    refine WO.nil ?_
    refine hK7 _ _ _ ?_
    clear hK7
    -- @@ cond t40
    have hsm : ∀ b ∈ splitL (fsplit 0 r), b.length ≤ 500 := by
      cases e : fsplit 0 r with
      | error x => intro b hb; cases hb
      | ok ll => exact fsplit_small r 0 ll e
    generalize hll : splitL (fsplit 0 r) = ll at *
    refine WS.cond EVx (fun c2 => ?_) (fun c2 => ?_)
    ·
      refine WS.seq fun K8 hK8 => ?_
      refine WS.region_lit ?_
      refine WO.yld (Yld.build Fills.nil) ?_
      refine WO.chn rfl (Chn.st EVx EVx Put.head ?_)
      refine WO.yld (Yld.assign (evo_const _ _)) ?_
      refine WO.nil ?_
      refine hK8 _ _ _ ?_
      clear hK8
      refine WS.ret ?_
      refine FnEnd.mk0 (RV.two (RO.cellNE EVx (Cells.of (n := 38) At.head) Len.eq) (RO.tmpE EVx)) ?_
      -- @@ fin
      have : readN (k0 :: r) = none := by
        refine readN_bad _ _ fun l e => ?_
        rw [hT]
        simp only [e, splitE, splitL] at c2 hll
        subst hll
        rw [sz_codes] at c2
        simp [codes] at c2
        rcases c2 with c2 | c2
        · exact .inl c2
        · exact .inr (by omega)
      rw [this]; exact ⟨rfl, NoteM.zero, rfl, NR.zero _⟩
    ·
      obtain ⟨e0, hT0, hTl⟩ : fsplit 0 r = .ok ll ∧ T ≠ [] ∧ ll.length = T.length := by
        cases e : fsplit 0 r with
        | error x => have := fsplit_err r 0 x e; simp only [e, splitE] at c2; simp at c2; omega
        | ok l2 =>
          simp only [e, splitE, splitL] at c2 hll
          subst hll
          rw [sz_codes] at c2
          simp [codes] at c2
          exact ⟨rfl, c2.1, by omega⟩
      refine WS.skip ?_
      refine hK6 _ _ _ ?_
      clear hK6
      refine WS.seq fun K8 hK8 => ?_
      refine WS.region_lit ?_
      refine WO.yld (Yld.move EVx) ?_
      refine WO.yld (Sl.indexL 0 hv EVx rfl rfl (by first | omega | decide | simp)) ?_
      refine WO.yld (Bs.load hv EVx (by first | omega | decide | simp)) ?_
      refine WO.yld (Yld.conv EVx) ?_
      refine WO.yld (Yld.build (Fills.cons rfl EVx Fills.nil)) ?_
      refine WO.chn rfl (Chn.alloc fun b7 => ?_)
      refine WO.chn rfl (Chn.st EVx EVx Put.head ?_)
      refine WO.nil ?_
      refine hK8 _ _ _ ?_
      clear hK8
      refine WS.seq fun K9 hK9 => ?_
      refine WS.seq fun K10 hK10 => ?_
      refine WS.region_lit ?_
      refine WO.yld (Yld.assign (evo_const _ _)) ?_
      refine WO.nil ?_
      refine hK10 _ _ _ ?_
      clear hK10
      refine WS.blk fun X11 hX11 hY11 => ?_
      -- @@ loop
      rw [hkw]
      have hsz := sz_codes T
      refine WS.loop (fun m f h' L => h25.le h' ∧ ∃ (k : Nat) (n : NoteM) (u : NoteP), m = T.length - k ∧ k ≤ T.length ∧ NR h' n u ∧ setR { NoteP.zero with Kind := k0.toNat } T ll = setR u (T.drop k) (ll.drop k) ∧ L = [(b7, RNO n), (b2, RNO NoteM.zero)] ∧ f 0 = v ∧ f 2 = ptr b2 0 ∧ f 4 = .string ⟨(codes T).toArray⟩ ∧ f 5 = s25.v ∧ f 7 = ptr b7 0 ∧ f 8 = .int .i64 k) (T.length) ?_ ?_
      · exact ⟨PH.le_refl _, 0, { NoteM.zero with Kind := k0.toNat }, { NoteP.zero with Kind := k0.toNat }, rfl, by omega, ⟨rfl, rfl, rfl, rfl, rfl, Bs.nil _, Bs.nil _, Bs.nil _⟩, rfl, rfl, rfl, rfl, rfl, rfl, rfl, rfl⟩
      · rintro m f h9 _ _ ⟨le9, k, n, u, rfl, hk, hn, hset, rfl, f0, f2, f4, f5, f7, f8⟩
        obtain ⟨g, rfl⟩ : ∃ g, f = upd (upd (upd (upd (upd (upd g 0 v) 2 (ptr b2 0)) 4 (.string ⟨(codes T).toArray⟩)) 5 s25.v) 7 (ptr b7 0)) 8 (.int .i64 k) := ⟨f, by rw [upd_id f0, upd_id f2, upd_id f4, upd_id f5, upd_id f7, upd_id f8]⟩
        clear f0 f2 f4 f5 f7 f8
        replace hsl := Sl.mono (L := []) le9 hsl
        replace hv := hv.mono le9
        refine WS.seq fun K12 hK12 => ?_
        refine WS.seq fun K13 hK13 => ?_
        refine WS.region_lit ?_
        refine WO.yld (Yld.move EVx) ?_
        refine WO.yld (Yld.move EVx) ?_
        refine WO.yld (Yld.lenStr EVx) ?_
        refine WO.yld (Yld.lss EVx EVx) ?_
        refine WO.nil ?_
        refine hK13 _ _ _ ?_
        clear hK13
        -- @@ cond t50
        rw [hsz]
        refine WS.cond EVx (fun c3 => ?_) (fun c3 => ?_)
        ·
          have hk2 : k < T.length := by simp at c3; omega
          have hcode := codes_get T k hk2
          have hkl : k < ll.length := by omega
          have hbk := (hel k hkl).mono le9
          have hb500 : (ll.getD k []).length ≤ 500 := hsm _ (by rw [show ll.getD k [] = ll[k] by simp [List.getD, hkl]]; exact List.getElem_mem _)
          have hst := hset
          rw [setR_step u T ll k hk2 hkl] at hst
          refine WS.skip ?_
          refine hK12 _ _ _ ?_
          clear hK12
          refine WS.seq fun K14 hK14 => ?_
          refine WS.blk fun X15 hX15 hY15 => ?_
          refine WS.seq fun K16 hK16 => ?_
          refine WS.region_lit ?_
          refine WO.yld (Yld.move EVx) ?_
          refine WO.yld (Yld.move EVx) ?_
          refine WO.yld (Sl.indexN hsl EVx EVx (by first | omega | decide | simp)) ?_
          refine WO.yld (Sl.loadSV hsl EVx (by first | omega | decide | simp)) ?_
          refine WO.cZ rfl (Chn.callZ (evo_func _ _) (AC EVx AN) ((rword_pu _ _ _ hbk (by omega)).pz)) ?_
          rintro _ h58 le58 rfl
          replace hv := hv.mono le58
          replace hsl := Sl.mono (L := []) le58 hsl
          replace hn := hn.mono le58
          replace hbk := hbk.mono le58
          refine WO.yld (Yld.move EVx) ?_
          refine WO.yld (Yld.ext0 EVx) ?_
          refine WO.yld (Yld.ext1 EVx) ?_
          refine WO.chn rfl (Chn.alloc fun b9 => ?_)
          refine WO.chn rfl (Chn.st EVx EVx Put.head ?_)
          refine WO.yld (Yld.assign EVx) ?_
          refine WO.nil ?_
          refine hK16 _ _ _ ?_
          clear hK16
          refine WS.seq fun K17 hK17 => ?_
          refine WS.region_lit ?_
          refine WO.yld (Yld.move EVx) ?_
          refine WO.yld (Yld.move EVx) ?_
          refine WO.yld (Yld.idxStr EVx EVx (by first | omega | decide | simp)) ?_
          refine WO.nil ?_
          refine hK17 _ _ _ ?_
          clear hK17
          refine WS.blk fun X18 hX18 hY18 => ?_
          refine WS.seq fun K19 hK19 => ?_
          refine WS.region_lit ?_
          refine WO.yld (Yld.eqlI EVx (evo_const _ _)) ?_
          refine WO.yld (Yld.assign EVx) ?_
          refine WO.nil ?_
          refine hK19 _ _ _ ?_
          clear hK19
          -- @@ cond t64
          rw [show (⟨(codes T).toArray⟩ : ByteArray).data.toList.getD k 0 = (T.getD k .A).code from by rw [← hcode]]
          generalize hc : T.getD k .A = c at hst ⊢
          generalize ll.getD k [] = bk at hbk hb500 hst ⊢
          generalize hsk : ss.getD k SV.nil = sk at hbk ⊢
          refine WS.cond EVx (fun d0 => ?_) (fun d0 => ?_)
          ·
            have e : c = .A := by revert d0; cases c <;> decide
            subst e
            refine WS.region_lit ?_
            refine WO.yld (Yld.move EVx) ?_
            refine WO.yld (Yld.move EVx) ?_
            refine WO.yld (Sl.indexN hsl EVx EVx (by first | omega | decide | simp)) ?_
            refine WO.yld ((show Yld _ _ _ _ _ _ sk.v from hsk ▸ Sl.loadSV hsl EVx (by omega))) ?_
            refine WO.yld (Yld.toStr EVx (Bs.up hbk)) ?_
            refine WO.yld (Yld.fieldAddrL (o' := 1) EVx rfl) ?_
            refine WO.chn rfl (Chn.st EVx EVx (Put.tail Put.head) ?_)
            refine WO.nil ?_
            refine hK14 _ _ _ ?_
            clear hK14
            refine WS.drop (List.sublist_cons_self _ _) ?_
            refine WS.region_lit ?_
            refine WO.yld (Yld.move EVx) ?_
            refine WO.yld (Yld.add EVx (evo_const _ _)) ?_
            refine WO.yld (Yld.assign EVx) ?_
            refine WO.nil ?_
            -- @@ loopend
            exact ⟨_, by omega, PH.le_trans le9 le58, k + 1, { n with A := ⟨bk.toArray⟩ }, (setL u .A bk).1, rfl, by omega, ⟨hn.k, rfl, hn.b, hn.x, hn.y, hn.p, hn.q, hn.r⟩, hst, rfl, rfl, rfl, rfl, rfl, rfl, next_k k (by omega)⟩
          ·
            refine WS.seq fun K20 hK20 => ?_
            refine WS.region_lit ?_
            refine WO.yld (Yld.eqlI EVx (evo_const _ _)) ?_
            refine WO.yld (Yld.assign EVx) ?_
            refine WO.nil ?_
            refine hK20 _ _ _ ?_
            clear hK20
            -- @@ cond t72
            refine WS.cond EVx (fun d1 => ?_) (fun d1 => ?_)
            ·
              have e : c = .B := by revert d1; cases c <;> decide
              subst e
              refine WS.region_lit ?_
              refine WO.yld (Yld.move EVx) ?_
              refine WO.yld (Yld.move EVx) ?_
              refine WO.yld (Sl.indexN hsl EVx EVx (by first | omega | decide | simp)) ?_
              refine WO.yld ((show Yld _ _ _ _ _ _ sk.v from hsk ▸ Sl.loadSV hsl EVx (by omega))) ?_
              refine WO.yld (Yld.toStr EVx (Bs.up hbk)) ?_
              refine WO.yld (Yld.fieldAddrL (o' := 2) EVx rfl) ?_
              refine WO.chn rfl (Chn.st EVx EVx (Put.tail Put.head) ?_)
              refine WO.nil ?_
              refine hK14 _ _ _ ?_
              clear hK14
              refine WS.drop (List.sublist_cons_self _ _) ?_
              refine WS.region_lit ?_
              refine WO.yld (Yld.move EVx) ?_
              refine WO.yld (Yld.add EVx (evo_const _ _)) ?_
              refine WO.yld (Yld.assign EVx) ?_
              refine WO.nil ?_
              -- @@ loopend
              exact ⟨_, by omega, PH.le_trans le9 le58, k + 1, { n with B := ⟨bk.toArray⟩ }, (setL u .B bk).1, rfl, by omega, ⟨hn.k, hn.a, rfl, hn.x, hn.y, hn.p, hn.q, hn.r⟩, hst, rfl, rfl, rfl, rfl, rfl, rfl, next_k k (by omega)⟩
            ·
              refine WS.seq fun K21 hK21 => ?_
              refine WS.region_lit ?_
              refine WO.yld (Yld.eqlI EVx (evo_const _ _)) ?_
              refine WO.yld (Yld.assign EVx) ?_
              refine WO.nil ?_
              refine hK21 _ _ _ ?_
              clear hK21
              -- @@ cond t80
              refine WS.cond EVx (fun d2 => ?_) (fun d2 => ?_)
              ·
                have e : c = .X := by revert d2; cases c <;> decide
                subst e
                refine WS.region_lit ?_
                refine WO.yld (Yld.ldN EVx At.head) ?_
                refine WO.yld (Yld.fieldAddrL (o' := 3) EVx rfl) ?_
                refine WO.chn rfl (Chn.st EVx EVx (Put.tail Put.head) ?_)
                refine WO.nil ?_
                refine hK14 _ _ _ ?_
                clear hK14
                refine WS.drop (List.sublist_cons_self _ _) ?_
                refine WS.region_lit ?_
                refine WO.yld (Yld.move EVx) ?_
                refine WO.yld (Yld.add EVx (evo_const _ _)) ?_
                refine WO.yld (Yld.assign EVx) ?_
                refine WO.nil ?_
                -- @@ loopend
                exact ⟨_, by omega, PH.le_trans le9 le58, k + 1, { n with X := wordOf bk }, (setL u .X bk).1, rfl, by omega, ⟨hn.k, hn.a, hn.b, rfl, hn.y, hn.p, hn.q, hn.r⟩, hst, rfl, rfl, rfl, rfl, rfl, rfl, next_k k (by omega)⟩
              ·
                refine WS.seq fun K22 hK22 => ?_
                refine WS.region_lit ?_
                refine WO.yld (Yld.eqlI EVx (evo_const _ _)) ?_
                refine WO.yld (Yld.assign EVx) ?_
                refine WO.nil ?_
                refine hK22 _ _ _ ?_
                clear hK22
                -- @@ cond t84
                refine WS.cond EVx (fun d3 => ?_) (fun d3 => ?_)
                ·
                  have e : c = .Y := by revert d3; cases c <;> decide
                  subst e
                  refine WS.region_lit ?_
                  refine WO.yld (Yld.ldN EVx At.head) ?_
                  refine WO.yld (Yld.fieldAddrL (o' := 19) EVx rfl) ?_
                  refine WO.chn rfl (Chn.st EVx EVx (Put.tail Put.head) ?_)
                  refine WO.nil ?_
                  refine hK14 _ _ _ ?_
                  clear hK14
                  refine WS.drop (List.sublist_cons_self _ _) ?_
                  refine WS.region_lit ?_
                  refine WO.yld (Yld.move EVx) ?_
                  refine WO.yld (Yld.add EVx (evo_const _ _)) ?_
                  refine WO.yld (Yld.assign EVx) ?_
                  refine WO.nil ?_
                  -- @@ loopend
                  exact ⟨_, by omega, PH.le_trans le9 le58, k + 1, { n with Y := wordOf bk }, (setL u .Y bk).1, rfl, by omega, ⟨hn.k, hn.a, hn.b, hn.x, rfl, hn.p, hn.q, hn.r⟩, hst, rfl, rfl, rfl, rfl, rfl, rfl, next_k k (by omega)⟩
                ·
                  refine WS.seq fun K23 hK23 => ?_
                  refine WS.region_lit ?_
                  refine WO.yld (Yld.eqlI EVx (evo_const _ _)) ?_
                  refine WO.yld (Yld.assign EVx) ?_
                  refine WO.nil ?_
                  refine hK23 _ _ _ ?_
                  clear hK23
                  -- @@ cond t88
                  refine WS.cond EVx (fun d4 => ?_) (fun d4 => ?_)
                  ·
                    have e : c = .P := by revert d4; cases c <;> decide
                    subst e
                    refine WS.region_lit ?_
                    refine WO.yld (Yld.move EVx) ?_
                    refine WO.yld (Yld.move EVx) ?_
                    refine WO.yld (Sl.indexN hsl EVx EVx (by first | omega | decide | simp)) ?_
                    refine WO.yld ((show Yld _ _ _ _ _ _ sk.v from hsk ▸ Sl.loadSV hsl EVx (by omega))) ?_
                    refine WO.yld (Yld.fieldAddrL (o' := 35) EVx rfl) ?_
                    refine WO.chn rfl (Chn.st EVx EVx (Put.tail Put.head) ?_)
                    refine WO.nil ?_
                    refine hK14 _ _ _ ?_
                    clear hK14
                    refine WS.drop (List.sublist_cons_self _ _) ?_
                    refine WS.region_lit ?_
                    refine WO.yld (Yld.move EVx) ?_
                    refine WO.yld (Yld.add EVx (evo_const _ _)) ?_
                    refine WO.yld (Yld.assign EVx) ?_
                    refine WO.nil ?_
                    -- @@ loopend
                    exact ⟨_, by omega, PH.le_trans le9 le58, k + 1, { n with P := sk }, (setL u .P bk).1, rfl, by omega, ⟨hn.k, hn.a, hn.b, hn.x, hn.y, hbk, hn.q, hn.r⟩, hst, rfl, rfl, rfl, rfl, rfl, rfl, next_k k (by omega)⟩
                  ·
                    refine WS.seq fun K24 hK24 => ?_
                    refine WS.region_lit ?_
                    refine WO.yld (Yld.eqlI EVx (evo_const _ _)) ?_
                    refine WO.yld (Yld.assign EVx) ?_
                    refine WO.nil ?_
                    refine hK24 _ _ _ ?_
                    clear hK24
                    -- @@ cond t95
                    refine WS.cond EVx (fun d5 => ?_) (fun d5 => ?_)
                    ·
                      have e : c = .Q := by revert d5; cases c <;> decide
                      subst e
                      refine WS.region_lit ?_
                      refine WO.yld (Yld.move EVx) ?_
                      refine WO.yld (Yld.move EVx) ?_
                      refine WO.yld (Sl.indexN hsl EVx EVx (by first | omega | decide | simp)) ?_
                      refine WO.yld ((show Yld _ _ _ _ _ _ sk.v from hsk ▸ Sl.loadSV hsl EVx (by omega))) ?_
                      refine WO.yld (Yld.fieldAddrL (o' := 36) EVx rfl) ?_
                      refine WO.chn rfl (Chn.st EVx EVx (Put.tail Put.head) ?_)
                      refine WO.nil ?_
                      refine hK14 _ _ _ ?_
                      clear hK14
                      refine WS.drop (List.sublist_cons_self _ _) ?_
                      refine WS.region_lit ?_
                      refine WO.yld (Yld.move EVx) ?_
                      refine WO.yld (Yld.add EVx (evo_const _ _)) ?_
                      refine WO.yld (Yld.assign EVx) ?_
                      refine WO.nil ?_
                      -- @@ loopend
                      exact ⟨_, by omega, PH.le_trans le9 le58, k + 1, { n with Q := sk }, (setL u .Q bk).1, rfl, by omega, ⟨hn.k, hn.a, hn.b, hn.x, hn.y, hn.p, hbk, hn.r⟩, hst, rfl, rfl, rfl, rfl, rfl, rfl, next_k k (by omega)⟩
                    ·
                      refine WS.seq fun K25 hK25 => ?_
                      refine WS.region_lit ?_
                      refine WO.yld (Yld.eqlI EVx (evo_const _ _)) ?_
                      refine WO.yld (Yld.assign EVx) ?_
                      refine WO.nil ?_
                      refine hK25 _ _ _ ?_
                      clear hK25
                      -- @@ cond t102
                      refine WS.cond EVx (fun d6 => ?_) (fun d6 => ?_)
                      ·
                        have e : c = .R := by revert d6; cases c <;> decide
                        subst e
                        refine WS.region_lit ?_
                        refine WO.yld (Yld.move EVx) ?_
                        refine WO.yld (Yld.move EVx) ?_
                        refine WO.yld (Sl.indexN hsl EVx EVx (by first | omega | decide | simp)) ?_
                        refine WO.yld ((show Yld _ _ _ _ _ _ sk.v from hsk ▸ Sl.loadSV hsl EVx (by omega))) ?_
                        refine WO.yld (Yld.fieldAddrL (o' := 37) EVx rfl) ?_
                        refine WO.chn rfl (Chn.st EVx EVx (Put.tail Put.head) ?_)
                        refine WO.nil ?_
                        refine hK14 _ _ _ ?_
                        clear hK14
                        refine WS.drop (List.sublist_cons_self _ _) ?_
                        refine WS.region_lit ?_
                        refine WO.yld (Yld.move EVx) ?_
                        refine WO.yld (Yld.add EVx (evo_const _ _)) ?_
                        refine WO.yld (Yld.assign EVx) ?_
                        refine WO.nil ?_
                        -- @@ loopend
                        exact ⟨_, by omega, PH.le_trans le9 le58, k + 1, { n with R := sk }, (setL u .R bk).1, rfl, by omega, ⟨hn.k, hn.a, hn.b, hn.x, hn.y, hn.p, hn.q, hbk⟩, hst, rfl, rfl, rfl, rfl, rfl, rfl, next_k k (by omega)⟩
                      ·
                        revert d0 d1 d2 d3 d4 d5 d6; cases c <;> intro d0 d1 d2 d3 d4 d5 d6 <;> first | (exact absurd d0 (by decide)) | (exact absurd d1 (by decide)) | (exact absurd d2 (by decide)) | (exact absurd d3 (by decide)) | (exact absurd d4 (by decide)) | (exact absurd d5 (by decide)) | (exact absurd d6 (by decide))
        ·
          obtain rfl : k = T.length := by simp at c3; omega
          have hu : setR { NoteP.zero with Kind := k0.toNat } T ll = u := by
            rw [hset, List.drop_length]; cases ll.drop T.length <;> rfl
          have huf : u.Fits := fits_of_len fun c => by
            rw [← hu]
            refine setR_len _ _ _ (fun c => ?_) hsm c
            have e : ∀ c, (getL NoteP.zero c).length ≤ 500 := by intro c; cases c <;> decide
            have := e c
            cases c <;> exact this
          have hrd := readN_ref k0 r ll e0 (by rw [hT]; exact hT0) (by rw [hT]; exact hTl)
          rw [hT, hu] at hrd
          refine WS.exit (hX11 _ _ _ ?_)
          refine hK9 _ _ _ ?_
          clear hK9
          refine WS.seq fun K14 hK14 => ?_
          refine WS.region_lit ?_
          refine WO.yld (Yld.ldN EVx At.head) ?_
          refine WO.cZ rfl (Chn.callZ (evo_func _ _) (AC EVx AN) (rnput_ok _ n _ hn huf)) ?_
          rintro _ h111 le111 ⟨s111, rfl, hb111⟩
          replace hv := hv.mono le111
          replace hsl := Sl.mono (L := []) le111 hsl
          replace hn := hn.mono le111
          refine WO.yld (Yld.move EVx) ?_
          refine WO.yld (Yld.ext0 EVx) ?_
          refine WO.yld (Yld.ext1 EVx) ?_
          refine WO.yld (Yld.assign EVx) ?_
          refine WO.yld (Yld.assign EVx) ?_
          refine WO.nil ?_
          refine hK14 _ _ _ ?_
          clear hK14
          refine WS.seq fun K15 hK15 => ?_
          refine WS.seq fun K16 hK16 => ?_
          refine WS.region_lit ?_
          refine WO.yld (Yld.move EVx) ?_
          refine WO.yld (Yld.neqI EVx (evo_const _ _)) ?_
          refine WO.yld (Yld.move EVx) ?_
          refine WO.gyF0 rfl EVx (fun hp => Yld.move EVx) ?_
          refine WO.gyF0 rfl EVx (fun hp => Yld.move EVx) ?_
          -- @@ op: t119 := CALL F21[t117, t118] ty[22, 22] : T4   [guard some (2, false)]   path (((115, 1), False),)   info {117: {'k': 'sl', 'f': 'hv', 'bs': True, 'el': False}, 118: None}
          refine WO.gpF0 rfl EVx (fun hp => Chn.callZ (evo_func _ _) (AC (EVc hp EVx) (AC (EVc hp EVx) AN)) ((same_pu _ _ _ _ _ hv hb111 hl).pz)) fun h119 le119 => ?_
          replace hv := hv.mono le119
          replace hsl := Sl.mono (L := []) le119 hsl
          replace hn := hn.mono le119
          replace hb111 := hb111.mono le119
          refine WO.gyF0 rfl EVx (fun hp => Yld.not (EVc hp EVx)) ?_
          refine WO.yld (Yld.pickOr' EVx (evo_const _ _) (fun h => (EVc (nf h) EVx))) ?_
          refine WO.nil ?_
          refine hK16 _ _ _ ?_
          clear hK16
          -- @@ cond t121
          cases hp : putN u with
          | none =>
            rw [hp] at hrd
            rw [if_neg (by simp)] at hrd
            refine WS.cond (t := true) (EVb EVx ((by simp))) (fun _ => ?_) (fun c => by cases c)
            refine WS.seq fun K17 hK17 => ?_
            refine WS.region_lit ?_
            refine WO.yld (Yld.build Fills.nil) ?_
            refine WO.chn rfl (Chn.st EVx EVx (Put.tail Put.head) ?_)
            refine WO.yld (Yld.assign (evo_const _ _)) ?_
            refine WO.nil ?_
            refine hK17 _ _ _ ?_
            clear hK17
            refine WS.ret ?_
            refine FnEnd.mk0 (RV.two (RO.cellNE EVx (Cells.of (n := 38) (At.tail At.head)) Len.eq) (RO.tmpE EVx)) ?_
            -- @@ fin
            rw [hrd]; exact ⟨rfl, NoteM.zero, rfl, NR.zero _⟩
          | some b =>
            by_cases e : k0 :: r = b
            ·
              rw [hp, if_pos (by rw [e])] at hrd
              refine WS.cond (t := false) (EVb EVx ((by simp [e]))) (fun c => by cases c) (fun _ => ?_)
              refine WS.skip ?_
              refine hK15 _ _ _ ?_
              clear hK15
              refine WS.seq fun K17 hK17 => ?_
              refine WS.region_lit ?_
              refine WO.yld (Yld.ldN EVx At.head) ?_
              refine WO.chn rfl (Chn.st EVx EVx (Put.tail Put.head) ?_)
              refine WO.yld (Yld.assign (evo_const _ _)) ?_
              refine WO.nil ?_
              refine hK17 _ _ _ ?_
              clear hK17
              refine WS.ret ?_
              refine FnEnd.mk0 (RV.two (RO.cellNE EVx (Cells.of (n := 38) (At.tail At.head)) Len.eq) (RO.tmpE EVx)) ?_
              -- @@ fin
              rw [hrd]; exact ⟨rfl, n, rfl, hn⟩
            ·
              rw [hp, if_neg (by intro h; injection h with h; exact e h.symm)] at hrd
              refine WS.cond (t := true) (EVb EVx ((by simp [e]))) (fun _ => ?_) (fun c => by cases c)
              refine WS.seq fun K17 hK17 => ?_
              refine WS.region_lit ?_
              refine WO.yld (Yld.build Fills.nil) ?_
              refine WO.chn rfl (Chn.st EVx EVx (Put.tail Put.head) ?_)
              refine WO.yld (Yld.assign (evo_const _ _)) ?_
              refine WO.nil ?_
              refine hK17 _ _ _ ?_
              clear hK17
              refine WS.ret ?_
              refine FnEnd.mk0 (RV.two (RO.cellNE EVx (Cells.of (n := 38) (At.tail At.head)) Len.eq) (RO.tmpE EVx)) ?_
              -- @@ fin
              rw [hrd]; exact ⟨rfl, NoteM.zero, rfl, NR.zero _⟩
end Go.Proofs
