/- Notes: a note made of parts. Conditions: what is handed over can be read, and is short. -/
import Derived.Test.YtijlkjbmjkmkfaaN5
namespace Go.Proofs
open Go Go.Bz

def MadeR (o : Option NoteP) (v : Value) (h : PH) : Prop := ∃ n : NoteM, v = .tuple #[n.v, .bool o.isSome] ∧ NR h n (o.getD NoteP.zero)
theorem setAll_step (u : NoteP) (T : List Lt) (l : List (List UInt8)) (k : Nat) (h1 : k < T.length) (h2 : k < l.length) :
    setAll u (T.drop k) (l.drop k) = if (setL u (T.getD k .A) (l.getD k [])).2 then setAll (setL u (T.getD k .A) (l.getD k [])).1 (T.drop (k + 1)) (l.drop (k + 1)) else none := by
  rw [List.drop_eq_getElem_cons h1, List.drop_eq_getElem_cons h2, setAll]
  simp [List.getD, h1, h2]
theorem setAll_nil (u : NoteP) (l : List (List UInt8)) : setAll u [] l = some u := by cases l <;> rfl
theorem str_nil (T : List Lt) : ((⟨(codes T).toArray⟩ : ByteArray) = ⟨#[]⟩) ↔ T = [] := by
  constructor
  · intro h
    have : (codes T).toArray = #[] := by injection h
    have h2 : (codes T).toArray.toList = [] := by rw [this]
    simpa [codes] using h2
  · rintro rfl; rfl

theorem made_ok (h : PH) (kd : Int) (lv : Value) (l : List (List UInt8)) (hl : Rs h lv l) (hs : ∀ b ∈ l, b.length < 1000000000000) :
    Ct Try.prog 105 #[.int .i64 kd, lv] h [] (Fz (MadeR (madeN kd l))) := by
  obtain ⟨ss, hss, hsl, hel⟩ := hl
  refine Ct.enter (n := 41) (rs := #[.cell 4 35, .tmp 5]) Try.func105 rfl rfl rfl (by simp) ?_
  intro E hE
  rw [fr2]
  generalize hT : hasT kd = T
  have hT4 : T.length ≤ 4 := by rw [← hT]; exact hasT_len _
  refine WS.seq fun K1 hK1 => ?_
  refine WS.region_lit ?_
  refine WO.chn rfl (Chn.alloc fun b4 => ?_)
  refine WO.yld (Yld.assign (evo_const _ _)) ?_
  refine WO.nil ?_
  refine hK1 _ _ _ ?_
  clear hK1
  refine WS.seq fun K2 hK2 => ?_
  refine WS.region_lit ?_
  refine WO.yld (Yld.move EVx) ?_
  refine WO.cZ rfl (Chn.callZ (evo_func _ _) (AC EVx AN) (((show Ct _ _ _ _ _ (Pu (.string ⟨(codes T).toArray⟩)) from hT ▸ has_ok _ _)).pz)) ?_
  rintro _ h11 le11 rfl
  replace hsl := Sl.mono (L := []) le11 hsl
  refine WO.yld (Yld.assign EVx) ?_
  refine WO.nil ?_
  refine hK2 _ _ _ ?_
  clear hK2
  refine WS.seq fun K3 hK3 => ?_
  refine WS.region_lit ?_
  refine WO.yld (Yld.move EVx) ?_
  refine WO.yld (Yld.build (Fills.cons rfl EVx Fills.nil)) ?_
  refine WO.chn rfl (Chn.alloc fun b7 => ?_)
  refine WO.chn rfl (Chn.st EVx EVx Put.head ?_)
  refine WO.nil ?_
  refine hK3 _ _ _ ?_
  clear hK3
  refine WS.seq fun K4 hK4 => ?_
  refine WS.seq fun K5 hK5 => ?_
  refine WS.region_lit ?_
  refine WO.yld (Yld.move EVx) ?_
  refine WO.yld (Yld.eqlStr EVx (evo_const _ _)) ?_
  refine WO.yld (Yld.move EVx) ?_
  refine WO.gyF0 rfl EVx (fun hp => Yld.move EVx) ?_
  refine WO.gyF0 rfl EVx (fun hp => Sl.lenS hsl (EVc hp EVx)) ?_
  refine WO.gyF0 rfl EVx (fun hp => Yld.move EVx) ?_
  refine WO.gyF0 rfl EVx (fun hp => Yld.lenStr (EVc hp EVx)) ?_
  refine WO.gyF0 rfl EVx (fun hp => Yld.neqI (EVc hp EVx) (EVc hp EVx)) ?_
  refine WO.yld (Yld.pickOr' EVx (evo_const _ _) (fun h => (EVc (nf h) EVx))) ?_
  refine WO.nil ?_
  refine hK5 _ _ _ ?_
  clear hK5
  -- @@ cond t22
  refine WS.cond EVx (fun c1 => ?_) (fun c1 => ?_)
  ·
    refine WS.seq fun K6 hK6 => ?_
    refine WS.region_lit ?_
    refine WO.yld (Yld.build Fills.nil) ?_
    refine WO.chn rfl (Chn.st EVx EVx (Put.tail Put.head) ?_)
    refine WO.yld (Yld.assign (evo_const _ _)) ?_
    refine WO.nil ?_
    refine hK6 _ _ _ ?_
    clear hK6
    refine WS.ret ?_
    refine FnEnd.mk0 (RV.two (RO.cellNE EVx (Cells.of (n := 38) (At.tail At.head)) Len.eq) (RO.tmpE EVx)) ?_
    -- @@ fin
    have hm : madeN kd l = none := by
      unfold madeN
      rw [if_pos]
      rw [sz_codes] at c1; simp [codes] at c1
      rcases c1 with c1 | c1
      · exact .inl (hT.trans c1)
      · exact .inr (by rw [hT]; omega)
    rw [hm]
    exact ⟨rfl, NoteM.zero, rfl, NR.zero _⟩
  ·
    refine WS.skip ?_
    refine hK4 _ _ _ ?_
    clear hK4
    have hne : T ≠ [] ∧ l.length = T.length := by
      rw [sz_codes] at c1; simp [codes] at c1
      exact ⟨c1.1, by omega⟩
    have hm : madeN kd l = setAll { NoteP.zero with Kind := kd } T l := by
      unfold madeN
      rw [hT, if_neg (by simp [hne.1, hne.2])]
    refine WS.seq fun K6 hK6 => ?_
    refine WS.seq fun K7 hK7 => ?_
    refine WS.region_lit ?_
    refine WO.yld (Yld.move EVx) ?_
    -- @@ op: t25 := range 9 t24 : T0   info {24: None}
    refine WO.chn rfl (Chn.rangeStr EVx fun b25 => ?_)
    refine WO.nil ?_
    refine hK7 _ _ _ ?_
    clear hK7
    refine WS.blk fun X8 hX8 hY8 => ?_
    -- @@ loop
    refine WS.perm (L' := [(b7, NO { NoteM.zero with Kind := kd }), (b25, .stringIter ⟨(codes T).toArray⟩ 0), (b4, NO NoteM.zero)]) (List.Perm.swap _ _ _) ?_
    refine WS.loop (fun m f h' L => h11.le h' ∧ ∃ (k : Nat) (n : NoteM) (u : NoteP), m = T.length - k ∧ k ≤ T.length ∧ NR h' n u ∧ setAll { NoteP.zero with Kind := kd } T l = setAll u (T.drop k) (l.drop k) ∧ L = [(b7, NO n), (b25, .stringIter ⟨(codes T).toArray⟩ k), (b4, NO NoteM.zero)] ∧ f 1 = lv ∧ f 4 = ptr b4 0 ∧ f 7 = ptr b7 0 ∧ f 25 = ptr b25 0) (T.length) ?_ ?_
    · exact ⟨PH.le_refl _, 0, { NoteM.zero with Kind := kd }, { NoteP.zero with Kind := kd }, rfl, by omega, ⟨rfl, rfl, rfl, rfl, rfl, Bs.nil _, Bs.nil _, Bs.nil _⟩, rfl, rfl, rfl, rfl, rfl, rfl⟩
    · rintro m f h9 _ _ ⟨le9, k, n, u, rfl, hk, hn, hset, rfl, f1, f4, f7, f25⟩
      obtain ⟨g, rfl⟩ : ∃ g, f = upd (upd (upd (upd g 1 lv) 4 (ptr b4 0)) 7 (ptr b7 0)) 25 (ptr b25 0) := ⟨f, by rw [upd_id f1, upd_id f4, upd_id f7, upd_id f25]⟩
      clear f1 f4 f7 f25
      replace hsl := Sl.mono (L := []) le9 hsl
      refine WS.seq fun K9 hK9 => ?_
      refine WS.region_lit ?_
      -- @@ op: t26 := next t25 true : T0   info {25: None}
      by_cases hk2 : k < T.length
      ·
        refine WO.chn rfl (Chn.nextLt EVx hk2 (.tail .head) ?_)
        refine WO.yld (Yld.ext0 EVx) ?_
        refine WO.nil ?_
        refine hK9 _ _ _ ?_
        clear hK9
        refine WS.seq fun K10 hK10 => ?_
        -- @@ cond t27
        refine WS.cond (t := true) EVx (fun _ => ?_) (fun c => by cases c)
        refine WS.skip ?_
        refine hK10 _ _ _ ?_
        clear hK10
        refine WS.blk fun X11 hX11 hY11 => ?_
        refine WS.seq fun K12 hK12 => ?_
        refine WS.region_lit ?_
        refine WO.yld (Yld.ext1 EVx) ?_
        refine WO.yld (Yld.ext2 EVx) ?_
        refine WO.yld (Yld.assign EVx) ?_
        refine WO.yld (Yld.assign EVx) ?_
        refine WO.nil ?_
        refine hK12 _ _ _ ?_
        clear hK12
        refine WS.seq fun K13 hK13 => ?_
        refine WS.draw [] [(0, 2), (3, 2), (4, 2), (5, 2), (6, 1), (1, 0), (2, 2), (7, 0), (8, 2)] [] (by kernel_rfl) (by kernel_rfl) (by decide) (fun _ hm => (by cases hm)) ?_
        refine WPl.wl rfl (Yld.move EVx) ?_
        refine WPl.wl rfl (Yld.move EVx) ?_
        refine WPl.wl rfl (Yld.move EVx) ?_
        refine WPl.wl rfl (Sl.indexN hsl EVx EVx (by first | omega | decide | simp)) ?_
        refine WPl.rd rfl (Sl.loadSV hsl EVx (by first | omega | decide | simp)) ?_
        -- @@ op: t31 := CALL F153[t30] ty[21] : T258   info {30: None}
        refine WPl.cZ rfl (Chn.callZ (evo_func _ _) (AC EVx AN) (parted_ok _ _)) ⟨PH.le_refl _, fun _ hm => (by cases hm)⟩ ?_
        rintro _ h31 le31 ⟨g31, s31, rfl, hg, hst⟩
        have hsl_1 := Sl.mono (L := []) le31 hsl
        have hn_1 := hn.mono le31
        refine WPl.wl rfl (Yld.fld1 EVx) ?_
        -- @@ op: t37 := CALL t32[t7, t36] ty[260, 22] : T4   info {32: None, 7: {'k': 'own', 'b': 'b7', 'o': '0'}, 36: None}
        have hkl : k < l.length := by omega
        have hv36 : Bs h31 (ss.getD k SV.nil).v (l.getD k []) := (hel k hkl).mono (PH.le_trans (PH.le_trans le11 le9) le31)
        have hb36 : (l.getD k []).length < 1000000000000 := hs _ (by rw [show l.getD k [] = l[k] by simp [List.getD, hkl]]; exact List.getElem_mem _)
        refine WPl.chn rfl (Chn.callF EVx (AC EVx (AC EVx AN)) (hst _ (PH.le_refl _) b7 n u _ _ hn_1 hv36 hb36) rfl ?_)
        rintro _ h37 L37 le37 ⟨n', rfl, rfl, hn'⟩
        refine ⟨.inr ⟨PH.le_trans (le31) le37, fun _ hm => (by cases hm)⟩, ?_⟩
        have hsl_2 := Sl.mono (L := []) le37 hsl_1
        have hn_2 := hn_1.mono le37
        refine WPl.wl rfl (Yld.not EVx) ?_
        refine WPl.nil ?_
        refine hK13 _ _ _ ?_
        clear hK13
        -- @@ cond t38
        have hst2 := hset
        rw [setAll_step u T l k hk2 hkl] at hst2
        refine WS.cond EVx (fun c3 => ?_) (fun c3 => ?_)
        ·
          refine WS.seq fun K14 hK14 => ?_
          refine WS.region_lit ?_
          refine WO.yld (Yld.build Fills.nil) ?_
          refine WO.chn rfl (Chn.st EVx EVx (Put.tail (Put.tail Put.head)) ?_)
          refine WO.yld (Yld.assign (evo_const _ _)) ?_
          refine WO.nil ?_
          refine hK14 _ _ _ ?_
          clear hK14
          refine WS.ret ?_
          refine FnEnd.mk0 (RV.two (RO.cellNE EVx (Cells.of (n := 38) (At.tail (At.tail At.head))) Len.eq) (RO.tmpE EVx)) ?_
          -- @@ fin
          rw [if_neg (by intro h; rw [h] at c3; cases c3)] at hst2
          rw [hm, hst2]
          exact ⟨rfl, NoteM.zero, rfl, NR.zero _⟩
        ·
          refine WS.skip ?_
          -- @@ loopend
          rw [if_pos (by simpa using c3)] at hst2
          exact ⟨_, by omega, PH.le_trans le9 (PH.le_trans le31 le37), k + 1, n', _, rfl, by omega, hn', hst2, rfl, rfl, rfl, rfl, rfl⟩
      ·
        obtain rfl : k = T.length := by omega
        refine WO.yld (Yld.nextEnd EVx (by rw [sz_codes]; exact Nat.le_refl _) (At.tail At.head)) ?_
        refine WO.yld (Yld.ext0 EVx) ?_
        refine WO.nil ?_
        refine hK9 _ _ _ ?_
        clear hK9
        refine WS.seq fun K10 hK10 => ?_
        -- @@ cond t27
        refine WS.cond (t := false) EVx (fun c => by cases c) (fun _ => ?_)
        refine WS.exit (hX8 _ _ _ ?_)
        refine hK6 _ _ _ ?_
        clear hK6
        refine WS.seq fun K11 hK11 => ?_
        refine WS.region_lit ?_
        refine WO.yld (Yld.ldN EVx At.head) ?_
        refine WO.chn rfl (Chn.st EVx EVx (Put.tail (Put.tail Put.head)) ?_)
        refine WO.yld (Yld.assign (evo_const _ _)) ?_
        refine WO.nil ?_
        refine hK11 _ _ _ ?_
        clear hK11
        refine WS.ret ?_
        refine FnEnd.mk0 (RV.two (RO.cellNE EVx (Cells.of (n := 38) (At.tail (At.tail At.head))) Len.eq) (RO.tmpE EVx)) ?_
        -- @@ fin
        refine ⟨rfl, n, ?_, ?_⟩
        · rw [hm, hset, List.drop_length, setAll_nil]; rfl
        · rw [hm, hset, List.drop_length, setAll_nil]; exact hn
end Go.Proofs
