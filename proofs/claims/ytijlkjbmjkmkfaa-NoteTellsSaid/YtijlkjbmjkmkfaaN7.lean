/- Notes: whether one may be; it as bytes, and that of some. Conditions: what is handed over can be read, and is short. -/
import Derived.Test.YtijlkjbmjkmkfaaN6
namespace Go.Proofs
open Go Go.Bz

def idxI (p : List UInt8 → Bool) (ll : List (List UInt8)) : Int := match ll.findIdx? p with | some i => i | none => -1
theorem idxI_step (p : List UInt8 → Bool) (ll : List (List UInt8)) (k : Nat) (hk : k < ll.length) (h : ∀ i, i < k → p (ll.getD i []) = false) (e : p (ll.getD k []) = true) : idxI p ll = k := by
  have : ll.findIdx? p = some k := by
    rw [List.findIdx?_eq_some_iff_getElem]
    refine ⟨hk, by rw [show ll.getD k [] = ll[k] by simp [List.getD, hk]] at e; exact e, fun j hj => ?_⟩
    have := h j hj
    rw [show ll.getD j [] = ll[j] by simp [List.getD, (by omega : j < ll.length)]] at this
    simp [this]
  unfold idxI; rw [this]
theorem idxI_none (p : List UInt8 → Bool) (ll : List (List UInt8)) (h : ∀ i, i < ll.length → p (ll.getD i []) = false) : idxI p ll = -1 := by
  have : ll.findIdx? p = none := by
    rw [List.findIdx?_eq_none_iff]
    intro x hx
    obtain ⟨i, hi, rfl⟩ := List.getElem_of_mem hx
    have := h i hi
    rwa [show ll.getD i [] = ll[i] by simp [List.getD, hi]] at this
  unfold idxI; rw [this]
theorem idxI_any (p : List UInt8 → Bool) (ll : List (List UInt8)) : decide (0 ≤ idxI p ll) = ll.any p := by
  unfold idxI
  cases e : ll.findIdx? p with
  | none =>
    rw [List.findIdx?_eq_none_iff] at e
    have : ll.any p = false := by rw [List.any_eq_false]; intro x hx; simp [e x hx]
    rw [this]; rfl
  | some i =>
    have : ll.any p = true := by
      rw [List.findIdx?_eq_some_iff_getElem] at e
      obtain ⟨hi, hp, _⟩ := e
      exact List.any_eq_true.2 ⟨_, List.getElem_mem hi, hp⟩
    rw [this]; simp
def PredOk (h : PH) (fv : Value) (p : List UInt8 → Bool) : Prop := ∀ h', h.le h' → ∀ v l, Bs h' v l → FCt Try.prog fv [v] h' [] (Pu (.bool (p l)))
theorem indexFunc_ok (h : PH) (v fv : Value) (ll : List (List UInt8)) (p : List UInt8 → Bool) (hv : Rs h v ll) (hf : PredOk h fv p) (hl : ll.length < 1000000000000) :
    Ct Try.prog 154 #[v, fv] h [] (Pu (.int .i64 (idxI p ll))) := by
  obtain ⟨ss, hss, hsl, hel⟩ := hv
  refine Ct.enter (n := 19) (rs := #[.tmp 4]) Try.func154 rfl rfl rfl (by simp) ?_
  intro E hE
  rw [fr2]
  refine WS.seq fun K1 hK1 => ?_
  refine WS.region_lit ?_
  refine WO.yld (Yld.assign (evo_const _ _)) ?_
  refine WO.nil ?_
  refine hK1 _ _ _ ?_
  clear hK1
  refine WS.seq fun K2 hK2 => ?_
  refine WS.seq fun K3 hK3 => ?_
  refine WS.region_lit ?_
  refine WO.yld (Yld.move EVx) ?_
  refine WO.yld (Sl.lenS hsl EVx) ?_
  refine WO.yld (Yld.move (evo_const _ _)) ?_
  refine WO.nil ?_
  refine hK3 _ _ _ ?_
  clear hK3
  refine WS.blk fun X4 hX4 hY4 => ?_
  -- @@ loop
  refine WS.loop (fun m f h' L => h.le h' ∧ L = [] ∧ ∃ k : Nat, m = ll.length - k ∧ k ≤ ll.length ∧ (∀ i, i < k → p (ll.getD i []) = false) ∧ f 0 = v ∧ f 1 = fv ∧ f 7 = .int .i64 ll.length ∧ f 8 = .int .i64 k) (ll.length) ?_ ?_
  · exact ⟨PH.le_refl _, rfl, 0, by omega, by omega, fun i hi => by omega, rfl, rfl, rfl, rfl⟩
  · rintro m f h9 _ _ ⟨le9, rfl, k, rfl, hk, hall, f0, f1, f7, f8⟩
    obtain ⟨g, rfl⟩ : ∃ g, f = upd (upd (upd (upd g 0 v) 1 fv) 7 (.int .i64 ll.length)) 8 (.int .i64 k) := ⟨f, by rw [upd_id f0, upd_id f1, upd_id f7, upd_id f8]⟩
    clear f0 f1 f7 f8
    replace hsl := Sl.mono (L := []) le9 hsl
    refine WS.seq fun K5 hK5 => ?_
    refine WS.region_lit ?_
    refine WO.yld (Yld.lss EVx EVx) ?_
    refine WO.nil ?_
    refine hK5 _ _ _ ?_
    clear hK5
    refine WS.seq fun K6 hK6 => ?_
    -- @@ cond t9
    refine WS.cond EVx (fun c1 => ?_) (fun c1 => ?_)
    ·
      have hk2 : k < ll.length := by simp at c1; omega
      refine WS.skip ?_
      refine hK6 _ _ _ ?_
      clear hK6
      refine WS.seq fun K7 hK7 => ?_
      refine WS.blk fun X8 hX8 hY8 => ?_
      refine WS.seq fun K9 hK9 => ?_
      refine WS.region_lit ?_
      refine WO.yld (Yld.move EVx) ?_
      refine WO.yld (Yld.assign EVx) ?_
      refine WO.nil ?_
      refine hK9 _ _ _ ?_
      clear hK9
      refine WS.seq fun K10 hK10 => ?_
      refine WS.region_lit ?_
      refine WO.yld (Yld.move EVx) ?_
      refine WO.yld (Yld.move EVx) ?_
      refine WO.yld (Yld.move EVx) ?_
      refine WO.yld (Sl.indexN hsl EVx EVx (by first | omega | decide | simp)) ?_
      refine WO.yld (Sl.loadSV hsl EVx (by first | omega | decide | simp)) ?_
      refine WO.cZ rfl (Chn.callFZ EVx (AC EVx AN) ((hf _ le9 _ _ ((hel k hk2).mono le9)).pz)) ?_
      rintro _ h16 le16 rfl
      replace hsl := Sl.mono (L := []) le16 hsl
      refine WO.nil ?_
      refine hK10 _ _ _ ?_
      clear hK10
      -- @@ cond t16
      refine WS.cond EVx (fun c2 => ?_) (fun c2 => ?_)
      ·
        refine WS.seq fun K11 hK11 => ?_
        refine WS.region_lit ?_
        refine WO.yld (Yld.move EVx) ?_
        refine WO.yld (Yld.assign EVx) ?_
        refine WO.nil ?_
        refine hK11 _ _ _ ?_
        clear hK11
        refine WS.ret ?_
        refine FnEnd.mk0 (RV.one (RO.tmpE EVx)) ?_
        -- @@ fin
        rw [idxI_step p ll k hk2 hall c2]; exact ⟨rfl, rfl⟩
      ·
        refine WS.skip ?_
        refine hK7 _ _ _ ?_
        clear hK7
        refine WS.region_lit ?_
        refine WO.yld (Yld.add EVx (evo_const _ _)) ?_
        refine WO.yld (Yld.move EVx) ?_
        refine WO.nil ?_
        -- @@ loopend
        refine ⟨_, ?_, PH.le_trans le9 le16, rfl, k + 1, rfl, by omega, fun i hi => ?_, rfl, rfl, rfl, ?_⟩
        · omega
        · by_cases e : i < k
          · exact hall i e
          · obtain rfl : i = k := by omega
            exact c2
        · show Value.int .i64 (IntKind.i64.wrap (k + 1)) = _
          rw [wrap_i64 (by omega) (by omega)]; rfl
    ·
      obtain rfl : k = ll.length := by simp at c1; omega
      refine WS.exit (hX4 _ _ _ ?_)
      refine hK2 _ _ _ ?_
      clear hK2
      refine WS.seq fun K7 hK7 => ?_
      refine WS.region_lit ?_
      refine WO.yld (Yld.assign (evo_const _ _)) ?_
      refine WO.nil ?_
      refine hK7 _ _ _ ?_
      clear hK7
      refine WS.ret ?_
      refine FnEnd.mk0 (RV.one (RO.tmpE EVx)) ?_
      -- @@ fin
      rw [idxI_none p ll hall]; exact ⟨rfl, rfl⟩
theorem containsFunc_ok (h : PH) (v fv : Value) (ll : List (List UInt8)) (p : List UInt8 → Bool) (hv : Rs h v ll) (hf : PredOk h fv p) (hl : ll.length < 1000000000000) :
    Ct Try.prog 108 #[v, fv] h [] (Pu (.bool (ll.any p))) := by
  refine Ct.enter (n := 9) (rs := #[.tmp 4]) Try.func108 rfl rfl rfl (by simp) ?_
  intro E hE
  rw [fr2]
  refine WS.seq fun K1 hK1 => ?_
  refine WS.region_lit ?_
  refine WO.yld (Yld.assign (evo_const _ _)) ?_
  refine WO.nil ?_
  refine hK1 _ _ _ ?_
  clear hK1
  refine WS.seq fun K2 hK2 => ?_
  refine WS.region_lit ?_
  refine WO.yld (Yld.move EVx) ?_
  refine WO.yld (Yld.move EVx) ?_
  refine WO.cZ rfl (Chn.callZ (evo_func _ _) (AC EVx (AC EVx AN)) ((indexFunc_ok _ _ _ ll p hv hf hl).pz)) ?_
  rintro _ h7 le7 rfl
  refine WO.yld (Yld.geq EVx (evo_const _ _)) ?_
  refine WO.yld (Yld.assign EVx) ?_
  refine WO.nil ?_
  refine hK2 _ _ _ ?_
  clear hK2
  refine WS.ret ?_
  refine FnEnd.mk0 (RV.one (RO.tmpE EVx)) ?_
  -- @@ fin
  rw [← idxI_any]; exact ⟨rfl, rfl⟩
theorem big_ok (h : PH) (v : Value) (l : List UInt8) (hv : Bs h v l) : Ct Try.prog 109 #[v] h [] (Pu (.bool (decide (500 < l.length)))) := by
  refine Ct.enter (n := 6) (rs := #[.tmp 2]) Try.func109 rfl rfl rfl (by simp) ?_
  intro E hE
  rw [fr1]
  refine WS.seq fun K1 hK1 => ?_
  refine WS.region_lit ?_
  refine WO.yld (Yld.assign (evo_const _ _)) ?_
  refine WO.nil ?_
  refine hK1 _ _ _ ?_
  clear hK1
  refine WS.seq fun K2 hK2 => ?_
  refine WS.region_lit ?_
  refine WO.yld (Yld.move EVx) ?_
  refine WO.yld (Sl.lenS hv EVx) ?_
  refine WO.yld (Yld.gtr EVx (evo_const _ _)) ?_
  refine WO.yld (Yld.assign EVx) ?_
  refine WO.nil ?_
  refine hK2 _ _ _ ?_
  clear hK2
  refine WS.ret ?_
  refine FnEnd.mk0 (RV.one (RO.tmpE EVx)) ?_
  -- @@ fin
  refine ⟨?_, rfl⟩
  congr 1
  rw [decide_eq_decide]; omega
theorem getL_len {u : NoteP} (hu : u.Fits) : ∀ b ∈ partsN u, b.length < 1000000000000 := by
  intro b hb
  obtain ⟨c, _, rfl⟩ := List.mem_map.1 hb
  cases c
  · have := hu.a; simpa [getL] using this
  · have := hu.b; simpa [getL] using this
  · have := u.X.2; show u.X.1.length < _; omega
  · have := u.Y.2; show u.Y.1.length < _; omega
  · exact hu.p
  · exact hu.q
  · exact hu.r
theorem partsN_len (u : NoteP) : (partsN u).length ≤ 4 := by unfold partsN; rw [List.length_map]; exact hasT_len _
theorem big_pred (h : PH) : PredOk h (.func (.func 109) #[] #[]) (fun l => decide (500 < l.length)) := fun _ _ v l hv => ⟨_, #[], #[], rfl, inferInstance, big_ok _ _ _ hv⟩
theorem right_ok (h : PH) (n : NoteM) (u : NoteP) (hn : NR h n u) (hu : u.Fits) : Ct Try.prog 29 #[n.v] h [] (Pu (.bool (rightN u))) := by
  refine Ct.enter (n := 26) (rs := #[.tmp 2]) Try.func29 rfl rfl rfl (by simp) ?_
  intro E hE
  rw [fr1]
  refine WS.seq fun K1 hK1 => ?_
  refine WS.region_lit ?_
  refine WO.chn rfl (Chn.bx EVx fun b1 => ?_)
  refine WO.yld (Yld.assign (evo_const _ _)) ?_
  refine WO.nil ?_
  refine hK1 _ _ _ ?_
  clear hK1
  refine WS.seq fun K2 hK2 => ?_
  refine WS.region_lit ?_
  refine WO.yld (Yld.ldN EVx At.head) ?_
  refine WO.cZ rfl (Chn.callZ (evo_func _ _) (AC EVx AN) (parts_ok _ _ _ hn hu)) ?_
  rintro _ h7 le7 hl7
  replace hn := hn.mono le7
  refine WO.yld (Yld.assign EVx) ?_
  refine WO.nil ?_
  refine hK2 _ _ _ ?_
  clear hK2
  refine WS.seq fun K3 hK3 => ?_
  refine WS.region_lit ?_
  refine WO.yld (Yld.fieldAddrL (o' := 0) EVx rfl) ?_
  refine WO.yld (Yld.ld1 EVx At.head) ?_
  refine WO.yld (Yld.move EVx) ?_
  -- @@ op: t12 := CALL F105[t10, t11] ty[3, 27] : T185   info {10: None, 11: None}
  have hp7 := getL_len hu
  have hp4 := partsN_len u
  refine WO.cZ rfl (Chn.callZ (evo_func _ _) (AC EVx (AC EVx AN)) (made_ok _ _ _ _ hl7 hp7)) ?_
  rintro _ h12 le12 ⟨nm, rfl, hm⟩
  replace hn := hn.mono le12
  replace hl7 := hl7.mono le12
  refine WO.yld (Yld.move EVx) ?_
  refine WO.yld (Yld.ext0 EVx) ?_
  refine WO.yld (Yld.ext1 EVx) ?_
  refine WO.chn rfl (Chn.alloc fun b4 => ?_)
  refine WO.chn rfl (Chn.st EVx EVx Put.head ?_)
  refine WO.yld (Yld.assign EVx) ?_
  refine WO.nil ?_
  refine hK3 _ _ _ ?_
  clear hK3
  refine WS.seq fun K4 hK4 => ?_
  refine WS.region_lit ?_
  refine WO.yld (Yld.move EVx) ?_
  refine WO.yld (Yld.move EVx) ?_
  refine WO.gyT0 rfl EVx (fun hp => Yld.ldN EVx (At.tail At.head)) ?_
  refine WO.gyT0 rfl EVx (fun hp => Yld.ldN EVx At.head) ?_
  -- @@ op: t19 := CALL F31[t17, t18] ty[35, 35] : T4   [guard some (1, true)]   path (((14, 1), True),)   info {17: None, 18: None}
  refine WO.gpT0 rfl EVx (fun hp => Chn.callZ (evo_func _ _) (AC (EVc hp EVx) (AC (EVc hp EVx) AN)) ((nsame_ok _ n nm u _ hn hm hu).pz)) fun h19 le19 => ?_
  replace hn := hn.mono le19
  replace hl7 := hl7.mono le19
  replace hm := hm.mono le19
  refine WO.yld (Yld.pickAnd' EVx (fun h => (EVc h EVx)) (evo_const _ _)) ?_
  refine WO.yld (Yld.move EVx) ?_
  refine WO.gyT0 rfl EVx (fun hp => Yld.move EVx) ?_
  refine WO.gpT0 rfl EVx (fun hp => Chn.callZ (evo_func _ _) (AC (EVc hp EVx) (AC (evo_func _ _) AN)) ((containsFunc_ok _ _ _ (partsN u) _ hl7 (big_pred _) (by omega)).pz)) fun h23 le23 => ?_
  replace hn := hn.mono le23
  replace hl7 := hl7.mono le23
  replace hm := hm.mono le23
  refine WO.gyT0 rfl EVx (fun hp => Yld.not (EVc hp EVx)) ?_
  refine WO.yld (Yld.pickAnd' EVx (fun h => (EVc h EVx)) (evo_const _ _)) ?_
  refine WO.yld (Yld.assign EVx) ?_
  refine WO.nil ?_
  refine hK4 _ _ _ ?_
  clear hK4
  refine WS.ret ?_
  refine FnEnd.mk0 (RV.one (RO.tmpE EVx)) ?_
  -- @@ fin
  refine ⟨?_, rfl⟩
  congr 1
  rw [hn.k]
  unfold rightN bigN
  cases madeN u.Kind (partsN u) <;> rfl
theorem putN_eq {u : NoteP} (hr : rightN u = true) : (∀ p ∈ partsN u, p.length ≤ 500) ∧ fput (partsN u) = some (encs (partsN u)) := by
  have h1 : ∀ p ∈ partsN u, p.length ≤ 500 := by
    unfold rightN at hr
    cases e : madeN u.Kind (partsN u) with
    | none => rw [e] at hr; cases hr
    | some m =>
      rw [e] at hr
      simp only [Bool.and_eq_true, Bool.not_eq_true', bigN, List.any_eq_false, decide_eq_true_eq] at hr
      intro p hp; have := hr.2 p hp; omega
  refine ⟨h1, ?_⟩
  unfold fput
  rw [if_pos ⟨by have := partsN_len u; omega, h1⟩]
theorem nput_ok (h : PH) (n : NoteM) (u : NoteP) (hn : NR h n u) (hu : u.Fits) : Ct Try.prog 24 #[n.v] h [] (Fz (PutR (putN u) 3)) := by
  refine Ct.enter (n := 23) (rs := #[.tmp 2, .tmp 3]) Try.func24 rfl rfl rfl (by simp) ?_
  intro E hE
  rw [fr1]
  refine WS.seq fun K1 hK1 => ?_
  refine WS.region_lit ?_
  refine WO.chn rfl (Chn.bx EVx fun b1 => ?_)
  refine WO.yld (Yld.assign (evo_const _ _)) ?_
  refine WO.yld (Yld.assign (evo_const _ _)) ?_
  refine WO.nil ?_
  refine hK1 _ _ _ ?_
  clear hK1
  refine WS.seq fun K2 hK2 => ?_
  refine WS.seq fun K3 hK3 => ?_
  refine WS.region_lit ?_
  refine WO.yld (Yld.ldN EVx At.head) ?_
  refine WO.cZ rfl (Chn.callZ (evo_func _ _) (AC EVx AN) ((right_ok _ n u hn hu).pz)) ?_
  rintro _ h7 le7 rfl
  replace hn := hn.mono le7
  refine WO.yld (Yld.not EVx) ?_
  refine WO.nil ?_
  refine hK3 _ _ _ ?_
  clear hK3
  -- @@ cond t8
  refine WS.cond EVx (fun c1 => ?_) (fun c1 => ?_)
  ·
    refine WS.seq fun K4 hK4 => ?_
    refine WS.region_lit ?_
    refine WO.yld (Yld.assign (evo_const _ _)) ?_
    refine WO.yld (Yld.assign (evo_const _ _)) ?_
    refine WO.nil ?_
    refine hK4 _ _ _ ?_
    clear hK4
    refine WS.ret ?_
    refine FnEnd.mk0 (RV.two (RO.tmpE EVx) (RO.tmpE EVx)) ?_
    -- @@ fin
    have : putN u = none := by unfold putN; rw [if_neg (by simpa using c1)]
    rw [this]; exact ⟨rfl, PutR.none⟩
  ·
    have c1 : rightN u = true := by simpa using c1
    obtain ⟨hp5, hpe⟩ := putN_eq c1
    refine WS.skip ?_
    refine hK2 _ _ _ ?_
    clear hK2
    refine WS.seq fun K4 hK4 => ?_
    refine WS.region_lit ?_
    refine WO.yld (Yld.ldN EVx At.head) ?_
    refine WO.cZ rfl (Chn.callZ (evo_func _ _) (AC EVx AN) (parts_ok _ n _ hn hu)) ?_
    rintro _ h11 le11 hl11
    replace hn := hn.mono le11
    refine WO.cZ rfl (Chn.callZ (evo_func _ _) (AC EVx AN) (put_z _ _ _ hl11)) ?_
    rintro _ h12 le12 ⟨s12, rfl, hb12⟩
    replace hn := hn.mono le12
    refine WO.yld (Yld.move EVx) ?_
    refine WO.yld (Yld.ext0 EVx) ?_
    refine WO.yld (Yld.ext1 EVx) ?_
    refine WO.yld (Yld.assign EVx) ?_
    refine WO.yld (Yld.assign EVx) ?_
    refine WO.nil ?_
    refine hK4 _ _ _ ?_
    clear hK4
    refine WS.seq fun K5 hK5 => ?_
    refine WS.seq fun K6 hK6 => ?_
    refine WS.region_lit ?_
    refine WO.yld (Yld.move EVx) ?_
    refine WO.yld (Yld.neqI EVx (evo_const _ _)) ?_
    refine WO.nil ?_
    refine hK6 _ _ _ ?_
    clear hK6
    -- @@ cond t16
    rw [hpe] at hb12
    have hen := encs_len (partsN u) hp5
    have hp4 := partsN_len u
    simp only [Option.getD_some] at hb12
    rw [hpe]
    refine WS.cond (t := false) EVx (fun c => by cases c) (fun _ => ?_)
    refine WS.skip ?_
    refine hK5 _ _ _ ?_
    clear hK5
    refine WS.seq fun K7 hK7 => ?_
    refine WS.region_lit ?_
    refine WO.yld (Yld.fieldAddrL (o' := 0) EVx rfl) ?_
    refine WO.yld (Yld.ld1 EVx At.head) ?_
    refine WO.yld (Yld.conv EVx) ?_
    -- @@ op: t20 := buildSlice 22 1 [(0, t19)] : T22   info {19: None}
    refine WO.chn rfl (Chn.buildAcc (sz := 1) (Parts.cons (v := .int .u8 ((Bz.byteOf u.Kind).toNat : Int)) (Eq.trans EVx (by rw [u8_wrap, hn.k])) Parts.nil) rfl (by decide) (by decide) fun s20 hn20 ac20 => ?_)
    refine WO.yld (Yld.move EVx) ?_
    -- @@ op: t22 := append[t20, t21] ty[22, 22] : T22   info {20: None, 21: None}
    refine WO.chn rfl (Chn.appendF EVx ac20 rfl EVx hb12.up (bc_ones _) rfl (by decide) (by omega) (by omega) fun s22 h22 le22 hn22 hs22 => ?_)
    refine WO.yld (Yld.assign EVx) ?_
    refine WO.yld (Yld.assign (evo_const _ _)) ?_
    refine WO.nil ?_
    refine hK7 _ _ _ ?_
    clear hK7
    refine WS.ret ?_
    refine FnEnd.mk0 (RV.two (RO.tmpE EVx) (RO.tmpE EVx)) ?_
    -- @@ fin
    have : putN u = some (Bz.byteOf u.Kind :: encs (partsN u)) := by unfold putN; rw [if_pos c1]
    rw [this]
    refine ⟨rfl, s22, rfl, ?_⟩
    rw [hn20] at hs22
    have e : 1 + (encs (partsN u)).length = (Bz.byteOf u.Kind :: encs (partsN u)).length := by simp; omega
    rw [e] at hs22
    exact hs22
theorem fsplit_small : ∀ (b : List UInt8) (k : Nat) (ll : List (List UInt8)), fsplit k b = .ok ll → ∀ p ∈ ll, p.length ≤ 500
  | [], k, ll, h => by simp [fsplit] at h; subst h; simp
  | [_], k, ll, h => by simp [fsplit] at h
  | x :: y :: r, k, ll, h => by
    rw [fsplit] at h
    split at h
    · cases h
    · rename_i h1
      split at h
      · cases h
      · cases e : fsplit (k + 1) (r.drop (num2 x y)) with
        | error z => rw [e] at h; cases h
        | ok l2 =>
          rw [e] at h
          have ih := fsplit_small (r.drop (num2 x y)) (k + 1) l2 e
          have : ll = r.take (num2 x y) :: l2 := by simpa [Except.map] using h.symm
          subst this
          intro p hp
          rcases List.mem_cons.1 hp with rfl | hp
          · simp; omega
          · exact ih p hp
termination_by b => b.length
decreasing_by simp; omega
theorem fsplit_err : ∀ (b : List UInt8) (k : Nat) (x : Int), fsplit k b = .error x → x = 2 ∨ x = 7
  | [], k, x, h => by simp [fsplit] at h
  | [_], k, x, h => by simp [fsplit] at h; omega
  | a :: c :: r, k, x, h => by
    rw [fsplit] at h
    split at h
    · injection h with h; omega
    · split at h
      · injection h with h; omega
      · cases e : fsplit (k + 1) (r.drop (num2 a c)) with
        | error z => rw [e] at h; have := fsplit_err _ (k + 1) z e; injection h with h; omega
        | ok l2 => rw [e] at h; cases h
termination_by b => b.length
decreasing_by simp; omega
theorem splitL_len (r : List UInt8) : ∀ b ∈ splitL (fsplit 0 r), b.length < 1000000000000 := by
  cases e : fsplit 0 r with
  | error x => intro b hb; cases hb
  | ok ll => intro b hb; have := fsplit_small r 0 ll e b hb; omega
def ReadR (o : Option NoteP) (v : Value) (h : PH) : Prop := ∃ n : NoteM, v = .tuple #[n.v, .int .i64 (if o.isSome then 0 else 3)] ∧ NR h n (o.getD NoteP.zero)
theorem readN_cons (k : UInt8) (r : List UInt8) : readN (k :: r) = match fsplit 0 r with | .ok l => madeN k.toNat l | .error _ => none := rfl
theorem nread_ok (h : PH) (v : Value) (l : List UInt8) (hv : Bs h v l) (hl : l.length < 1000000000000) : Ct Try.prog 26 #[v] h [] (Fz (ReadR (readN l))) := by
  refine Ct.enter (n := 35) (rs := #[.cell 2 35, .tmp 3]) Try.func26 rfl rfl rfl (by simp) ?_
  intro E hE
  rw [fr1]
  refine WS.seq fun K1 hK1 => ?_
  refine WS.region_lit ?_
  refine WO.chn rfl (Chn.alloc fun b2 => ?_)
  refine WO.yld (Yld.assign (evo_const _ _)) ?_
  refine WO.nil ?_
  refine hK1 _ _ _ ?_
  clear hK1
  refine WS.seq fun K2 hK2 => ?_
  refine WS.seq fun K3 hK3 => ?_
  refine WS.region_lit ?_
  refine WO.yld (Yld.move EVx) ?_
  refine WO.yld (Sl.lenS hv EVx) ?_
  refine WO.yld (Yld.eqlI EVx (evo_const _ _)) ?_
  refine WO.nil ?_
  refine hK3 _ _ _ ?_
  clear hK3
  -- @@ cond t10
  refine WS.cond EVx (fun c1 => ?_) (fun c1 => ?_)
  ·
    refine WS.seq fun K4 hK4 => ?_
    refine WS.region_lit ?_
    refine WO.yld (Yld.build Fills.nil) ?_
    refine WO.chn rfl (Chn.st EVx EVx Put.head ?_)
    refine WO.yld (Yld.assign (evo_const _ _)) ?_
    refine WO.nil ?_
    refine hK4 _ _ _ ?_
    clear hK4
    refine WS.ret ?_
    refine FnEnd.mk0 (RV.two (RO.cellNE EVx (Cells.of (n := 38) At.head) Len.eq) (RO.tmpE EVx)) ?_
    -- @@ fin
    obtain rfl : l = [] := by simpa using c1
    exact ⟨rfl, NoteM.zero, rfl, NR.zero _⟩
  ·
    obtain ⟨k, r, rfl⟩ : ∃ k r, l = k :: r := by
      cases l with
      | nil => simp at c1
      | cons k r => exact ⟨k, r, rfl⟩
    refine WS.skip ?_
    refine hK2 _ _ _ ?_
    clear hK2
    refine WS.seq fun K4 hK4 => ?_
    refine WS.region_lit ?_
    refine WO.yld (Yld.move EVx) ?_
    -- @@ op: t14 := slice 22 t13 some c1:i64 none none : T22   info {13: {'k': 'sl', 'f': 'hv', 'bs': True, 'el': False}}
    refine WO.yld (Bs.from_ hv 1 EVx (evo_const _ _) rfl (by simp)) ?_
    -- @@ op: t15 := CALL F20[t14] ty[22] : T28   info {14: None}
    have hr := hv.drop 1 (by simp)
    simp only [List.drop_succ_cons, List.drop_zero] at hr
    generalize slcut v 1 (k :: r).length (vcap v) 1 = vr at hr ⊢
    have hlr : r.length < 1000000000000 := by simp at hl; omega
    refine WO.cZ rfl (Chn.callZ (evo_func _ _) (AC EVx AN) (split_z _ _ _ hr hlr)) ?_
    rintro _ h15 le15 ⟨s15, rfl, hs15⟩
    replace hv := hv.mono le15
    replace hr := hr.mono le15
    refine WO.yld (Yld.move EVx) ?_
    refine WO.yld (Yld.ext0 EVx) ?_
    refine WO.yld (Yld.ext1 EVx) ?_
    refine WO.yld (Yld.assign EVx) ?_
    refine WO.yld (Yld.assign EVx) ?_
    refine WO.nil ?_
    refine hK4 _ _ _ ?_
    clear hK4
    refine WS.seq fun K5 hK5 => ?_
    refine WS.region_lit ?_
    refine WO.yld (Yld.move EVx) ?_
    refine WO.yld (Sl.indexL 0 hv EVx rfl rfl (by first | omega | decide | simp)) ?_
    refine WO.yld (Bs.load hv EVx (by first | omega | decide | simp)) ?_
    refine WO.yld (Yld.conv EVx) ?_
    refine WO.yld (Yld.move EVx) ?_
    -- @@ op: t24 := CALL F105[t22, t23] ty[3, 27] : T185   info {22: None, 23: None}
    have hsm : ∀ b ∈ splitL (fsplit 0 r), b.length < 1000000000000 := splitL_len r
    have hkw : IntKind.i64.wrap (((k :: r).getD 0 0).toNat : Int) = ((k.toNat : Nat) : Int) := by
      have := k.toNat_lt
      exact wrap_i64 (by show (-9223372036854775808 : Int) ≤ (k.toNat : Int); omega) (by show (k.toNat : Int) ≤ 9223372036854775807; omega)
    refine WO.cZ rfl (Chn.callZ (evo_func _ _) (AC EVx (AC EVx AN)) (made_ok _ _ _ _ hs15 hsm)) ?_
    rintro _ h24 le24 ⟨nm, rfl, hm⟩
    replace hv := hv.mono le24
    replace hr := hr.mono le24
    replace hs15 := hs15.mono le24
    refine WO.yld (Yld.move EVx) ?_
    refine WO.yld (Yld.ext0 EVx) ?_
    refine WO.yld (Yld.ext1 EVx) ?_
    refine WO.chn rfl (Chn.alloc fun b6 => ?_)
    refine WO.chn rfl (Chn.st EVx EVx Put.head ?_)
    refine WO.yld (Yld.assign EVx) ?_
    refine WO.nil ?_
    refine hK5 _ _ _ ?_
    clear hK5
    refine WS.seq fun K6 hK6 => ?_
    refine WS.seq fun K7 hK7 => ?_
    refine WS.region_lit ?_
    refine WO.yld (Yld.move EVx) ?_
    refine WO.yld (Yld.neqI EVx (evo_const _ _)) ?_
    refine WO.yld (Yld.move EVx) ?_
    refine WO.gyF0 rfl EVx (fun hp => Yld.move EVx) ?_
    refine WO.gyF0 rfl EVx (fun hp => Yld.not (EVc hp EVx)) ?_
    refine WO.yld (Yld.pickOr' EVx (evo_const _ _) (fun h => (EVc (nf h) EVx))) ?_
    refine WO.nil ?_
    refine hK7 _ _ _ ?_
    clear hK7
    -- @@ cond t32
    rw [hkw] at hm ⊢
    refine WS.cond EVx (fun c2 => ?_) (fun c2 => ?_)
    ·
      refine WS.seq fun K8 hK8 => ?_
      refine WS.region_lit ?_
      refine WO.yld (Yld.build Fills.nil) ?_
      refine WO.chn rfl (Chn.st EVx EVx (Put.tail Put.head) ?_)
      refine WO.yld (Yld.assign (evo_const _ _)) ?_
      refine WO.nil ?_
      refine hK8 _ _ _ ?_
      clear hK8
      refine WS.ret ?_
      refine FnEnd.mk0 (RV.two (RO.cellNE EVx (Cells.of (n := 38) (At.tail At.head)) Len.eq) (RO.tmpE EVx)) ?_
      -- @@ fin
      have : readN (k :: r) = none := by
        rw [readN_cons]
        cases e : fsplit 0 r with
        | error x => rfl
        | ok ll =>
          simp only [e, splitE, splitL] at c2 ⊢
          cases e2 : madeN ↑k.toNat ll with
          | none => rfl
          | some m => rw [e2] at c2; simp at c2
      rw [this]; exact ⟨rfl, NoteM.zero, rfl, NR.zero _⟩
    ·
      refine WS.skip ?_
      refine hK6 _ _ _ ?_
      clear hK6
      refine WS.seq fun K8 hK8 => ?_
      refine WS.region_lit ?_
      refine WO.yld (Yld.ldN EVx At.head) ?_
      refine WO.chn rfl (Chn.st EVx EVx (Put.tail Put.head) ?_)
      refine WO.yld (Yld.assign (evo_const _ _)) ?_
      refine WO.nil ?_
      refine hK8 _ _ _ ?_
      clear hK8
      refine WS.ret ?_
      refine FnEnd.mk0 (RV.two (RO.cellNE EVx (Cells.of (n := 38) (At.tail At.head)) Len.eq) (RO.tmpE EVx)) ?_
      -- @@ fin
      have h2 : readN (k :: r) = madeN k.toNat (splitL (fsplit 0 r)) ∧ (madeN k.toNat (splitL (fsplit 0 r))).isSome = true := by
        rw [readN_cons]
        cases e : fsplit 0 r with
        | error x =>
          have := fsplit_err r 0 x e
          simp only [e, splitE] at c2
          simp at c2
          omega
        | ok ll =>
          simp only [e, splitE, splitL] at c2 ⊢
          simpa using c2
      rw [h2.1]
      exact ⟨rfl, nm, by rw [if_pos h2.2]; rfl, hm⟩
end Go.Proofs
