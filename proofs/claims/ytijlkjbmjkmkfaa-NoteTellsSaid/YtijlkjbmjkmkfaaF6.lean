/- field: words, names. Conditions: what is handed over can be read, and is short. -/
import Derived.Test.YtijlkjbmjkmkfaaF5
import Derived.Test.YtijlkjbmjkmkfaaS2
namespace Go.Proofs
open Go Go.Bz

instance : TEq Try.prog 33 := ⟨by kernel_rfl⟩
def WordR (l : List UInt8) : Value := if h : l.length = 16 then .tuple #[(AB.of (n := 16) l h).v, .int .i64 0] else .tuple #[(AB.zero 16).v, .int .i64 3]
theorem word_ok (h : PH) (v : Value) (l : List UInt8) (hv : Bs h v l) (hl : l.length < 1000000000000) :
    Ct Try.prog 99 #[v] h [] (fun v' _ L' => L' = [] ∧ v' = WordR l) := by
  refine Ct.enter (n := 11) (rs := #[.cell 2 33, .tmp 3]) Try.func99 rfl rfl rfl (by simp) ?_
  intro E hE
  rw [fr1]
  refine WS.seq fun K1 hK1 => ?_
  refine WS.region_lit ?_
  refine WO.chn rfl (Chn.alloc fun b2 => ?_)
  refine WO.yld (Yld.assign (evo_const _ _)) ?_
  refine WO.nil ?_
  refine hK1 _ _ _ ?_
  clear hK1
  refine WS.seq fun K2 hK2 => ?_
  refine WS.seq fun K3 hK3 => ?_
  refine WS.region_lit ?_
  refine WO.yld (Yld.move EVx) ?_
  refine WO.yld (Sl.lenS hv EVx) ?_
  refine WO.yld (Yld.neqI EVx (evo_const _ _)) ?_
  refine WO.nil ?_
  refine hK3 _ _ _ ?_
  clear hK3
  -- @@ cond t6
  refine WS.cond EVx (fun c1 => ?_) (fun c1 => ?_)
  ·
    have c1 : ¬ l.length = 16 := by simp at c1; omega
    refine WS.seq fun K4 hK4 => ?_
    refine WS.region_lit ?_
    refine WO.yld (Yld.buildA Fills.nil) ?_
    refine WO.chn rfl (Chn.st EVx EVx Put.head ?_)
    refine WO.yld (Yld.assign (evo_const _ _)) ?_
    refine WO.nil ?_
    refine hK4 _ _ _ ?_
    clear hK4
    refine WS.ret ?_
    refine FnEnd.mk0 (RV.two (RO.cellNE EVx (Cells.of (n := 16) At.head) Len.eq) (RO.tmpE EVx)) ?_
    -- @@ fin
    exact ⟨rfl, by rw [WordR, dif_neg c1]; rfl⟩
  ·
    have c1 : l.length = 16 := by simp at c1; omega
    refine WS.skip ?_
    refine hK2 _ _ _ ?_
    clear hK2
    refine WS.seq fun K4 hK4 => ?_
    refine WS.region_lit ?_
    refine WO.yld (Yld.move EVx) ?_
    refine WO.yld (Sl.arrPtr hv EVx (by decide) (by omega)) ?_
    -- @@ op: t10 := load 33 t9 : T33   info {9: {'k': 'elp', 'f': 'hv', 'bs': True, 'arr': True}}
    refine WO.yld (Sl.loadN (us := AB.cells (AB.of (n := 16) l c1)) (Bs.up hv) EVx (by rw [bc_len]; omega) (by decide) (by rw [List.drop_zero, List.take_of_length_le (by rw [bc_len]; omega)]; rfl)) ?_
    refine WO.chn rfl (Chn.st EVx EVx Put.head ?_)
    refine WO.yld (Yld.assign (evo_const _ _)) ?_
    refine WO.nil ?_
    refine hK4 _ _ _ ?_
    clear hK4
    refine WS.ret ?_
    refine FnEnd.mk0 (RV.two (RO.cellNE EVx (Cells.of (n := 16) At.head) Len.eq) (RO.tmpE EVx)) ?_
    -- @@ fin
    exact ⟨rfl, by rw [WordR, dif_pos c1]; rfl⟩

theorem name_ok (h : PH) (s : ByteArray) (hl : s.size < 1000000000000) :
    Ct Try.prog 100 #[.string s] h [] (fun v' _ L' => L' = [] ∧ v' = .bool (nameOk s.data.toList)) := by
  have hsl : s.data.toList.length = s.size := by simp
  refine Ct.enter (n := 34) (rs := #[.tmp 2]) Try.func100 rfl rfl rfl (by simp) ?_
  intro E hE
  rw [fr1]
  refine WS.seq fun K1 hK1 => ?_
  refine WS.region_lit ?_
  refine WO.yld (Yld.assign (evo_const _ _)) ?_
  refine WO.nil ?_
  refine hK1 _ _ _ ?_
  clear hK1
  refine WS.seq fun K2 hK2 => ?_
  refine WS.seq fun K3 hK3 => ?_
  refine WS.region_lit ?_
  refine WO.yld (Yld.move EVx) ?_
  -- @@ op: t6 := convert 9 22 t5 : T22   info {5: None}
  refine WO.chn rfl (Chn.toBytes EVx (by omega) fun vb h1 le1 hb => ?_)
  refine WO.yld (Sl.lenS hb EVx) ?_
  refine WO.yld (Yld.move (evo_const _ _)) ?_
  refine WO.nil ?_
  refine hK3 _ _ _ ?_
  clear hK3
  refine WS.blk fun X4 hX4 hY4 => ?_
  -- @@ loop
  refine WS.loop (fun m f h' L => h' = h1 ∧ ∃ k : Nat, k ≤ s.size ∧ m = s.size - k ∧ (s.data.toList.take k).all nameCh = true ∧ f 0 = .string s ∧ f 6 = vb ∧ f 7 = .int .i64 s.size ∧ f 8 = .int .i64 k) (s.size) ?_ ?_
  · refine ⟨rfl, 0, by omega, by omega, rfl, rfl, rfl, ?_, rfl⟩
    show Value.int .i64 (s.data.toList.length : Int) = _
    rw [hsl]
  · rintro m f h L _ ⟨rfl, k, hk, rfl, hall, f0, f6, f7, f8⟩
    obtain ⟨g, rfl⟩ : ∃ g, f = upd (upd (upd (upd g 0 (.string s)) 6 vb) 7 (.int .i64 s.size)) 8 (.int .i64 k) := ⟨f, by rw [upd_id f0, upd_id f6, upd_id f7, upd_id f8]⟩
    clear f0 f6 f7 f8
    refine WS.seq fun K5 hK5 => ?_
    refine WS.region_lit ?_
    refine WO.yld (Yld.lss EVx EVx) ?_
    refine WO.nil ?_
    refine hK5 _ _ _ ?_
    clear hK5
    refine WS.seq fun K6 hK6 => ?_
    -- @@ cond t9
    refine WS.cond EVx (fun c1 => ?_) (fun c1 => ?_)
    ·
      have c1 : k < s.size := by simpa using c1
      refine WS.skip ?_
      refine hK6 _ _ _ ?_
      clear hK6
      refine WS.seq fun K7 hK7 => ?_
      refine WS.blk fun X8 hX8 hY8 => ?_
      refine WS.seq fun K9 hK9 => ?_
      refine WS.region_lit ?_
      refine WO.yld (Sl.indexN hb EVx EVx (by first | omega | decide | simp)) ?_
      refine WO.yld (Bs.load hb EVx (by first | omega | decide | simp)) ?_
      refine WO.yld (Yld.assign EVx) ?_
      refine WO.nil ?_
      refine hK9 _ _ _ ?_
      clear hK9
      refine WS.seq fun K10 hK10 => ?_
      refine WS.region_lit ?_
      refine WO.yld (Yld.move EVx) ?_
      refine WO.yld (Yld.lss EVx (evo_const _ _)) ?_
      refine WO.yld (Yld.move EVx) ?_
      refine WO.gyF0 rfl EVx (fun hp => Yld.move EVx) ?_
      refine WO.gyF0 rfl EVx (fun hp => Yld.gtr (EVc hp EVx) (evo_const _ _)) ?_
      refine WO.yld (Yld.pickOr' EVx (evo_const _ _) (fun h => (EVc (nf h) EVx))) ?_
      refine WO.yld (Yld.move EVx) ?_
      refine WO.gyT0 rfl EVx (fun hp => Yld.move EVx) ?_
      refine WO.gyT0 rfl EVx (fun hp => Yld.lss (EVc hp EVx) (evo_const _ _)) ?_
      refine WO.gyT0 rfl EVx (fun hp => Yld.move (EVc hp EVx)) ?_
      refine WO.gyF rfl EVx (fun hp => Yld.move EVx) ?_
      refine WO.gyF rfl EVx (fun hp => Yld.gtr (EVc hp EVx) (evo_const _ _)) ?_
      refine WO.gyT0 rfl EVx (fun hp => Yld.pickOr' (EVc hp EVx) (evo_const _ _) (fun h => (EVc (ai hp (nf h)) EVx))) ?_
      refine WO.yld (Yld.pickAnd' EVx (fun h => (EVc h EVx)) (evo_const _ _)) ?_
      refine WO.nil ?_
      refine hK10 _ _ _ ?_
      clear hK10
      -- @@ cond t25
      generalize hc : s.data.toList.getD k 0 = c
      have hchar : nameCh c = false → nameOk s.data.toList = false := by
        intro h
        have : s.data.toList.all nameCh = false := by
          rw [List.all_eq_false]
          exact ⟨c, by rw [← hc, getD_lt (by omega)]; exact List.getElem_mem _, by simp [h]⟩
        rw [nameOk, this]; rfl
      cases hn : nameCh c with
      | false =>
        refine WS.cond (t := true) (EVb EVx ((by simp [nameCh] at hn ⊢; omega))) (fun _ => ?_) (fun c => by cases c)
        refine WS.seq fun K11 hK11 => ?_
        refine WS.region_lit ?_
        refine WO.yld (Yld.assign (evo_const _ _)) ?_
        refine WO.nil ?_
        refine hK11 _ _ _ ?_
        clear hK11
        refine WS.ret ?_
        refine FnEnd.mk0 (RV.one (RO.tmpE EVx)) ?_
        -- @@ fin
        exact ⟨rfl, by rw [hchar hn]⟩
      | true =>
        refine WS.cond (t := false) (EVb EVx ((by simp [nameCh] at hn ⊢; omega))) (fun c => by cases c) (fun _ => ?_)
        refine WS.skip ?_
        refine hK7 _ _ _ ?_
        clear hK7
        refine WS.region_lit ?_
        refine WO.yld (Yld.add EVx (evo_const _ _)) ?_
        refine WO.yld (Yld.move EVx) ?_
        refine WO.nil ?_
        -- @@ loopend
        refine ⟨_, ?_, rfl, k + 1, by omega, rfl, ?_, rfl, rfl, rfl, ?_⟩
        · omega
        · rw [take_succ_getD (by omega), List.all_append, hall, hc]
          simp [hn]
        · show Value.int .i64 (IntKind.i64.wrap (k + 1)) = _
          rw [wrap_i64 (by omega) (by omega)]; rfl
    ·
      have c1 : k = s.size := by simp at c1; omega
      subst c1
      rw [← hsl, List.take_length] at hall
      refine WS.exit (hX4 _ _ _ ?_)
      refine hK2 _ _ _ ?_
      clear hK2
      refine WS.seq fun K7 hK7 => ?_
      refine WS.region_lit ?_
      refine WO.yld (Yld.move EVx) ?_
      refine WO.yld (Yld.neqStr EVx (evo_const _ _)) ?_
      refine WO.yld (Yld.move EVx) ?_
      refine WO.gyT0 rfl EVx (fun hp => Yld.move EVx) ?_
      refine WO.gyT0 rfl EVx (fun hp => Yld.lenStr (EVc hp EVx)) ?_
      refine WO.gyT0 rfl EVx (fun hp => Yld.leq (EVc hp EVx) (evo_const _ _)) ?_
      refine WO.yld (Yld.pickAnd' EVx (fun h => (EVc h EVx)) (evo_const _ _)) ?_
      refine WO.yld (Yld.assign EVx) ?_
      refine WO.nil ?_
      refine hK7 _ _ _ ?_
      clear hK7
      refine WS.ret ?_
      refine FnEnd.mk0 (RV.one (RO.tmpE EVx)) ?_
      -- @@ fin
      refine ⟨rfl, ?_⟩
      rw [nameOk, hall, hsl]
      have h1 : s.data.toList.isEmpty = decide (s = ⟨#[]⟩) := by
        rw [Bool.eq_iff_iff, List.isEmpty_iff, decide_eq_true_iff]
        exact ⟨fun e => by cases s; simp at e; subst e; rfl, fun e => by subst e; rfl⟩
      rw [h1, Bool.true_and]
      congr 2
      exact decide_eq_decide.2 (by omega)
end Go.Proofs
