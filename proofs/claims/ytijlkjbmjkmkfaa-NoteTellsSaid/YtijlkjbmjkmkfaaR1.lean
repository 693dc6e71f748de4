/- The reference of layer 9. Conditions: what is handed over can be read, and is short. -/
import Derived.Test.YtijlkjbmjkmkfaaN8
import Derived.Test.YtijlkjbmjkmkfaaB10
namespace Go.Proofs
open Go Go.Bz

theorem rname_pu (h : PH) (s : ByteArray) (hl : s.size < 1000000000000) : Ct Try.prog 84 #[.string s] h [] (Pu (.bool (nameOk s.data.toList))) := by
  have hsl : s.data.toList.length = s.size := by simp
  refine Ct.enter (n := 42) (rs := #[.tmp 2]) Try.func84 rfl rfl rfl (by simp) ?_
  intro E hE
  rw [fr1]
  refine WS.seq fun K1 hK1 => ?_
  refine WS.region_lit ?_
  refine WO.yld (Yld.assign (evo_const _ _)) ?_
  refine WO.nil ?_
  refine hK1 _ _ _ ?_
  clear hK1
  refine WS.seq fun K2 hK2 => ?_
  refine WS.seq fun K3 hK3 => ?_
  refine WS.region_lit ?_
  refine WO.yld (Yld.assign (evo_const _ _)) ?_
  refine WO.nil ?_
  refine hK3 _ _ _ ?_
  clear hK3
  refine WS.blk fun X4 hX4 hY4 => ?_
  -- @@ loop
  refine WS.loop (fun m f h' L => L = [] ∧ ∃ k : Nat, k ≤ s.size ∧ m = s.size - k ∧ (s.data.toList.take k).all nameCh = true ∧ f 0 = .string s ∧ f 3 = .int .i64 k) (s.size) ?_ ?_
  · exact ⟨rfl, 0, by omega, by omega, rfl, rfl, rfl⟩
  · rintro m f h L _ ⟨rfl, k, hk, rfl, hall, f0, f3⟩
    obtain ⟨g, rfl⟩ : ∃ g, f = upd (upd g 0 (.string s)) 3 (.int .i64 k) := ⟨f, by rw [upd_id f0, upd_id f3]⟩
    clear f0 f3
    refine WS.seq fun K5 hK5 => ?_
    refine WS.seq fun K6 hK6 => ?_
    refine WS.region_lit ?_
    refine WO.yld (Yld.move EVx) ?_
    refine WO.yld (Yld.move EVx) ?_
    refine WO.yld (Yld.lenStr EVx) ?_
    refine WO.yld (Yld.lss EVx EVx) ?_
    refine WO.nil ?_
    refine hK6 _ _ _ ?_
    clear hK6
    -- @@ cond t7
    refine WS.cond EVx (fun c1 => ?_) (fun c1 => ?_)
    ·
      have c1 : k < s.size := by simpa using c1
      refine WS.skip ?_
      refine hK5 _ _ _ ?_
      clear hK5
      refine WS.seq fun K7 hK7 => ?_
      refine WS.blk fun X8 hX8 hY8 => ?_
      refine WS.seq fun K9 hK9 => ?_
      refine WS.region_lit ?_
      refine WO.yld (Yld.move EVx) ?_
      refine WO.yld (Yld.move EVx) ?_
      refine WO.yld (Yld.idxStr EVx EVx (by first | omega | decide | simp)) ?_
      refine WO.yld (Yld.geq EVx (evo_const _ _)) ?_
      refine WO.yld (Yld.move EVx) ?_
      refine WO.gyT0 rfl EVx (fun hp => Yld.move EVx) ?_
      refine WO.gyT0 rfl EVx (fun hp => Yld.move EVx) ?_
      refine WO.gyT0 rfl EVx (fun hp => Yld.idxStr (EVc hp EVx) (EVc hp EVx) (by first | omega | decide | (simp at hp; omega) | simp)) ?_
      refine WO.gyT0 rfl EVx (fun hp => Yld.leq (EVc hp EVx) (evo_const _ _)) ?_
      refine WO.yld (Yld.pickAnd' EVx (fun h => (EVc h EVx)) (evo_const _ _)) ?_
      refine WO.yld (Yld.not EVx) ?_
      refine WO.yld (Yld.move EVx) ?_
      refine WO.gyT0 rfl EVx (fun hp => Yld.move EVx) ?_
      refine WO.gyT0 rfl EVx (fun hp => Yld.move EVx) ?_
      refine WO.gyT0 rfl EVx (fun hp => Yld.idxStr (EVc hp EVx) (EVc hp EVx) (by first | omega | decide | (simp at hp; omega) | simp)) ?_
      refine WO.gyT0 rfl EVx (fun hp => Yld.geq (EVc hp EVx) (evo_const _ _)) ?_
      refine WO.gyT0 rfl EVx (fun hp => Yld.move (EVc hp EVx)) ?_
      refine WO.gyT rfl EVx (fun hp => Yld.move EVx) ?_
      refine WO.gyT rfl EVx (fun hp => Yld.move EVx) ?_
      refine WO.gyT rfl EVx (fun hp => Yld.idxStr (EVc hp EVx) (EVc hp EVx) (by first | omega | decide | (simp at hp; omega) | simp)) ?_
      refine WO.gyT rfl EVx (fun hp => Yld.leq (EVc hp EVx) (evo_const _ _)) ?_
      refine WO.gyT0 rfl EVx (fun hp => Yld.pickAnd' (EVc hp EVx) (fun h => (EVc (ai hp h) EVx)) (evo_const _ _)) ?_
      refine WO.gyT0 rfl EVx (fun hp => Yld.not (EVc hp EVx)) ?_
      refine WO.yld (Yld.pickAnd' EVx (fun h => (EVc h EVx)) (evo_const _ _)) ?_
      refine WO.nil ?_
      refine hK9 _ _ _ ?_
      clear hK9
      -- @@ cond t33
      generalize hc : s.data.toList.getD k 0 = c
      cases hn : nameCh c with
      | false =>
        have : nameOk s.data.toList = false := by
          have : s.data.toList.all nameCh = false := by
            rw [List.all_eq_false]
            exact ⟨c, by rw [← hc, getD_lt (by omega)]; exact List.getElem_mem _, by simp [hn]⟩
          rw [nameOk, this]; rfl
        refine WS.cond (t := true) (EVb EVx ((by simp [nameCh] at hn ⊢; omega))) (fun _ => ?_) (fun c => by cases c)
        refine WS.seq fun K10 hK10 => ?_
        refine WS.region_lit ?_
        refine WO.yld (Yld.assign (evo_const _ _)) ?_
        refine WO.nil ?_
        refine hK10 _ _ _ ?_
        clear hK10
        refine WS.ret ?_
        refine FnEnd.mk0 (RV.one (RO.tmpE EVx)) ?_
        -- @@ fin
        rw [this]; exact ⟨rfl, rfl⟩
      | true =>
        refine WS.cond (t := false) (EVb EVx ((by simp [nameCh] at hn ⊢; omega))) (fun c => by cases c) (fun _ => ?_)
        refine WS.skip ?_
        refine hK7 _ _ _ ?_
        clear hK7
        refine WS.region_lit ?_
        refine WO.yld (Yld.move EVx) ?_
        refine WO.yld (Yld.add EVx (evo_const _ _)) ?_
        refine WO.yld (Yld.assign EVx) ?_
        refine WO.nil ?_
        -- @@ loopend
        refine ⟨_, ?_, rfl, k + 1, by omega, rfl, ?_, rfl, next_k k (by omega)⟩
        · omega
        · rw [take_succ_getD (by omega), List.all_append, hall, hc]
          simp [hn]
    ·
      have c1 : k = s.size := by simp at c1; omega
      subst c1
      rw [← hsl, List.take_length] at hall
      refine WS.exit (hX4 _ _ _ ?_)
      refine hK2 _ _ _ ?_
      clear hK2
      refine WS.seq fun K7 hK7 => ?_
      refine WS.region_lit ?_
      refine WO.yld (Yld.move EVx) ?_
      refine WO.yld (Yld.lenStr EVx) ?_
      refine WO.yld (Yld.geq EVx (evo_const _ _)) ?_
      refine WO.yld (Yld.move EVx) ?_
      refine WO.gyT0 rfl EVx (fun hp => Yld.move EVx) ?_
      refine WO.gyT0 rfl EVx (fun hp => Yld.lenStr (EVc hp EVx)) ?_
      refine WO.gyT0 rfl EVx (fun hp => Yld.leq (EVc hp EVx) (evo_const _ _)) ?_
      refine WO.yld (Yld.pickAnd' EVx (fun h => (EVc h EVx)) (evo_const _ _)) ?_
      refine WO.yld (Yld.assign EVx) ?_
      refine WO.nil ?_
      refine hK7 _ _ _ ?_
      clear hK7
      refine WS.ret ?_
      refine FnEnd.mk0 (RV.one (RO.tmpE EVx)) ?_
      -- @@ fin
      refine ⟨?_, rfl⟩
      rw [nameOk, hall, hsl, Bool.true_and]
      congr 2
      · cases e : s.data.toList with
        | nil => rw [e] at hsl; simp at hsl; simp; omega
        | cons a l => rw [e] at hsl; simp at hsl; simp; omega
      · exact decide_eq_decide.2 (by omega)
theorem rword_pu (h : PH) (v : Value) (l : List UInt8) (hv : Bs h v l) (hl : l.length < 1000000000000) : Ct Try.prog 107 #[v] h [] (Pu (WordT l)) := by
  refine Ct.enter (n := 22) (rs := #[.cell 2 33, .tmp 3]) Try.func107 rfl rfl rfl (by simp) ?_
  intro E hE
  rw [fr1]
  refine WS.seq fun K1 hK1 => ?_
  refine WS.region_lit ?_
  refine WO.chn rfl (Chn.alloc fun b2 => ?_)
  refine WO.yld (Yld.assign (evo_const _ _)) ?_
  refine WO.nil ?_
  refine hK1 _ _ _ ?_
  clear hK1
  refine WS.seq fun K2 hK2 => ?_
  refine WS.region_lit ?_
  refine WO.yld ((show Yld _ _ _ _ _ _ (AB.zero 16).v from fun w _ => by kernel_rfl)) ?_
  refine WO.chn rfl (Chn.alloc fun b4 => ?_)
  refine WO.chn rfl (Chn.st EVx EVx Put.head ?_)
  refine WO.nil ?_
  refine hK2 _ _ _ ?_
  clear hK2
  refine WS.seq fun K3 hK3 => ?_
  refine WS.seq fun K4 hK4 => ?_
  refine WS.region_lit ?_
  refine WO.yld (Yld.move EVx) ?_
  refine WO.yld (Sl.lenS hv EVx) ?_
  refine WO.yld (Yld.neqI EVx (evo_const _ _)) ?_
  refine WO.nil ?_
  refine hK4 _ _ _ ?_
  clear hK4
  -- @@ cond t9
  refine WS.cond EVx (fun c1 => ?_) (fun c1 => ?_)
  ·
    refine WS.seq fun K5 hK5 => ?_
    refine WS.region_lit ?_
    refine WO.yld (Yld.ldN EVx At.head) ?_
    refine WO.chn rfl (Chn.st EVx EVx (Put.tail Put.head) ?_)
    refine WO.yld (Yld.assign (evo_const _ _)) ?_
    refine WO.nil ?_
    refine hK5 _ _ _ ?_
    clear hK5
    refine WS.ret ?_
    refine FnEnd.mk0 (RV.two (RO.cellNE EVx (Cells.of (n := 16) (At.tail At.head)) Len.eq) (RO.tmpE EVx)) ?_
    -- @@ fin
    have c1 : l.length ≠ 16 := by simp at c1; omega
    have e1 : wordOf l = AB.zero 16 := dif_neg c1
    refine ⟨?_, rfl⟩
    unfold WordT; rw [e1, if_neg c1]; rfl
  ·
    have c1 : l.length = 16 := by simp at c1; omega
    refine WS.skip ?_
    refine hK3 _ _ _ ?_
    clear hK3
    refine WS.seq fun K5 hK5 => ?_
    refine WS.seq fun K6 hK6 => ?_
    refine WS.region_lit ?_
    refine WO.yld (Yld.assign (evo_const _ _)) ?_
    refine WO.nil ?_
    refine hK6 _ _ _ ?_
    clear hK6
    refine WS.blk fun X7 hX7 hY7 => ?_
    -- @@ loop
    refine WS.loop (fun m f h' L => h.le h' ∧ ∃ (k : Nat) (K : AB 16), k ≤ 16 ∧ m = 16 - k ∧ K.1.take k = l.take k ∧ L = [(b4, .cells K.cells.toArray 33), (b2, .cells (AB.zero 16).cells.toArray 33)] ∧ f 0 = v ∧ f 2 = ptr b2 0 ∧ f 4 = ptr b4 0 ∧ f 5 = .int .i64 k) 16 ?_ ?_
    · exact ⟨PH.le_refl _, 0, AB.zero 16, by omega, by omega, rfl, rfl, rfl, rfl, rfl, rfl⟩
    · rintro m f h9 L _ ⟨le9, k, K, hk, rfl, ht, rfl, f0, f2, f4, f5⟩
      obtain ⟨g, rfl⟩ : ∃ g, f = upd (upd (upd (upd g 0 v) 2 (ptr b2 0)) 4 (ptr b4 0)) 5 (.int .i64 k) := ⟨f, by rw [upd_id f0, upd_id f2, upd_id f4, upd_id f5]⟩
      clear f0 f2 f4 f5
      replace hv := hv.mono le9
      refine WS.seq fun K8 hK8 => ?_
      refine WS.seq fun K9 hK9 => ?_
      refine WS.region_lit ?_
      refine WO.yld (Yld.move EVx) ?_
      refine WO.yld (Yld.lss EVx (evo_const _ _)) ?_
      refine WO.nil ?_
      refine hK9 _ _ _ ?_
      clear hK9
      -- @@ cond t12
      refine WS.cond EVx (fun c2 => ?_) (fun c2 => ?_)
      ·
        have c2 : k < 16 := by simp at c2; omega
        refine WS.skip ?_
        refine hK8 _ _ _ ?_
        clear hK8
        refine WS.seq fun K10 hK10 => ?_
        refine WS.blk fun X11 hX11 hY11 => ?_
        refine WS.region_lit ?_
        refine WO.yld (Yld.move EVx) ?_
        refine WO.yld (Yld.move EVx) ?_
        refine WO.yld (Yld.move EVx) ?_
        refine WO.yld (Sl.indexN hv EVx EVx (by first | omega | decide | simp)) ?_
        refine WO.yld (Bs.load hv EVx (by first | omega | decide | simp)) ?_
        refine WO.yld (Yld.iaN1 EVx EVx (by first | omega | decide | simp)) ?_
        refine WO.chn rfl (Chn.stAB EVx EVx (by first | omega | decide | simp) Put.head ?_)
        refine WO.nil ?_
        refine hK10 _ _ _ ?_
        clear hK10
        refine WS.region_lit ?_
        refine WO.yld (Yld.move EVx) ?_
        refine WO.yld (Yld.add EVx (evo_const _ _)) ?_
        refine WO.yld (Yld.assign EVx) ?_
        refine WO.nil ?_
        -- @@ loopend
        refine ⟨_, ?_, le9, k + 1, K.set k (l.getD k 0), by omega, rfl, ?_, rfl, rfl, rfl, rfl, next_k k (by omega)⟩
        · omega
        · have hK := K.2
          show (K.1.set k (l.getD k 0)).take (k + 1) = _
          rw [take_succ_getD (by rw [List.length_set]; omega), take_succ_getD (by omega), List.take_set_of_le (Nat.le_refl k), ht]
          congr 1
          simp [List.getD, hK, c2]
      ·
        obtain rfl : k = 16 := by simp at c2; omega
        refine WS.exit (hX7 _ _ _ ?_)
        refine hK5 _ _ _ ?_
        clear hK5
        refine WS.seq fun K10 hK10 => ?_
        refine WS.region_lit ?_
        refine WO.yld (Yld.ldN EVx At.head) ?_
        refine WO.chn rfl (Chn.st EVx EVx (Put.tail Put.head) ?_)
        refine WO.yld (Yld.assign (evo_const _ _)) ?_
        refine WO.nil ?_
        refine hK10 _ _ _ ?_
        clear hK10
        refine WS.ret ?_
        refine FnEnd.mk0 (RV.two (RO.cellNE EVx (Cells.of (n := 16) (At.tail At.head)) Len.eq) (RO.tmpE EVx)) ?_
        -- @@ fin
        have e1 : wordOf l = K := by
          have h1 : wordOf l = ⟨l, c1⟩ := dif_pos c1
          rw [h1]
          apply Subtype.ext
          rw [List.take_of_length_le (by rw [K.2]; exact Nat.le_refl _), List.take_of_length_le (by omega)] at ht
          exact ht.symm
        refine ⟨?_, rfl⟩
        unfold WordT; rw [e1, if_pos c1]; rfl
end Go.Proofs
