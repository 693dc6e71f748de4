/- The reference of layer 9: the parts of bytes. Conditions: what is handed over can be read, and is short. -/
import Derived.Test.YtijlkjbmjkmkfaaR2
namespace Go.Proofs
open Go Go.Bz

theorem num_eq (a b : UInt8) : IntKind.i64.wrap (IntKind.i64.wrap (256 * IntKind.i64.wrap (a.toNat : Int)) + IntKind.i64.wrap (b.toNat : Int)) = ((num2 a b : Nat) : Int) := by
  have ha := a.toNat_lt
  have hb := b.toNat_lt
  rw [wrap_i64 (x := (a.toNat : Int)) (by omega) (by omega), wrap_i64 (x := (b.toNat : Int)) (by omega) (by omega), wrap_i64 (x := 256 * (a.toNat : Int)) (by omega) (by omega), wrap_i64 (by omega) (by omega)]
  unfold num2; omega
theorem rsplit_z (h : PH) (v : Value) (l : List UInt8) (hv : Bs h v l) (hl : l.length < 1000000000000) : Ct Try.prog 106 #[v] h [] (Fz (SplitZ (fsplit 0 l))) := by
  refine Ct.enter (n := 61) (rs := #[.tmp 2, .tmp 3]) Try.func106 rfl rfl rfl (by simp) ?_
  intro E hE
  rw [fr1]
  refine WS.seq fun K1 hK1 => ?_
  refine WS.region_lit ?_
  refine WO.yld (Yld.assign (evo_const _ _)) ?_
  refine WO.yld (Yld.assign (evo_const _ _)) ?_
  refine WO.nil ?_
  refine hK1 _ _ _ ?_
  clear hK1
  refine WS.seq fun K2 hK2 => ?_
  refine WS.region_lit ?_
  refine WO.yld (Yld.assign (evo_const _ _)) ?_
  refine WO.nil ?_
  refine hK2 _ _ _ ?_
  clear hK2
  refine WS.seq fun K3 hK3 => ?_
  refine WS.seq fun K4 hK4 => ?_
  refine WS.region_lit ?_
  refine WO.yld (Yld.assign (evo_const _ _)) ?_
  refine WO.nil ?_
  refine hK4 _ _ _ ?_
  clear hK4
  refine WS.blk fun X5 hX5 hY5 => ?_
  -- @@ loop
  refine WS.loop (fun m f h' L => h.le h' ∧ ∃ (at_ : Nat) (so : SV) (ss : List SV) (done : List (List UInt8)) (junk : List Value), at_ ≤ l.length ∧ m = l.length - at_ ∧ done.length ≤ 20 ∧ fsplit 0 l = (fsplit done.length (l.drop at_)).map (done ++ ·) ∧ ss.length = done.length ∧ (∀ i, i < done.length → Bs h' (ss.getD i SV.nil).v (done.getD i [])) ∧ Acc so 1 (ss.map SV.v) junk ∧ L = accL so 22 (ss.map SV.v) junk ∧ f 0 = v ∧ f 4 = so.v ∧ f 5 = .int .i64 at_) (l.length) ?_ ?_
  · refine ⟨PH.le_refl _, 0, SV.nil, [], [], [], by omega, by omega, by simp, ?_, rfl, fun i hi => (by simp at hi), Acc.nil 1, rfl, rfl, rfl, rfl⟩
    show fsplit 0 l = (fsplit 0 l).map ([] ++ ·)
    cases fsplit 0 l <;> rfl
  · rintro m f h9 _ _ ⟨le9, at_, so, ss, done, junk, hat, rfl, hd20, hsp, hss, hel, ac, rfl, f0, f4, f5⟩
    obtain ⟨g, rfl⟩ : ∃ g, f = upd (upd (upd g 0 v) 4 so.v) 5 (.int .i64 at_) := ⟨f, by rw [upd_id f0, upd_id f4, upd_id f5]⟩
    clear f0 f4 f5
    replace hv := hv.mono le9
    have hson : so.n = done.length := by have := ac.len; simp at this; omega
    refine WS.seq fun K6 hK6 => ?_
    refine WS.seq fun K7 hK7 => ?_
    refine WS.region_lit ?_
    refine WO.yld (Yld.move EVx) ?_
    refine WO.yld (Yld.move EVx) ?_
    refine WO.yld (Sl.lenS hv EVx) ?_
    refine WO.yld (Yld.lss EVx EVx) ?_
    refine WO.nil ?_
    refine hK7 _ _ _ ?_
    clear hK7
    -- @@ cond t10
    refine WS.cond EVx (fun c1 => ?_) (fun c1 => ?_)
    ·
      have c1 : at_ < l.length := by simp at c1; omega
      refine WS.skip ?_
      refine hK6 _ _ _ ?_
      clear hK6
      refine WS.blk fun X8 hX8 hY8 => ?_
      refine WS.seq fun K9 hK9 => ?_
      refine WS.seq fun K10 hK10 => ?_
      refine WS.region_lit ?_
      refine WO.yld (Yld.move EVx) ?_
      refine WO.yld (Sl.lenS hv EVx) ?_
      refine WO.yld (Yld.move EVx) ?_
      refine WO.yld (Yld.sub EVx EVx) ?_
      refine WO.yld (Yld.lss EVx (evo_const _ _)) ?_
      refine WO.nil ?_
      refine hK10 _ _ _ ?_
      clear hK10
      -- @@ cond t15
      rw [wrap_i64 (x := (l.length : Int) - at_) (by omega) (by omega)]
      refine WS.cond EVx (fun c2 => ?_) (fun c2 => ?_)
      ·
        refine WS.seq fun K11 hK11 => ?_
        refine WS.region_lit ?_
        refine WO.yld (Yld.assign (evo_const _ _)) ?_
        refine WO.yld (Yld.assign (evo_const _ _)) ?_
        refine WO.nil ?_
        refine hK11 _ _ _ ?_
        clear hK11
        refine WS.ret ?_
        refine FnEnd.mk0 (RV.two (RO.tmpE EVx) (RO.tmpE EVx)) ?_
        -- @@ fin
        have : (l.drop at_).length = 1 := by simp at c2 ⊢; omega
        obtain ⟨a, ha⟩ := List.length_eq_one_iff.1 this
        rw [hsp, ha, show fsplit done.length [a] = .error 2 by simp [fsplit]]
        exact ⟨rfl, SV.nil, rfl, Rs.nil _⟩
      ·
        have h2 : 2 ≤ (l.drop at_).length := by simp at c2 ⊢; omega
        obtain ⟨a, b, r, hr⟩ : ∃ a b r, l.drop at_ = a :: b :: r := by
          match l.drop at_, h2 with
          | a :: b :: r, _ => exact ⟨a, b, r, rfl⟩
        have hlr : at_ + 2 + r.length = l.length := by
          have := congrArg List.length hr
          simp at this; omega
        have ea : l.getD at_ 0 = a := by have := getD_drop l at_ 0 0; rw [hr] at this; simpa using this.symm
        have eb : l.getD (at_ + 1) 0 = b := by have := getD_drop l at_ 1 0; rw [hr] at this; simpa using this.symm
        refine WS.skip ?_
        refine hK9 _ _ _ ?_
        clear hK9
        refine WS.seq fun K11 hK11 => ?_
        refine WS.draw [] [(0, 2), (1, 2), (2, 2), (3, 1), (4, 2), (5, 2), (6, 2), (7, 2), (8, 2), (9, 2), (10, 1), (11, 2), (12, 2), (13, 2)] _ (by kernel_rfl) (by kernel_rfl) (by decide) (fun _ hm => hm) ?_
        refine WPl.wl rfl (Yld.move EVx) ?_
        refine WPl.wl rfl (Yld.move EVx) ?_
        refine WPl.wl rfl (Sl.indexN hv EVx EVx (by first | omega | decide | simp)) ?_
        refine WPl.rd rfl (Bs.load hv EVx (by first | omega | decide | simp)) ?_
        refine WPl.wl rfl (Yld.conv EVx) ?_
        refine WPl.wl rfl (Yld.mul (evo_const _ _) EVx) ?_
        refine WPl.wl rfl (Yld.move EVx) ?_
        refine WPl.wl rfl (Yld.move EVx) ?_
        refine WPl.wl rfl (Yld.add EVx (evo_const _ _)) ?_
        refine WPl.wl rfl (Sl.indexN hv EVx (Eq.trans EVx (next_k at_ (by omega))) (by omega)) ?_
        refine WPl.rd rfl (Bs.load hv EVx (by first | omega | decide | simp)) ?_
        refine WPl.wl rfl (Yld.conv EVx) ?_
        refine WPl.wl rfl (Yld.add EVx EVx) ?_
        refine WPl.wl rfl (Yld.assign EVx) ?_
        refine WPl.nil ?_
        refine hK11 _ _ _ ?_
        clear hK11
        refine WS.seq fun K12 hK12 => ?_
        refine WS.seq fun K13 hK13 => ?_
        refine WS.region_lit ?_
        refine WO.yld (Yld.move EVx) ?_
        refine WO.yld (Yld.gtr EVx (evo_const _ _)) ?_
        refine WO.yld (Yld.move EVx) ?_
        refine WO.gyF0 rfl EVx (fun hp => Yld.move EVx) ?_
        refine WO.gyF0 rfl EVx (fun hp => Yld.lenS (EVc hp EVx)) ?_
        refine WO.gyF0 rfl EVx (fun hp => Yld.eqlI (EVc hp EVx) (evo_const _ _)) ?_
        refine WO.yld (Yld.pickOr' EVx (evo_const _ _) (fun h => (EVc (nf h) EVx))) ?_
        refine WO.nil ?_
        refine hK13 _ _ _ ?_
        clear hK13
        -- @@ cond t35
        rw [ea, eb, num_eq a b]
        generalize hn : num2 a b = n
        have hn2 : n < 65536 := by have := a.toNat_lt; have := b.toNat_lt; rw [← hn]; unfold num2; omega
        by_cases g1 : 500 < n ∨ done.length = 20
        ·
          refine WS.cond (t := true) (EVb EVx ((by simp [hson]; omega))) (fun _ => ?_) (fun c => by cases c)
          refine WS.seq fun K14 hK14 => ?_
          refine WS.region_lit ?_
          refine WO.yld (Yld.assign (evo_const _ _)) ?_
          refine WO.yld (Yld.assign (evo_const _ _)) ?_
          refine WO.nil ?_
          refine hK14 _ _ _ ?_
          clear hK14
          refine WS.ret ?_
          refine FnEnd.mk0 (RV.two (RO.tmpE EVx) (RO.tmpE EVx)) ?_
          -- @@ fin
          rw [hsp, hr, fsplit, hn, if_pos g1]
          exact ⟨rfl, SV.nil, rfl, Rs.nil _⟩
        ·
          refine WS.cond (t := false) (EVb EVx ((by simp [hson]; omega))) (fun c => by cases c) (fun _ => ?_)
          refine WS.skip ?_
          refine hK12 _ _ _ ?_
          clear hK12
          refine WS.seq fun K14 hK14 => ?_
          refine WS.seq fun K15 hK15 => ?_
          refine WS.region_lit ?_
          refine WO.yld (Yld.move EVx) ?_
          refine WO.yld (Sl.lenS hv EVx) ?_
          refine WO.yld (Yld.move EVx) ?_
          refine WO.yld (Yld.sub EVx EVx) ?_
          refine WO.yld (Yld.sub EVx (evo_const _ _)) ?_
          refine WO.yld (Yld.move EVx) ?_
          refine WO.yld (Yld.lss EVx EVx) ?_
          refine WO.nil ?_
          refine hK15 _ _ _ ?_
          clear hK15
          -- @@ cond t42
          rw [wrap_i64 (x := (l.length : Int) - at_) (by omega) (by omega), wrap_i64 (x := (l.length : Int) - at_ - 2) (by omega) (by omega)]
          by_cases g3 : r.length < n
          ·
            refine WS.cond (t := true) (EVb EVx (decide_eq_true (by omega))) (fun _ => ?_) (fun c => by cases c)
            refine WS.seq fun K16 hK16 => ?_
            refine WS.region_lit ?_
            refine WO.yld (Yld.assign (evo_const _ _)) ?_
            refine WO.yld (Yld.assign (evo_const _ _)) ?_
            refine WO.nil ?_
            refine hK16 _ _ _ ?_
            clear hK16
            refine WS.ret ?_
            refine FnEnd.mk0 (RV.two (RO.tmpE EVx) (RO.tmpE EVx)) ?_
            -- @@ fin
            rw [hsp, hr, fsplit, hn, if_neg g1, if_pos g3]
            exact ⟨rfl, SV.nil, rfl, Rs.nil _⟩
          ·
            refine WS.cond (t := false) (EVb EVx (decide_eq_false (by omega))) (fun c => by cases c) (fun _ => ?_)
            refine WS.skip ?_
            refine hK14 _ _ _ ?_
            clear hK14
            have e1 : IntKind.i64.wrap ((at_ : Int) + 2) = ((at_ + 2 : Nat) : Int) := wrap_i64 (by omega) (by omega)
            have e2 : IntKind.i64.wrap (((at_ + 2 : Nat) : Int) + n) = ((at_ + 2 + n : Nat) : Int) := wrap_i64 (by omega) (by omega)
            have hmid := hv.mid (at_ + 2) (at_ + 2 + n) (by omega) (by omega)
            refine WS.seq fun K16 hK16 => ?_
            refine WS.region_lit ?_
            refine WO.yld (Yld.move EVx) ?_
            -- @@ op: t44 := buildSlice 22 0 [] : T22   info {}
            refine WO.chn rfl (Chn.buildAcc (sz := 1) Parts.nil rfl (by decide) (by decide) fun s44 hn44 ac44 => ?_)
            refine WO.yld (Yld.move EVx) ?_
            refine WO.yld (Yld.move EVx) ?_
            refine WO.yld (Yld.add EVx (evo_const _ _)) ?_
            refine WO.yld (Yld.move EVx) ?_
            refine WO.yld (Yld.add EVx (evo_const _ _)) ?_
            refine WO.yld (Yld.move EVx) ?_
            refine WO.yld (Yld.add EVx EVx) ?_
            refine WO.yld (Bs.mid_ hv (at_ + 2) (at_ + 2 + n) EVx EVx e1 EVx (by rw [e1]; exact e2) (by omega) (by omega)) ?_
            -- @@ op: t53 := append[t44, t52] ty[22, 22] : T22   info {44: None, 52: None}
            have hml : ((l.drop (at_ + 2)).take (at_ + 2 + n - (at_ + 2))).length = n := by simp; omega
            refine WO.chn rfl (Chn.appendF EVx ac44 rfl EVx hmid.up (bc_ones _) rfl (by decide) (by rw [hn44, hml]; omega) (by rw [hn44, hml]; omega) fun s53 h53 le53 hn53 hs53 => ?_)
            have hb53 : Bs h53 s53.v (r.take n) := by
              have e3 : (l.drop (at_ + 2)).take (at_ + 2 + n - (at_ + 2)) = r.take n := by
                rw [← List.drop_drop, hr, Nat.add_sub_cancel_left]; rfl
              rw [e3] at hs53
              rw [hn44, Nat.zero_add, List.nil_append] at hs53
              exact hs53
            -- @@ op: t54 := buildSlice 27 1 [(0, t53)] : T27   info {53: None}
            refine WO.chn rfl (Chn.buildSliceE (sz := 1) (Parts.cons (v := s53.v) EVx Parts.nil) (List.append_nil _) rfl (by decide) fun b54 => ?_)
            refine WO.chn rfl (Chn.appendLit EVx ac (by rw [List.append_nil]) EVx rfl (ones_one rfl) rfl (by decide) (by omega) (by omega) fun so1 junk2 hn1 ac2 => ?_)
            refine WO.yld (Yld.assign EVx) ?_
            refine WO.nil ?_
            refine hK16 _ _ _ ?_
            clear hK16
            refine WS.region_lit ?_
            refine WO.yld (Yld.move EVx) ?_
            refine WO.yld (Yld.add EVx (evo_const _ _)) ?_
            refine WO.yld (Yld.move EVx) ?_
            refine WO.yld (Yld.add EVx EVx) ?_
            refine WO.yld (Yld.assign EVx) ?_
            refine WO.nil ?_
            -- @@ loopend
            refine ⟨_, ?_, PH.le_trans le9 le53, at_ + 2 + n, so1, ss ++ [s53], done ++ [r.take n], junk2, by omega, rfl, by simp; omega, ?_, by simp [hss], ?_, by simpa using ac2, by simp, rfl, rfl, ?_⟩
            · omega
            · rw [hsp, hr, fsplit, hn, if_neg g1, if_neg (by omega), List.length_append, List.length_singleton, ← List.drop_drop (i := n), ← List.drop_drop (i := 2), hr]
              simp only [List.drop_succ_cons, List.drop_zero]
              cases fsplit (done.length + 1) (r.drop n) with
              | error e => rfl
              | ok x => simp [Except.map]
            · intro i hi
              by_cases h : i < done.length
              · rw [show (ss ++ [s53]).getD i SV.nil = ss.getD i SV.nil by simp [List.getD, List.getElem?_append_left (by omega : i < ss.length)], show (done ++ [r.take n]).getD i [] = done.getD i [] by simp [List.getD, List.getElem?_append_left h]]
                exact (hel i h).mono le53
              · obtain rfl : i = done.length := by simp at hi; omega
                rw [show (ss ++ [s53]).getD done.length SV.nil = s53 by rw [← hss]; simp [List.getD], show (done ++ [r.take n]).getD done.length [] = r.take n by simp [List.getD]]
                exact hb53
            · show Value.int .i64 (IntKind.i64.wrap (IntKind.i64.wrap ((at_ : Int) + 2) + (n : Int))) = _
              rw [e1, e2]
    ·
      obtain rfl : at_ = l.length := by simp at c1; omega
      refine WS.exit (hX5 _ _ _ ?_)
      refine hK3 _ _ _ ?_
      clear hK3
      refine WS.freezeAcc ac (List.append_nil _).symm fun h2 le2 sl2 => ?_
      refine WS.seq fun K8 hK8 => ?_
      refine WS.region_lit ?_
      refine WO.yld (Yld.move EVx) ?_
      refine WO.yld (Yld.assign EVx) ?_
      refine WO.yld (Yld.assign (evo_const _ _)) ?_
      refine WO.nil ?_
      refine hK8 _ _ _ ?_
      clear hK8
      refine WS.ret ?_
      refine FnEnd.mk0 (RV.two (RO.tmpE EVx) (RO.tmpE EVx)) ?_
      -- @@ fin
      rw [hsp, List.drop_length]
      have e : fsplit done.length [] = .ok [] := by simp [fsplit]
      rw [e]
      refine ⟨rfl, so, by simp [Except.map, splitE], ?_⟩
      rw [show splitL (Except.map (done ++ ·) (.ok [])) = done by simp [Except.map, splitL]]
      exact ⟨ss, hss, by rw [← hson]; exact sl2, fun i hi => (hel i hi).mono le2⟩
end Go.Proofs
