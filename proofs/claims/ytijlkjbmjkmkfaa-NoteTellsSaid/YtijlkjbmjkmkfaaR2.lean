/- The reference of layer 9: parts as bytes. Conditions: what is handed over can be read, and is short. -/
import Derived.Test.YtijlkjbmjkmkfaaR1
namespace Go.Proofs
open Go Go.Bz

theorem rhd2_cells (n : Nat) (hn : n < 65536) : [Value.int .u8 (IntKind.u8.wrap (IntKind.i64.wrap ((n : Int).tdiv 256)))] ++ ([Value.int .u8 (IntKind.u8.wrap ((n : Int).tmod 256))] ++ []) = bc (hd2 n) := by
  have e0 : ((n : Int).tdiv 256) = ((n / 256 : Nat) : Int) := by rw [Int.tdiv_eq_ediv_of_nonneg (by omega)]; rfl
  have e0' : ((n : Int).tmod 256) = ((n % 256 : Nat) : Int) := by rw [Int.tmod_eq_emod_of_nonneg (by omega)]; rfl
  have e1 : IntKind.i64.wrap ((n / 256 : Nat) : Int) = ((n / 256 : Nat) : Int) := wrap_i64 (by omega) (by omega)
  have e2 : IntKind.u8.wrap ((n / 256 : Nat) : Int) = ((n / 256 % 256 : Nat) : Int) := by rw [IntKind.wrap_u8]; omega
  have e3 : IntKind.u8.wrap ((n % 256 : Nat) : Int) = ((n % 256 : Nat) : Int) := by rw [IntKind.wrap_u8]; omega
  rw [e0, e0', e1, e2, e3]
  simp [bc, hd2]

theorem rput_z (h : PH) (v : Value) (ll : List (List UInt8)) (hv : Rs h v ll) (hlong : ll.length < 1000000000000) : Ct Try.prog 104 #[v] h [] (Fz (PutR (fput ll) 7)) := by
  obtain ⟨ss, hss, hsl, hel⟩ := hv
  refine Ct.enter (n := 38) (rs := #[.tmp 2, .tmp 3]) Try.func104 rfl rfl rfl (by simp) ?_
  intro E hE
  rw [fr1]
  refine WS.seq fun K1 hK1 => ?_
  refine WS.region_lit ?_
  refine WO.yld (Yld.assign (evo_const _ _)) ?_
  refine WO.yld (Yld.assign (evo_const _ _)) ?_
  refine WO.nil ?_
  refine hK1 _ _ _ ?_
  clear hK1
  refine WS.seq fun K2 hK2 => ?_
  refine WS.region_lit ?_
  refine WO.yld (Yld.assign (evo_const _ _)) ?_
  refine WO.nil ?_
  refine hK2 _ _ _ ?_
  clear hK2
  refine WS.seq fun K3 hK3 => ?_
  refine WS.seq fun K4 hK4 => ?_
  refine WS.region_lit ?_
  refine WO.yld (Yld.move EVx) ?_
  refine WO.yld (Sl.lenS hsl EVx) ?_
  refine WO.yld (Yld.gtr EVx (evo_const _ _)) ?_
  refine WO.nil ?_
  refine hK4 _ _ _ ?_
  clear hK4
  -- @@ cond t9
  refine WS.cond EVx (fun c1 => ?_) (fun c1 => ?_)
  ·
    refine WS.seq fun K5 hK5 => ?_
    refine WS.region_lit ?_
    refine WO.yld (Yld.assign (evo_const _ _)) ?_
    refine WO.yld (Yld.assign (evo_const _ _)) ?_
    refine WO.nil ?_
    refine hK5 _ _ _ ?_
    clear hK5
    refine WS.ret ?_
    refine FnEnd.mk0 (RV.two (RO.tmpE EVx) (RO.tmpE EVx)) ?_
    -- @@ fin
    have hn : fput ll = none := by unfold fput; rw [if_neg]; rintro ⟨h1, _⟩; simp at c1; omega
    rw [hn]
    exact ⟨rfl, PutR.none⟩
  ·
    have hl20 : ll.length ≤ 20 := by simp at c1; omega
    refine WS.skip ?_
    refine hK3 _ _ _ ?_
    clear hK3
    refine WS.seq fun K5 hK5 => ?_
    refine WS.seq fun K6 hK6 => ?_
    refine WS.region_lit ?_
    refine WO.yld (Yld.assign (evo_const _ _)) ?_
    refine WO.nil ?_
    refine hK6 _ _ _ ?_
    clear hK6
    refine WS.blk fun X7 hX7 hY7 => ?_
    -- @@ loop
    refine WS.loop (fun m f h' L => h' = h ∧ ∃ (k : Nat) (so : SV) (junk : List Value), k ≤ ll.length ∧ m = ll.length - k ∧ (∀ p ∈ ll.take k, p.length ≤ 500) ∧ Acc so 1 (bc (encs (ll.take k))) junk ∧ L = accL so 5 (bc (encs (ll.take k))) junk ∧ f 0 = v ∧ f 4 = so.v ∧ f 5 = .int .i64 k) (ll.length) ?_ ?_
    · exact ⟨rfl, 0, SV.nil, [], by omega, by omega, by simp, by simpa [encs, bc] using Acc.nil 1, rfl, rfl, rfl, rfl⟩
    · rintro m f h _ _ ⟨rfl, k, so, junk, hk, rfl, hall, ac, rfl, f0, f4, f5⟩
      obtain ⟨g, rfl⟩ : ∃ g, f = upd (upd (upd g 0 v) 4 so.v) 5 (.int .i64 k) := ⟨f, by rw [upd_id f0, upd_id f4, upd_id f5]⟩
      clear f0 f4 f5
      refine WS.seq fun K8 hK8 => ?_
      refine WS.seq fun K9 hK9 => ?_
      refine WS.region_lit ?_
      refine WO.yld (Yld.move EVx) ?_
      refine WO.yld (Yld.move EVx) ?_
      refine WO.yld (Sl.lenS hsl EVx) ?_
      refine WO.yld (Yld.lss EVx EVx) ?_
      refine WO.nil ?_
      refine hK9 _ _ _ ?_
      clear hK9
      -- @@ cond t13
      refine WS.cond EVx (fun c2 => ?_) (fun c2 => ?_)
      ·
        have hlt : k < ll.length := by simp at c2; omega
        have hp := hel k hlt
        refine WS.skip ?_
        refine hK8 _ _ _ ?_
        clear hK8
        refine WS.seq fun K10 hK10 => ?_
        refine WS.blk fun X11 hX11 hY11 => ?_
        refine WS.seq fun K12 hK12 => ?_
        refine WS.region_lit ?_
        refine WO.yld (Yld.move EVx) ?_
        refine WO.yld (Yld.move EVx) ?_
        refine WO.yld (Sl.indexN hsl EVx EVx (by first | omega | decide | simp)) ?_
        refine WO.yld (Sl.loadSV hsl EVx (by omega)) ?_
        refine WO.yld (Sl.lenS hp EVx) ?_
        refine WO.yld (Yld.assign EVx) ?_
        refine WO.nil ?_
        refine hK12 _ _ _ ?_
        clear hK12
        refine WS.seq fun K13 hK13 => ?_
        refine WS.seq fun K14 hK14 => ?_
        refine WS.region_lit ?_
        refine WO.yld (Yld.move EVx) ?_
        refine WO.yld (Yld.gtr EVx (evo_const _ _)) ?_
        refine WO.nil ?_
        refine hK14 _ _ _ ?_
        clear hK14
        -- @@ cond t22
        generalize hss' : ss.getD k SV.nil = sk at hp
        generalize hlk : ll.getD k [] = lk at hp
        refine WS.cond EVx (fun c3 => ?_) (fun c3 => ?_)
        ·
          refine WS.seq fun K15 hK15 => ?_
          refine WS.region_lit ?_
          refine WO.yld (Yld.assign (evo_const _ _)) ?_
          refine WO.yld (Yld.assign (evo_const _ _)) ?_
          refine WO.nil ?_
          refine hK15 _ _ _ ?_
          clear hK15
          refine WS.ret ?_
          refine FnEnd.mk0 (RV.two (RO.tmpE EVx) (RO.tmpE EVx)) ?_
          -- @@ fin
          have hn : fput ll = none := by
            unfold fput; rw [if_neg]
            rintro ⟨_, h2⟩
            have := h2 lk (by rw [← hlk, List.getD, List.getElem?_eq_getElem hlt]; simp)
            simp at c3; omega
          rw [hn]
          exact ⟨rfl, PutR.none⟩
        ·
          have h500 : lk.length ≤ 500 := by simp at c3; omega
          have hel2 := encs_len _ hall
          have hk2 : (ll.take k).length ≤ 20 := by simp; omega
          have hacn : so.n = (encs (ll.take k)).length := by have := ac.len; rw [bc_len] at this; omega
          refine WS.skip ?_
          refine hK13 _ _ _ ?_
          clear hK13
          refine WS.draw [] [(0, 2), (1, 2), (2, 2), (3, 2), (4, 2), (5, 2), (6, 2), (9, 2), (10, 2), (11, 2), (12, 1), (7, 0), (8, 0), (13, 0), (14, 2)] [] (by kernel_rfl) (by kernel_rfl) (by decide) (fun _ hm => (by cases hm)) ?_
          refine WPl.wl rfl (Yld.move EVx) ?_
          refine WPl.wl rfl (Yld.move EVx) ?_
          refine WPl.wl rfl (Yld.quo EVx (evo_const _ _) (by decide)) ?_
          refine WPl.wl rfl (Yld.conv EVx) ?_
          refine WPl.wl rfl (Yld.move EVx) ?_
          refine WPl.wl rfl (Yld.rem EVx (evo_const _ _) (by decide)) ?_
          refine WPl.wl rfl (Yld.conv EVx) ?_
          refine WPl.wl rfl (Yld.move EVx) ?_
          refine WPl.wl rfl (Yld.move EVx) ?_
          refine WPl.wl rfl (Sl.indexN hsl EVx EVx (by first | omega | decide | simp)) ?_
          refine WPl.rd rfl (Sl.loadSV hsl EVx (by first | omega | decide | simp)) ?_
          -- @@ op: t30 := buildSlice 22 2 [(0, t26), (1, t29)] : T22   info {26: None, 29: None}
          refine WPl.chn rfl (Chn.buildSliceE (sz := 1) (Parts.cons EVx (Parts.cons EVx Parts.nil)) (rhd2_cells lk.length (by omega)) rfl (by decide) fun b30 => ⟨.inr ⟨PH.le_refl _, fun _ hm => (by cases hm)⟩, ?_⟩)
          refine WPl.chn rfl (Chn.appendLit EVx ac (by rw [List.append_nil]) EVx (by rw [bc_len]; rfl) (bc_ones _) rfl (by decide) (by omega) (by omega) fun so1 junk1 hn1 ac1 => ⟨.inr ⟨PH.le_refl _, fun _ hm => (by cases hm)⟩, ?_⟩)
          rw [← bc_append] at ac1 ⊢
          -- @@ op: t36 := append[t31, t35] ty[22, 22] : T22   info {31: None, 35: None}
          rw [hss']
          refine WPl.chn rfl (Chn.append EVx ac1 rfl EVx hp.up (bc_ones _) rfl (by decide) (by omega) (by omega) fun so2 junk2 hn2 ac2 => ⟨.inr ⟨PH.le_refl _, fun _ hm => (by cases hm)⟩, ?_⟩)
          rw [← bc_append] at ac2 ⊢
          refine WPl.wl rfl (Yld.assign EVx) ?_
          refine WPl.nil ?_
          refine hK10 _ _ _ ?_
          clear hK10
          refine WS.region_lit ?_
          refine WO.yld (Yld.move EVx) ?_
          refine WO.yld (Yld.add EVx (evo_const _ _)) ?_
          refine WO.yld (Yld.assign EVx) ?_
          refine WO.nil ?_
          -- @@ loopend
          have henc : encs (ll.take k) ++ hd2 lk.length ++ lk = encs (ll.take (k + 1)) := by
            have : ll[k] = lk := by rw [← hlk, List.getD, List.getElem?_eq_getElem hlt]; rfl
            rw [List.take_succ_eq_append_getElem hlt, encs_snoc, this, List.append_assoc]
          rw [henc] at ac2 ⊢
          refine ⟨_, ?_, rfl, k + 1, so2, junk2, by omega, rfl, ?_, ac2, ?_, rfl, rfl, next_k k (by omega)⟩
          · omega
          · intro p hp'
            rw [List.take_succ_eq_append_getElem hlt, List.mem_append] at hp'
            rcases hp' with hp' | hp'
            · exact hall p hp'
            · have : ll[k] = lk := by rw [← hlk, List.getD, List.getElem?_eq_getElem hlt]; rfl
              rw [List.mem_singleton.1 hp', this]; exact h500
          · simp
      ·
        have hke : k = ll.length := by simp at c2; omega
        subst hke
        rw [List.take_length] at ac hall ⊢
        refine WS.exit (hX7 _ _ _ ?_)
        refine hK5 _ _ _ ?_
        clear hK5
        refine WS.freezeAcc ac (List.append_nil _).symm fun h2 le2 sl2 => ?_
        refine WS.seq fun K10 hK10 => ?_
        refine WS.region_lit ?_
        refine WO.yld (Yld.move EVx) ?_
        refine WO.yld (Yld.assign EVx) ?_
        refine WO.yld (Yld.assign (evo_const _ _)) ?_
        refine WO.nil ?_
        refine hK10 _ _ _ ?_
        clear hK10
        refine WS.ret ?_
        refine FnEnd.mk0 (RV.two (RO.tmpE EVx) (RO.tmpE EVx)) ?_
        -- @@ fin
        have hn : fput ll = some (encs ll) := by unfold fput; rw [if_pos ⟨hl20, hall⟩]
        rw [hn]
        refine ⟨rfl, so, rfl, ?_⟩
        have := ac.len
        rw [bc_len, Nat.mul_one] at this
        rw [← this] at sl2
        exact sl2
end Go.Proofs
