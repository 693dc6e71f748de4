/- field.Split. Conditions: the bytes can be read, and are short. -/
import Derived.Test.YtijlkjbmjkmkfaaF3
namespace Go.Proofs
open Go Go.Bz

def isErr (o : Except Int (List (List UInt8))) : Option Int := match o with | .ok _ => none | .error e => some e
/-- What field.Split answers: its parts are the caller's own. -/
def SplitOwn (o : Except Int (List (List UInt8))) (v : Value) (h' : PH) (L' : OL) : Prop :=
  match o with
  | .ok ll => ∃ (s : SV) (l : Inn), v = .tuple #[s.v, .int .i64 0] ∧ l.map (·.2.1) = ll ∧ AccAll l ∧ Sl h' [] 1 s.v ll.length (l.map fun p => p.1.v) ∧ L' = innL 5 l
  | .error e => v = .tuple #[.slice none 0 0, .int .i64 e] ∧ L' = []

theorem split_own (h : PH) (v : Value) (l : List UInt8) (hv : Bs h v l) (hl : l.length < 1000000000000) :
    Ct Try.prog 20 #[v] h [] (SplitOwn (fsplit 0 l)) := by
  refine Ct.enter (n := 48) (rs := #[.tmp 2, .tmp 3]) Try.func20 rfl rfl rfl (by simp) ?_
  intro E hE
  rw [fr1]
  refine WS.seq fun K1 hK1 => ?_
  refine WS.region_lit ?_
  refine WO.yld (Yld.assign (evo_const _ _)) ?_
  refine WO.yld (Yld.assign (evo_const _ _)) ?_
  refine WO.nil ?_
  refine hK1 _ _ _ ?_
  clear hK1
  refine WS.seq fun K2 hK2 => ?_
  refine WS.region_lit ?_
  refine WO.yld (Yld.assign (evo_const _ _)) ?_
  refine WO.nil ?_
  refine hK2 _ _ _ ?_
  clear hK2
  refine WS.seq fun K3 hK3 => ?_
  refine WS.blk fun X4 hX4 hY4 => ?_
  -- @@ loop
  refine WS.loop (fun m f h' L => ∃ (inn : Inn) (so : SV) (junk : List Value) (rest : List UInt8) (vb : Value), m = rest.length ∧ rest.length ≤ l.length ∧ inn.length ≤ 20 ∧ fsplit 0 l = (fsplit inn.length rest).map (inn.map (·.2.1) ++ ·) ∧ AccAll inn ∧ Acc so 1 (inn.map fun p => p.1.v) junk ∧ L = accL so 22 (inn.map fun p => p.1.v) junk ++ innL 5 inn ∧ Bs h' vb rest ∧ f 0 = vb ∧ f 4 = so.v) (l.length) ?_ ?_
  · refine ⟨[], SV.nil, [], l, v, rfl, Nat.le_refl _, by simp, ?_, accAll_nil, Acc.nil 1, rfl, hv, rfl, rfl⟩
    cases fsplit 0 l <;> rfl
  · rintro m f h1 _ le1 ⟨inn, so, junk, rest, vb, rfl, hrl, hacc, hsp, hall, ac, rfl, hb, f0, f4⟩
    obtain ⟨g, rfl⟩ : ∃ g, f = upd (upd g 0 vb) 4 so.v := ⟨f, by rw [upd_id f0, upd_id f4]⟩
    clear f0 f4
    have hson : so.n = inn.length := by have := ac.len; simp at this; exact this.symm
    refine WS.seq fun K5 hK5 => ?_
    refine WS.seq fun K6 hK6 => ?_
    refine WS.region_lit ?_
    refine WO.yld (Yld.move EVx) ?_
    refine WO.yld (Sl.lenS hb EVx) ?_
    refine WO.yld (Yld.gtr EVx (evo_const _ _)) ?_
    refine WO.nil ?_
    refine hK6 _ _ _ ?_
    clear hK6
    -- @@ cond t8
    refine WS.cond EVx (fun c1 => ?_) (fun c1 => ?_)
    ·
      have h0 : 0 < rest.length := by simpa using c1
      refine WS.skip ?_
      refine hK5 _ _ _ ?_
      clear hK5
      refine WS.blk fun X7 hX7 hY7 => ?_
      refine WS.seq fun K8 hK8 => ?_
      refine WS.seq fun K9 hK9 => ?_
      refine WS.region_lit ?_
      refine WO.yld (Yld.move EVx) ?_
      refine WO.yld (Sl.lenS hb EVx) ?_
      refine WO.yld (Yld.lss EVx (evo_const _ _)) ?_
      refine WO.nil ?_
      refine hK9 _ _ _ ?_
      clear hK9
      -- @@ cond t11
      refine WS.cond EVx (fun c2 => ?_) (fun c2 => ?_)
      ·
        refine WS.seq fun K10 hK10 => ?_
        refine WS.region_lit ?_
        refine WO.yld (Yld.assign (evo_const _ _)) ?_
        refine WO.yld (Yld.assign (evo_const _ _)) ?_
        refine WO.nil ?_
        refine hK10 _ _ _ ?_
        clear hK10
        refine WS.ret ?_
        refine FnEnd.mk0 (RV.two (RO.tmpE EVx) (RO.tmpE EVx)) ?_
        -- @@ fin
        have : rest.length = 1 := by simp at c2; omega
        obtain ⟨a, rfl⟩ := List.length_eq_one_iff.1 this
        rw [hsp]
        simp [fsplit, SplitOwn, Except.map]
      ·
        have h2 : 2 ≤ rest.length := by simp at c2; omega
        obtain ⟨a, b, r, rfl⟩ : ∃ a b r, rest = a :: b :: r := by
          match rest, h2 with
          | a :: b :: r, _ => exact ⟨a, b, r, rfl⟩
        have hrl' : r.length + 2 ≤ l.length := by simpa using hrl
        refine WS.skip ?_
        refine hK8 _ _ _ ?_
        clear hK8
        refine WS.seq fun K10 hK10 => ?_
        refine WS.draw [] [(0, 2), (1, 2), (2, 1), (3, 2), (4, 2), (5, 2), (6, 2), (7, 1), (8, 2), (9, 2), (10, 2)] _ (by kernel_rfl) (by kernel_rfl) (by decide) (fun _ hm => hm) ?_
        refine WPl.wl rfl (Yld.move EVx) ?_
        refine WPl.wl rfl (Sl.indexL 0 hb EVx rfl rfl (by first | omega | decide | simp)) ?_
        refine WPl.rd rfl (Bs.load hb EVx (by first | omega | decide | simp)) ?_
        refine WPl.wl rfl (Yld.conv EVx) ?_
        refine WPl.wl rfl (Yld.shl EVx (evo_const _ _) (by decide)) ?_
        refine WPl.wl rfl (Yld.move EVx) ?_
        refine WPl.wl rfl (Sl.indexL 1 hb EVx rfl rfl (by first | omega | decide | simp)) ?_
        refine WPl.rd rfl (Bs.load hb EVx (by first | omega | decide | simp)) ?_
        refine WPl.wl rfl (Yld.conv EVx) ?_
        refine WPl.wl rfl (Yld.bits_or EVx EVx) ?_
        refine WPl.wl rfl (Yld.assign EVx) ?_
        refine WPl.nil ?_
        refine hK10 _ _ _ ?_
        clear hK10
        refine WS.seq fun K11 hK11 => ?_
        refine WS.region_lit ?_
        refine WO.yld (Yld.move EVx) ?_
        -- @@ op: t23 := slice 22 t22 some c2:i64 none none : T22   info {22: {'k': 'sl', 'f': 'hb', 'bs': True, 'el': False}}
        rw [or_num2]
        simp only [List.getD_cons_zero, List.getD_cons_succ]
        have hb2 := hb.drop 2 h2
        simp only [List.drop_succ_cons, List.drop_zero] at hb2
        refine WO.yld (Bs.from_ hb 2 EVx rfl rfl h2) ?_
        refine WO.yld (Yld.assign EVx) ?_
        refine WO.nil ?_
        refine hK11 _ _ _ ?_
        clear hK11
        refine WS.seq fun K12 hK12 => ?_
        refine WS.blk fun X13 hX13 hY13 => ?_
        refine WS.seq fun K14 hK14 => ?_
        refine WS.region_lit ?_
        refine WO.yld (Yld.move EVx) ?_
        refine WO.yld (Yld.gtr EVx (evo_const _ _)) ?_
        refine WO.yld (Yld.move EVx) ?_
        refine WO.gyF0 rfl EVx (fun hp => Yld.move EVx) ?_
        refine WO.gyF0 rfl EVx (fun hp => Yld.lenS (EVc hp EVx)) ?_
        refine WO.gyF0 rfl EVx (fun hp => Yld.eqlI (EVc hp EVx) (evo_const _ _)) ?_
        refine WO.yld (Yld.pickOr' EVx (evo_const _ _) (fun h => (EVc (nf h) EVx))) ?_
        refine WO.yld (Yld.assign EVx) ?_
        refine WO.nil ?_
        refine hK14 _ _ _ ?_
        clear hK14
        -- @@ cond t24
        generalize slcut vb 2 (a :: b :: r).length (vcap vb) 1 = vb2 at hb2 ⊢
        clear hb
        generalize hn : num2 a b = n
        by_cases g1 : 500 < n ∨ inn.length = 20
        ·
          refine WS.cond (t := true) (EVb EVx ((by simp; omega))) (fun _ => ?_) (fun c => by cases c)
          refine WS.seq fun K15 hK15 => ?_
          refine WS.region_lit ?_
          refine WO.yld (Yld.assign (evo_const _ _)) ?_
          refine WO.yld (Yld.assign (evo_const _ _)) ?_
          refine WO.nil ?_
          refine hK15 _ _ _ ?_
          clear hK15
          refine WS.ret ?_
          refine FnEnd.mk0 (RV.two (RO.tmpE EVx) (RO.tmpE EVx)) ?_
          -- @@ fin
          rw [hsp, fsplit, hn, if_pos g1]
          exact ⟨rfl, rfl⟩
        ·
          refine WS.cond (t := false) (EVb EVx ((by simp; omega))) (fun c => by cases c) (fun _ => ?_)
          refine WS.seq fun K15 hK15 => ?_
          refine WS.region_lit ?_
          refine WO.yld (Yld.move EVx) ?_
          refine WO.yld (Yld.move EVx) ?_
          refine WO.yld (Sl.lenS hb2 EVx) ?_
          refine WO.yld (Yld.gtr EVx EVx) ?_
          refine WO.yld (Yld.assign EVx) ?_
          refine WO.nil ?_
          refine hK15 _ _ _ ?_
          clear hK15
          -- @@ cond t32
          · by_cases g3 : r.length < n
            ·
              refine WS.cond (t := true) (EVb EVx (decide_eq_true (by omega))) (fun _ => ?_) (fun c => by cases c)
              refine WS.seq fun K16 hK16 => ?_
              refine WS.region_lit ?_
              refine WO.yld (Yld.assign (evo_const _ _)) ?_
              refine WO.yld (Yld.assign (evo_const _ _)) ?_
              refine WO.nil ?_
              refine hK16 _ _ _ ?_
              clear hK16
              refine WS.ret ?_
              refine FnEnd.mk0 (RV.two (RO.tmpE EVx) (RO.tmpE EVx)) ?_
              -- @@ fin
              rw [hsp, fsplit, hn, if_neg g1, if_pos g3]
              exact ⟨rfl, rfl⟩
            ·
              refine WS.cond (t := false) (EVb EVx (decide_eq_false (by omega))) (fun c => by cases c) (fun _ => ?_)
              refine WS.skip ?_
              refine hK12 _ _ _ ?_
              clear hK12
              refine WS.draw [] [(0, 2), (1, 2), (2, 2), (3, 2), (7, 2), (8, 2), (9, 2), (4, 0), (5, 0), (6, 0), (10, 2), (11, 2)] [] (by kernel_rfl) (by kernel_rfl) (by decide) (fun _ hm => (by cases hm)) ?_
              refine WPl.wl rfl (Yld.move EVx) ?_
              refine WPl.wl rfl (Yld.move EVx) ?_
              refine WPl.wl rfl (Yld.move EVx) ?_
              -- @@ op: t40 := slice 22 t38 none some t39 none : T22   info {38: {'k': 'sl', 'f': 'hb2', 'bs': True}, 39: None}
              have hb3 := hb2.take n (by omega)
              have hb4 := hb2.drop n (by omega)
              refine WPl.wl rfl (Bs.to_ hb2 n EVx EVx rfl (by omega)) ?_
              refine WPl.wl rfl (Yld.move EVx) ?_
              refine WPl.wl rfl (Yld.move EVx) ?_
              -- @@ op: t46 := slice 22 t44 some t45 none none : T22   info {44: {'k': 'sl', 'f': 'hb2', 'bs': True}, 45: None}
              refine WPl.wl rfl (Bs.from_ hb2 n EVx EVx rfl (by omega)) ?_
              -- @@ op: t41 := CALL F101[t40] ty[22] : T22   info {40: {'k': 'sl', 'f': 'hb3', 'bs': True}}
              generalize slcut vb2 0 n (vcap vb2) 1 = vb3 at hb3 ⊢
              generalize slcut vb2 n r.length (vcap vb2) 1 = vb4 at hb4 ⊢
              have hl3 : (r.take n).length = n := by simp; omega
              refine WPl.chn rfl (Chn.call (evo_func _ _) (map_evo (AC EVx AN)) (clone_own _ _ _ hb3 (by omega)) rfl ?_)
              rintro v1 h2 L2 le2 ⟨s1, junk1, rfl, ac1, rfl⟩
              refine ⟨.inr ⟨le2, fun _ hm => (by cases hm)⟩, ?_⟩
              refine WPl.chn rfl (Chn.buildSliceE (sz := 1) (Parts.cons (v := s1.v) EVx Parts.nil) (List.append_nil _) rfl (by decide) fun b42 => ⟨.inr ⟨le2, fun _ hm => (by cases hm)⟩, ?_⟩)
              refine WPl.chn rfl (Chn.perm (L' := (b42, .cells [s1.v].toArray 22) :: (accL so 22 (inn.map fun p => p.1.v) junk ++ (accL s1 5 (bc (r.take n)) junk1 ++ innL 5 inn))) (List.Perm.cons _ (perm3 _ _ _)) <| Chn.appendLit EVx ac rfl EVx rfl (ones_one rfl) rfl (by decide) (by omega) (by omega) fun so1 junk2 hn1 ac2 => ⟨.inr ⟨le2, fun _ hm => (by cases hm)⟩, ?_⟩)
              refine WPl.perm (L' := accL so1 22 ((inn.map fun p => p.1.v) ++ [s1.v]) junk2 ++ innL 5 (inn ++ [(s1, r.take n, junk1)])) ?_ ?_
              · rw [innL_snoc]; exact List.Perm.append_left _ List.perm_append_comm
              refine WPl.wl rfl (Yld.assign EVx) ?_
              refine WPl.wl rfl (Yld.assign EVx) ?_
              refine WPl.nil ?_
              -- @@ loopend
              refine ⟨_, ?_, inn ++ [(s1, r.take n, junk1)], so1, junk2, r.drop n, vb4, rfl, ?_, ?_, ?_, accAll_snoc hall ac1, by simpa using ac2, by simp, hb4.mono le2, rfl, rfl⟩
              · simp; omega
              · simp; omega
              · simp; omega
              · rw [hsp, fsplit, hn, if_neg g1, if_neg (by omega)]
                simp only [List.length_append, List.length_singleton, List.map_append, List.map_cons, List.map_nil]
                cases fsplit (inn.length + 1) (r.drop n) with
                | error e => rfl
                | ok x => simp [Except.map]
    ·
      have hr0 : rest = [] := by simpa using c1
      subst hr0
      refine WS.exit (hX4 _ _ _ ?_)
      refine hK3 _ _ _ ?_
      clear hK3
      refine WS.freezeAcc ac rfl fun h2 le2 sl2 => ?_
      refine WS.seq fun K7 hK7 => ?_
      refine WS.region_lit ?_
      refine WO.yld (Yld.move EVx) ?_
      refine WO.yld (Yld.assign EVx) ?_
      refine WO.yld (Yld.assign (evo_const _ _)) ?_
      refine WO.nil ?_
      refine hK7 _ _ _ ?_
      clear hK7
      refine WS.ret ?_
      refine FnEnd.mk (RV.two (RO.tmpE EVx) (RO.tmpE EVx)) ?_
      -- @@ fin
      rw [hsp, fsplit]
      refine ⟨so, inn, rfl, by simp, hall, ?_, rfl⟩
      rw [hson] at sl2
      simpa using sl2
end Go.Proofs
