/- field: what is split, as what stays as it is; numbers; names. Conditions: what is handed over can be read, and is short. -/
import Derived.Test.YtijlkjbmjkmkfaaF4
import Derived.Test.YtijlkjbmjkmkfaaS1
namespace Go.Proofs
open Go Go.Bz

def SplitR (o : Except Int (List (List UInt8))) (v : Value) (h' : PH) (L' : OL) : Prop :=
  L' = [] ∧ match o with
  | .ok ll => ∃ v1, v = .tuple #[v1, .int .i64 0] ∧ Rs h' v1 ll
  | .error e => v = .tuple #[.slice none 0 0, .int .i64 e]
theorem split_ok (h : PH) (v : Value) (l : List UInt8) (hv : Bs h v l) (hl : l.length < 1000000000000) : Ct Try.prog 20 #[v] h [] (SplitR (fsplit 0 l)) :=
  (split_own h v l hv hl).then_ fun E v h' L' w st r => by
    cases e : fsplit 0 l with
    | error x => rw [e] at r; obtain ⟨rfl, rfl⟩ := r; exact ⟨h', [], st, rfl, rfl⟩
    | ok ll =>
      rw [e] at r
      obtain ⟨s, inn, rfl, hll, hall, sl, rfl⟩ := r
      obtain ⟨h2, le2, st2, hb⟩ := Sat.freezeInn (L2 := []) inn hall (by simpa using st)
      have hlen : inn.length = ll.length := by rw [← hll]; simp
      refine ⟨h2, [], st2, rfl, s.v, rfl, inn.map (·.1), by simpa using hlen, ?_, ?_⟩
      · have := Sl.mono (L := []) le2 sl
        simpa [Function.comp_def] using this
      · intro i hi
        have hi' : i < inn.length := by omega
        have := hb inn[i] (List.getElem_mem _)
        subst hll
        simpa [List.getD, hi'] using this

theorem number_own (h : PH) (n : Int) : Ct Try.prog 98 #[.int .i64 n] h [] (OwnB 5 (num8 n)) := by
  refine Ct.enter (n := 18) (rs := #[.tmp 2]) Try.func98 rfl rfl rfl (by simp) ?_
  intro E hE
  rw [fr1]
  refine WS.seq fun K1 hK1 => ?_
  refine WS.region_lit ?_
  refine WO.yld (Yld.assign (evo_const _ _)) ?_
  refine WO.nil ?_
  refine hK1 _ _ _ ?_
  clear hK1
  refine WS.seq fun K2 hK2 => ?_
  refine WS.region_lit ?_
  refine WO.yld (Yld.assign (evo_const _ _)) ?_
  refine WO.nil ?_
  refine hK2 _ _ _ ?_
  clear hK2
  refine WS.seq fun K3 hK3 => ?_
  refine WS.seq fun K4 hK4 => ?_
  refine WS.region_lit ?_
  refine WO.yld (Yld.assign (evo_const _ _)) ?_
  refine WO.nil ?_
  refine hK4 _ _ _ ?_
  clear hK4
  refine WS.blk fun X5 hX5 hY5 => ?_
  -- @@ loop
  refine WS.loop (fun m f h' L => ∃ (k : Nat) (so : SV) (junk : List Value), k ≤ 8 ∧ m = 8 - k ∧ Acc so 1 (bc ((num8 n).take k)) junk ∧ L = accL so 5 (bc ((num8 n).take k)) junk ∧ f 0 = .int .i64 n ∧ f 3 = so.v ∧ f 4 = .int .i64 (7 - (k : Int))) 8 ?_ ?_
  · exact ⟨0, SV.nil, [], by omega, rfl, Acc.nil 1, rfl, rfl, rfl, rfl⟩
  · rintro m f h1 _ le1 ⟨k, so, junk, hk, rfl, ac, rfl, f0, f3, f4⟩
    obtain ⟨g, rfl⟩ : ∃ g, f = upd (upd (upd g 0 (.int .i64 n)) 3 so.v) 4 (.int .i64 (7 - (k : Int))) := ⟨f, by rw [upd_id f0, upd_id f3, upd_id f4]⟩
    clear f0 f3 f4
    have hn : so.n = k := by have := ac.len; rw [bc_len, List.length_take, num8_len] at this; omega
    refine WS.seq fun K6 hK6 => ?_
    refine WS.seq fun K7 hK7 => ?_
    refine WS.region_lit ?_
    refine WO.yld (Yld.move EVx) ?_
    refine WO.yld (Yld.geq EVx (evo_const _ _)) ?_
    refine WO.nil ?_
    refine hK7 _ _ _ ?_
    clear hK7
    -- @@ cond t6
    refine WS.cond EVx (fun c1 => ?_) (fun c1 => ?_)
    ·
      have c1 := of_decide_eq_true c1
      refine WS.skip ?_
      refine hK6 _ _ _ ?_
      clear hK6
      refine WS.seq fun K8 hK8 => ?_
      refine WS.blk fun X9 hX9 hY9 => ?_
      refine WS.region_lit ?_
      refine WO.yld (Yld.move EVx) ?_
      refine WO.yld (Yld.move EVx) ?_
      refine WO.yld (Yld.move EVx) ?_
      refine WO.yld (Yld.mul (evo_const _ _) EVx) ?_
      -- @@ op: t13 := shr t10 t12 (T2) : T2   info {10: None, 12: None}
      refine WO.yld (Yld.shr EVx EVx (by rw [wrap_i64 (by omega) (by omega)]; omega)) ?_
      refine WO.yld (Yld.conv EVx) ?_
      -- @@ op: t15 := buildSlice 22 1 [(0, t14)] : T22   info {14: None}
      have hb := u8_wrap (n.fdiv (2 ^ (min (IntKind.i64.wrap (8 * (7 - (k : Int)))).toNat IntKind.i64.bits)))
      rw [← num8_get n k (by omega)] at hb
      rw [hb]
      refine WO.chn rfl (Chn.buildSliceE (sz := 1) (Parts.cons (v := .int .u8 (((num8 n).getD k 0).toNat : Int)) EVx Parts.nil) (List.append_nil _) rfl (by decide) fun b15 => ?_)
      refine WO.chn rfl (Chn.appendLit EVx ac (by rw [List.append_nil]) EVx rfl (ones_one rfl) rfl (by decide) (by omega) (by omega) fun so1 junk2 hn1 ac2 => ?_)
      have hcat : bc ((num8 n).take k) ++ [.int .u8 (((num8 n).getD k 0).toNat : Int)] = bc ((num8 n).take (k + 1)) := by
        rw [take_succ_getD (by rw [num8_len]; omega)]; simp [bc]
      rw [hcat] at ac2 ⊢
      rw [List.append_nil]
      refine WO.yld (Yld.assign EVx) ?_
      refine WO.nil ?_
      refine hK8 _ _ _ ?_
      clear hK8
      refine WS.region_lit ?_
      refine WO.yld (Yld.move EVx) ?_
      refine WO.yld (Yld.sub EVx (evo_const _ _)) ?_
      refine WO.yld (Yld.assign EVx) ?_
      refine WO.nil ?_
      -- @@ loopend
      refine ⟨_, ?_, k + 1, so1, junk2, by omega, rfl, ac2, rfl, rfl, rfl, ?_⟩
      · omega
      · show Value.int .i64 (IntKind.i64.wrap (7 - (k : Int) - 1)) = _
        rw [wrap_i64 (by omega) (by omega)]
        congr 1; omega
    ·
      have c1 := of_decide_eq_false c1
      have hk8 : k = 8 := by omega
      subst hk8
      refine WS.exit (hX5 _ _ _ ?_)
      refine hK3 _ _ _ ?_
      clear hK3
      refine WS.seq fun K8 hK8 => ?_
      refine WS.region_lit ?_
      refine WO.yld (Yld.move EVx) ?_
      refine WO.yld (Yld.assign EVx) ?_
      refine WO.nil ?_
      refine hK8 _ _ _ ?_
      clear hK8
      refine WS.ret ?_
      refine FnEnd.mk (RV.one (RO.tmpE EVx)) ?_
      -- @@ fin
      exact ⟨so, junk, rfl, ac, rfl⟩
theorem number_ok (h : PH) (n : Int) : Ct Try.prog 98 #[.int .i64 n] h [] (fun v h' L' => L' = [] ∧ Bs h' v (num8 n)) := (number_own h n).frzB

theorem take_ok (h : PH) (v : Value) (l : List UInt8) (hv : Bs h v l) (hl : l.length < 1000000000000) :
    Ct Try.prog 97 #[v] h [] (fun v' _ L' => L' = [] ∧ v' = if l.length = 8 then .tuple #[.int .i64 (take8 l), .int .i64 0] else .tuple #[.int .i64 0, .int .i64 3]) := by
  refine Ct.enter (n := 23) (rs := #[.tmp 2, .tmp 3]) Try.func97 rfl rfl rfl (by simp) ?_
  intro E hE
  rw [fr1]
  refine WS.seq fun K1 hK1 => ?_
  refine WS.region_lit ?_
  refine WO.yld (Yld.assign (evo_const _ _)) ?_
  refine WO.yld (Yld.assign (evo_const _ _)) ?_
  refine WO.nil ?_
  refine hK1 _ _ _ ?_
  clear hK1
  refine WS.seq fun K2 hK2 => ?_
  refine WS.seq fun K3 hK3 => ?_
  refine WS.region_lit ?_
  refine WO.yld (Yld.move EVx) ?_
  refine WO.yld (Sl.lenS hv EVx) ?_
  refine WO.yld (Yld.neqI EVx (evo_const _ _)) ?_
  refine WO.nil ?_
  refine hK3 _ _ _ ?_
  clear hK3
  -- @@ cond t9
  refine WS.cond EVx (fun c1 => ?_) (fun c1 => ?_)
  ·
    have c1 : ¬ l.length = 8 := by simp at c1; omega
    rw [if_neg c1]
    refine WS.seq fun K4 hK4 => ?_
    refine WS.region_lit ?_
    refine WO.yld (Yld.assign (evo_const _ _)) ?_
    refine WO.yld (Yld.assign (evo_const _ _)) ?_
    refine WO.nil ?_
    refine hK4 _ _ _ ?_
    clear hK4
    refine WS.ret ?_
    refine FnEnd.mk0 (RV.two (RO.tmpE EVx) (RO.tmpE EVx)) ?_
    -- @@ fin
    exact ⟨rfl, rfl⟩
  ·
    have c1 : l.length = 8 := by simp at c1; omega
    rw [if_pos c1]
    refine WS.skip ?_
    refine hK2 _ _ _ ?_
    clear hK2
    refine WS.seq fun K4 hK4 => ?_
    refine WS.region_lit ?_
    refine WO.yld (Yld.assign (evo_const _ _)) ?_
    refine WO.nil ?_
    refine hK4 _ _ _ ?_
    clear hK4
    refine WS.seq fun K5 hK5 => ?_
    refine WS.seq fun K6 hK6 => ?_
    refine WS.region_lit ?_
    refine WO.yld (Yld.move EVx) ?_
    refine WO.yld (Sl.lenS hv EVx) ?_
    refine WO.yld (Yld.move (evo_const _ _)) ?_
    refine WO.nil ?_
    refine hK6 _ _ _ ?_
    clear hK6
    refine WS.blk fun X7 hX7 hY7 => ?_
    -- @@ loop
    refine WS.loop (fun m f h' L => h' = h ∧ L = [] ∧ ∃ k : Nat, k ≤ 8 ∧ m = 8 - k ∧ f 10 = v ∧ f 11 = .int .i64 8 ∧ f 12 = .int .i64 k ∧ f 4 = .int .i64 (take8 (l.take k))) 8 ?_ ?_
    · refine ⟨rfl, rfl, 0, by omega, rfl, rfl, ?_, rfl, ?_⟩
      · show Value.int .i64 (l.length : Int) = _
        rw [c1]; rfl
      · rfl
    · rintro m f h _ _ ⟨rfl, rfl, k, hk, rfl, f10, f11, f12, f4⟩
      obtain ⟨g, rfl⟩ : ∃ g, f = upd (upd (upd (upd g 10 v) 11 (.int .i64 8)) 12 (.int .i64 k)) 4 (.int .i64 (take8 (l.take k))) := ⟨f, by rw [upd_id f10, upd_id f11, upd_id f12, upd_id f4]⟩
      clear f10 f11 f12 f4
      refine WS.seq fun K8 hK8 => ?_
      refine WS.region_lit ?_
      refine WO.yld (Yld.lss EVx EVx) ?_
      refine WO.nil ?_
      refine hK8 _ _ _ ?_
      clear hK8
      refine WS.seq fun K9 hK9 => ?_
      -- @@ cond t13
      refine WS.cond EVx (fun c2 => ?_) (fun c2 => ?_)
      ·
        have c2 := of_decide_eq_true c2
        refine WS.skip ?_
        refine hK9 _ _ _ ?_
        clear hK9
        refine WS.seq fun K10 hK10 => ?_
        refine WS.blk fun X11 hX11 hY11 => ?_
        refine WS.seq fun K12 hK12 => ?_
        refine WS.region_lit ?_
        refine WO.yld (Sl.indexN hv EVx EVx (by first | omega | decide | simp)) ?_
        refine WO.yld (Bs.load hv EVx (by first | omega | decide | simp)) ?_
        refine WO.yld (Yld.assign EVx) ?_
        refine WO.nil ?_
        refine hK12 _ _ _ ?_
        clear hK12
        refine WS.region_lit ?_
        refine WO.yld (Yld.move EVx) ?_
        refine WO.yld (Yld.shl EVx (evo_const _ _) (by decide)) ?_
        refine WO.yld (Yld.move EVx) ?_
        refine WO.yld (Yld.conv EVx) ?_
        refine WO.yld (Yld.bits_or EVx EVx) ?_
        refine WO.yld (Yld.assign EVx) ?_
        refine WO.nil ?_
        refine hK10 _ _ _ ?_
        clear hK10
        refine WS.region_lit ?_
        refine WO.yld (Yld.add EVx (evo_const _ _)) ?_
        refine WO.yld (Yld.move EVx) ?_
        refine WO.nil ?_
        -- @@ loopend
        rw [take8, shl_or, ← nat8_snoc, ← take_succ_getD (by omega)]
        -- @@ loopend
        refine ⟨_, ?_, rfl, rfl, k + 1, by omega, rfl, rfl, rfl, ?_, rfl⟩
        · omega
        · show Value.int .i64 (IntKind.i64.wrap (k + 1)) = _
          rw [wrap_i64 (by omega) (by omega)]; rfl
      ·
        have c2 := of_decide_eq_false c2
        have : k = 8 := by omega
        subst this
        have e : l.take 8 = l := by rw [← c1, List.take_length]
        rw [e]
        refine WS.exit (hX7 _ _ _ ?_)
        refine hK5 _ _ _ ?_
        clear hK5
        refine WS.seq fun K10 hK10 => ?_
        refine WS.region_lit ?_
        refine WO.yld (Yld.move EVx) ?_
        refine WO.yld (Yld.assign EVx) ?_
        refine WO.yld (Yld.assign (evo_const _ _)) ?_
        refine WO.nil ?_
        refine hK10 _ _ _ ?_
        clear hK10
        refine WS.ret ?_
        refine FnEnd.mk0 (RV.two (RO.tmpE EVx) (RO.tmpE EVx)) ?_
        -- @@ fin
        exact ⟨rfl, (if_pos c1).symm⟩
end Go.Proofs
