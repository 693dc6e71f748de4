/- FieldOwn. Conditions: the bytes can be read. -/
import Derived.Test.YtijlkjbmjkmkfaaF7
namespace Go.Proofs
open Go Go.Bz

theorem Sl.load1H {P : Program} {f : Fr} {h : PH} {L : OL} {ty t : TypeId} {x : Operand} [TI P t false 1] {sz n : Nat} {v : Value} {vs : List Value} (s : Sl h [] sz v n vs) {k : Nat} (hx : evo f x = elp v k) {u : Value} (hu : vs[k]? = some u) :
    Yld P f h L (.load t x) ty u := Sl.load1 (L := L) (Sl.mono (PH.le_refl _) s) hx hu
theorem Acc.set {s : SV} {cur : List UInt8} {junk : List Value} (ac : Bz.Acc s 1 (bc cur) junk) (k : Nat) (c : UInt8) : Bz.Acc s 1 (bc (cur.set k c)) junk := by
  have hl : (bc (cur.set k c)).length = (bc cur).length := by simp [bc_len]
  refine ⟨by rw [hl]; exact ac.len, ?_⟩
  rcases ac.a with ⟨h1, h2⟩ | ⟨b, h1, h2, h3, h4⟩
  · exact .inl ⟨h1, h2⟩
  · exact .inr ⟨b, h1, h2, h3, by rw [List.length_append, hl, ← List.length_append]; exact h4⟩
theorem Yld.indexOwn {P : Program} {f : Fr} {h : PH} {L : OL} {ty t e : TypeId} {x y : Operand} [T : TSl P t e] [I : TI P e false 1] {b k m c : Nat} {kd : IntKind} (hx : evo f x = (SV.mk (some ⟨b, 0, none⟩) m c).v) (hy : evo f y = .int kd (k : Int)) (h1 : k < m) :
    Yld P f h L (.indexAddr t x y) ty (.pointer (some ⟨b, k, none⟩)) := by
  have := Yld.indexAddrS (P := P) (h := h) (L := L) (t := t) (ty := ty) hx hy (by omega) (by show (k : Int) < (m : Int); omega)
  simpa using this
theorem cells_cur {h : PH} {L : OL} {b k : Nat} {cur : List UInt8} {junk : List Value} {e : TypeId} (hk : k < cur.length) : Cells h ((b, .cells (bc cur ++ junk).toArray e) :: L) b k [.int .u8 ((cur.getD k 0).toNat : Int)] := by
  refine ⟨_, e, _, fun _ => At.head, by simp [bc_len]; omega, ?_⟩
  have h1 : (bc cur ++ junk)[k]? = some (.int .u8 ((cur.getD k 0).toNat : Int)) := by rw [List.getElem?_append_left (by rw [bc_len]; exact hk)]; exact bc_get hk
  obtain ⟨h2, h3⟩ := List.getElem?_eq_some_iff.1 h1
  show ((bc cur ++ junk).drop k).take 1 = _
  rw [List.drop_eq_getElem_cons h2, h3]
  rfl
theorem inn_two {l : List UInt8} {inn : Inn} (h : inn.map (·.2.1) = [l, l]) (hall : AccAll inn) : ∃ s0 j0 s1 j1, inn.map (fun p => p.1.v) = [s0.v, s1.v] ∧ Acc s0 1 (bc l) j0 ∧ Acc s1 1 (bc l) j1 ∧ ∀ e, innL e inn = accL s0 e (bc l) j0 ++ accL s1 e (bc l) j1 := by
  match inn, h with
  | [], h => simp at h
  | [_], h => simp at h
  | _ :: _ :: _ :: _, h => simp at h
  | [p, q], h =>
    simp only [List.map_cons, List.map_nil, List.cons.injEq, and_true] at h
    refine ⟨p.1, p.2.2, q.1, q.2.2, rfl, h.1 ▸ hall p (by simp), h.2 ▸ hall q (by simp), fun e => ?_⟩
    rw [← h.1]
    have : q.2.1 = p.2.1 := by rw [h.1, h.2]
    simp [innL, this]
theorem spl_set (cur : List UInt8) (junk : List Value) (k : Nat) (c : UInt8) (hk : k < cur.length) : spl (bc cur ++ junk) k [.int .u8 (c.toNat : Int)] = bc (cur.set k c) ++ junk := by
  unfold spl
  rw [List.take_append_of_le_length (by rw [bc_len]; omega), List.drop_append_of_le_length (by rw [bc_len]; simp; omega), List.set_eq_take_append_cons_drop, if_pos hk]
  simp [bc, List.map_take, List.map_drop]
theorem fieldOwn_ok (h : PH) (v : Value) (l : List UInt8) (hv : Bs h v l) :
    Ct Try.prog 3 #[v] h [] (fun r _ _ => r = .bool true) := by
  obtain ⟨sv, rfl, _⟩ := Sl.sv hv
  refine Ct.enter (n := 90) (rs := #[.tmp 2]) Try.func3 rfl rfl rfl (by simp) ?_
  intro E hE
  refine WS.seq fun K1 hK1 => ?_
  refine WS.region_lit ?_
  refine WO.yld (Yld.assign (evo_const _ _)) ?_
  refine WO.nil ?_
  refine hK1 _ _ _ ?_
  clear hK1
  refine WS.seq fun K2 hK2 => ?_
  refine WS.region_lit ?_
  -- @@ op: t13 := CALL F18[] ty[] : T4   info {}
  refine WO.chn rfl (Chn.call (evo_func _ _) (by simp only [List.map_toArray, List.map, evo, upd, ↓reduceIte, Nat.reduceEqDiff] <;> rfl) (awake_ok _) rfl ?_)
  rintro v1 h1 L1 le1 ⟨rfl, rfl⟩
  refine WO.yld (Yld.assign (by (repeat' (first | refine' evo_there (by rfl) ?_ | exact evo_here _ _ _)) <;> (try ((try simp only [evo, upd, ↓reduceIte, Nat.reduceEqDiff]) <;> rfl)))) ?_
  refine WO.nil ?_
  refine hK2 _ _ _ ?_
  clear hK2
  refine WS.seq fun K3 hK3 => ?_
  refine WS.seq fun K4 hK4 => ?_
  refine WS.region_lit ?_
  refine WO.yld (Yld.move (by (repeat' (first | refine' evo_there (by rfl) ?_ | exact evo_here _ _ _)) <;> (try ((try simp only [evo, upd, ↓reduceIte, Nat.reduceEqDiff]) <;> rfl)))) ?_
  refine WO.yld (Sl.lenS hv (by (repeat' (first | refine' evo_there (by rfl) ?_ | exact evo_here _ _ _)) <;> (try ((try simp only [evo, upd, ↓reduceIte, Nat.reduceEqDiff]) <;> rfl)))) ?_
  refine WO.yld (Yld.gtr (by (repeat' (first | refine' evo_there (by rfl) ?_ | exact evo_here _ _ _)) <;> (try ((try simp only [evo, upd, ↓reduceIte, Nat.reduceEqDiff]) <;> rfl))) (evo_const _ _)) ?_
  refine WO.nil ?_
  refine hK4 _ _ _ ?_
  clear hK4
  -- @@ cond t16
  refine WS.cond (by (repeat' (first | refine' evo_there (by rfl) ?_ | exact evo_here _ _ _)) <;> (try ((try simp only [evo, upd, ↓reduceIte, Nat.reduceEqDiff]) <;> rfl))) (fun c1 => ?_) (fun c1 => ?_)
  ·
    refine WS.seq fun K5 hK5 => ?_
    refine WS.region_lit ?_
    refine WO.yld (Yld.move (by (repeat' (first | refine' evo_there (by rfl) ?_ | exact evo_here _ _ _)) <;> (try ((try simp only [evo, upd, ↓reduceIte, Nat.reduceEqDiff]) <;> rfl)))) ?_
    refine WO.yld (Yld.assign (by (repeat' (first | refine' evo_there (by rfl) ?_ | exact evo_here _ _ _)) <;> (try ((try simp only [evo, upd, ↓reduceIte, Nat.reduceEqDiff]) <;> rfl)))) ?_
    refine WO.nil ?_
    refine hK5 _ _ _ ?_
    clear hK5
    refine WS.ret ?_
    refine FnEnd.mk0 (RV.one (RO.tmp (by (repeat' (first | refine' evo_there (by rfl) ?_ | exact evo_here _ _ _)) <;> (try ((try simp only [evo, upd, ↓reduceIte, Nat.reduceEqDiff]) <;> rfl))))) ?_
    -- @@ fin
    rfl
  ·
    have c1 : l.length ≤ 500 := by simp at c1; omega
    refine WS.skip ?_
    refine hK3 _ _ _ ?_
    clear hK3
    refine WS.seq fun K5 hK5 => ?_
    refine WS.region_lit ?_
    refine WO.yld (Yld.move (by (repeat' (first | refine' evo_there (by rfl) ?_ | exact evo_here _ _ _)) <;> (try ((try simp only [evo, upd, ↓reduceIte, Nat.reduceEqDiff]) <;> rfl)))) ?_
    refine WO.yld (Yld.move (by (repeat' (first | refine' evo_there (by rfl) ?_ | exact evo_here _ _ _)) <;> (try ((try simp only [evo, upd, ↓reduceIte, Nat.reduceEqDiff]) <;> rfl)))) ?_
    -- @@ op: t21 := buildSlice 27 2 [(0, t19), (1, t20)] : T27   info {19: {'k': 'sl', 'f': 'hv', 'bs': True}, 20: {'k': 'sl', 'f': 'hv', 'bs': True}}
    have hv1 := hv.mono le1
    refine WO.chn rfl (Chn.buildAcc (sz := 1) (Parts.cons (v := sv.v) (by (repeat' (first | refine' evo_there (by rfl) ?_ | exact evo_here _ _ _)) <;> (try ((try simp only [evo, upd, ↓reduceIte, Nat.reduceEqDiff]) <;> rfl))) (Parts.cons (v := sv.v) (by (repeat' (first | refine' evo_there (by rfl) ?_ | exact evo_here _ _ _)) <;> (try ((try simp only [evo, upd, ↓reduceIte, Nat.reduceEqDiff]) <;> rfl))) Parts.nil)) rfl (by decide) (by decide) fun s2 hn2 ac2 => ?_)
    refine WO.freezeAcc ac2 rfl fun h2 le2 sl2 => ?_
    rw [hn2] at sl2
    have hv2 := hv1.mono le2
    have rs := rs_two sl2 hv2 hv2
    refine WO.chn rfl (Chn.call (evo_func _ _) (by simp only [List.map_toArray, List.map, evo, upd, ↓reduceIte, Nat.reduceEqDiff] <;> rfl) (put_ok _ _ _ rs) rfl ?_)
    rintro v3 h3 L3 le3 ⟨rfl, sb, rfl, hx⟩
    have hfp : fput [l, l] = some (encs [l, l]) := by
      rw [fput, if_pos]; exact ⟨by simp, by simp [c1]⟩
    rw [hfp] at hx ⊢
    simp only [Option.isSome_some, if_true, Option.getD_some] at hx ⊢
    have hen : (encs [l, l]).length ≤ 1004 := by have := encs_len [l, l] (by simp [c1]); simpa using this
    refine WO.yld (Yld.move (by (repeat' (first | refine' evo_there (by rfl) ?_ | exact evo_here _ _ _)) <;> (try ((try simp only [evo, upd, ↓reduceIte, Nat.reduceEqDiff]) <;> rfl)))) ?_
    refine WO.yld (Yld.ext0 (by (repeat' (first | refine' evo_there (by rfl) ?_ | exact evo_here _ _ _)) <;> (try ((try simp only [evo, upd, ↓reduceIte, Nat.reduceEqDiff]) <;> rfl)))) ?_
    refine WO.yld (Yld.ext1 (by (repeat' (first | refine' evo_there (by rfl) ?_ | exact evo_here _ _ _)) <;> (try ((try simp only [evo, upd, ↓reduceIte, Nat.reduceEqDiff]) <;> rfl)))) ?_
    refine WO.yld (Yld.assign (by (repeat' (first | refine' evo_there (by rfl) ?_ | exact evo_here _ _ _)) <;> (try ((try simp only [evo, upd, ↓reduceIte, Nat.reduceEqDiff]) <;> rfl)))) ?_
    refine WO.yld (Yld.assign (by (repeat' (first | refine' evo_there (by rfl) ?_ | exact evo_here _ _ _)) <;> (try ((try simp only [evo, upd, ↓reduceIte, Nat.reduceEqDiff]) <;> rfl)))) ?_
    refine WO.nil ?_
    refine hK5 _ _ _ ?_
    clear hK5
    refine WS.seq fun K6 hK6 => ?_
    refine WS.region_lit ?_
    refine WO.yld (Yld.move (by (repeat' (first | refine' evo_there (by rfl) ?_ | exact evo_here _ _ _)) <;> (try ((try simp only [evo, upd, ↓reduceIte, Nat.reduceEqDiff]) <;> rfl)))) ?_
    -- @@ op: t27 := CALL F20[t26] ty[22] : T28   info {26: None}
    refine WO.chn rfl (Chn.call (evo_func _ _) (by simp only [List.map_toArray, List.map, evo, upd, ↓reduceIte, Nat.reduceEqDiff] <;> rfl) (split_own _ _ _ hx (by omega)) rfl ?_)
    rintro v4 h4 L4 le4 r4
    have hsp : fsplit 0 (encs [l, l]) = .ok [l, l] := fsplit_encs [l, l] 0 (by simp) (by simp [c1])
    rw [hsp] at r4
    obtain ⟨s4, inn, rfl, hinn, hall, hsl, rfl⟩ := r4
    obtain ⟨s0, j0, s1, j1, hmap, ac0, ac1, hLL⟩ := inn_two hinn hall
    rw [hmap] at hsl
    rw [hLL, List.append_nil]
    refine WO.perm List.perm_append_comm ?_
    refine WO.freezeAcc ac1 rfl fun h5 le5 sl5 => ?_
    have hsl5 := Sl.mono (L := []) le5 hsl
    have hn0 : s0.n = l.length := by have := ac0.len; rw [bc_len] at this; omega
    have hn1 : s1.n = l.length := by have := ac1.len; rw [bc_len] at this; omega
    rw [hn1] at sl5
    have hb1 : Bs h5 s1.v l := sl5
    have hx5 := hx.mono (PH.le_trans le4 le5)
    have hv5 := hv2.mono (PH.le_trans le3 (PH.le_trans le4 le5))
    refine WO.yld (Yld.move (by (repeat' (first | refine' evo_there (by rfl) ?_ | exact evo_here _ _ _)) <;> (try ((try simp only [evo, upd, ↓reduceIte, Nat.reduceEqDiff]) <;> rfl)))) ?_
    refine WO.yld (Yld.ext0 (by (repeat' (first | refine' evo_there (by rfl) ?_ | exact evo_here _ _ _)) <;> (try ((try simp only [evo, upd, ↓reduceIte, Nat.reduceEqDiff]) <;> rfl)))) ?_
    refine WO.yld (Yld.ext1 (by (repeat' (first | refine' evo_there (by rfl) ?_ | exact evo_here _ _ _)) <;> (try ((try simp only [evo, upd, ↓reduceIte, Nat.reduceEqDiff]) <;> rfl)))) ?_
    refine WO.yld (Yld.assign (by (repeat' (first | refine' evo_there (by rfl) ?_ | exact evo_here _ _ _)) <;> (try ((try simp only [evo, upd, ↓reduceIte, Nat.reduceEqDiff]) <;> rfl)))) ?_
    refine WO.yld (Yld.assign (by (repeat' (first | refine' evo_there (by rfl) ?_ | exact evo_here _ _ _)) <;> (try ((try simp only [evo, upd, ↓reduceIte, Nat.reduceEqDiff]) <;> rfl)))) ?_
    refine WO.nil ?_
    refine hK6 _ _ _ ?_
    clear hK6
    refine WS.seq fun K7 hK7 => ?_
    refine WS.seq fun K8 hK8 => ?_
    refine WS.region_lit ?_
    refine WO.yld (Yld.move (by (repeat' (first | refine' evo_there (by rfl) ?_ | exact evo_here _ _ _)) <;> (try ((try simp only [evo, upd, ↓reduceIte, Nat.reduceEqDiff]) <;> rfl)))) ?_
    refine WO.yld (Yld.neqI (by (repeat' (first | refine' evo_there (by rfl) ?_ | exact evo_here _ _ _)) <;> (try ((try simp only [evo, upd, ↓reduceIte, Nat.reduceEqDiff]) <;> rfl))) (evo_const _ _)) ?_
    refine WO.yld (Yld.move (by (repeat' (first | refine' evo_there (by rfl) ?_ | exact evo_here _ _ _)) <;> (try ((try simp only [evo, upd, ↓reduceIte, Nat.reduceEqDiff]) <;> rfl)))) ?_
    -- @@ guard on slot 32: declare it (%guard 32 true|false PROOF)
    refine WO.yes rfl (by decide) (Eq.trans (by (repeat' (first | refine' evo_there (by rfl) ?_ | exact evo_here _ _ _)) <;> (try ((try simp only [evo, upd, ↓reduceIte, Nat.reduceEqDiff]) <;> rfl))) (congrArg Value.bool (rfl))) ?_
    refine WO.yld (Yld.move (by (repeat' (first | refine' evo_there (by rfl) ?_ | exact evo_here _ _ _)) <;> (try ((try simp only [evo, upd, ↓reduceIte, Nat.reduceEqDiff]) <;> rfl)))) ?_
    refine WO.yes rfl (by decide) (Eq.trans (by (repeat' (first | refine' evo_there (by rfl) ?_ | exact evo_here _ _ _)) <;> (try ((try simp only [evo, upd, ↓reduceIte, Nat.reduceEqDiff]) <;> rfl))) (congrArg Value.bool (rfl))) ?_
    refine WO.yld (Yld.neqI (by (repeat' (first | refine' evo_there (by rfl) ?_ | exact evo_here _ _ _)) <;> (try ((try simp only [evo, upd, ↓reduceIte, Nat.reduceEqDiff]) <;> rfl))) (evo_const _ _)) ?_
    refine WO.yld (Yld.pick_f (Eq.trans (by (repeat' (first | refine' evo_there (by rfl) ?_ | exact evo_here _ _ _)) <;> (try ((try simp only [evo, upd, ↓reduceIte, Nat.reduceEqDiff]) <;> rfl))) (congrArg Value.bool (rfl))) (by (repeat' (first | refine' evo_there (by rfl) ?_ | exact evo_here _ _ _)) <;> (try ((try simp only [evo, upd, ↓reduceIte, Nat.reduceEqDiff]) <;> rfl)))) ?_
    refine WO.yld (Yld.move (by (repeat' (first | refine' evo_there (by rfl) ?_ | exact evo_here _ _ _)) <;> (try ((try simp only [evo, upd, ↓reduceIte, Nat.reduceEqDiff]) <;> rfl)))) ?_
    refine WO.yes rfl (by decide) (Eq.trans (by (repeat' (first | refine' evo_there (by rfl) ?_ | exact evo_here _ _ _)) <;> (try ((try simp only [evo, upd, ↓reduceIte, Nat.reduceEqDiff]) <;> rfl))) (congrArg Value.bool (rfl))) ?_
    refine WO.yld (Yld.move (by (repeat' (first | refine' evo_there (by rfl) ?_ | exact evo_here _ _ _)) <;> (try ((try simp only [evo, upd, ↓reduceIte, Nat.reduceEqDiff]) <;> rfl)))) ?_
    refine WO.yes rfl (by decide) (Eq.trans (by (repeat' (first | refine' evo_there (by rfl) ?_ | exact evo_here _ _ _)) <;> (try ((try simp only [evo, upd, ↓reduceIte, Nat.reduceEqDiff]) <;> rfl))) (congrArg Value.bool (rfl))) ?_
    refine WO.yld (Sl.lenS hsl5 (by (repeat' (first | refine' evo_there (by rfl) ?_ | exact evo_here _ _ _)) <;> (try ((try simp only [evo, upd, ↓reduceIte, Nat.reduceEqDiff]) <;> rfl)))) ?_
    refine WO.yes rfl (by decide) (Eq.trans (by (repeat' (first | refine' evo_there (by rfl) ?_ | exact evo_here _ _ _)) <;> (try ((try simp only [evo, upd, ↓reduceIte, Nat.reduceEqDiff]) <;> rfl))) (congrArg Value.bool (rfl))) ?_
    refine WO.yld (Yld.neqI (by (repeat' (first | refine' evo_there (by rfl) ?_ | exact evo_here _ _ _)) <;> (try ((try simp only [evo, upd, ↓reduceIte, Nat.reduceEqDiff]) <;> rfl))) (evo_const _ _)) ?_
    refine WO.yld (Yld.pick_f (Eq.trans (by (repeat' (first | refine' evo_there (by rfl) ?_ | exact evo_here _ _ _)) <;> (try ((try simp only [evo, upd, ↓reduceIte, Nat.reduceEqDiff]) <;> rfl))) (congrArg Value.bool (rfl))) (by (repeat' (first | refine' evo_there (by rfl) ?_ | exact evo_here _ _ _)) <;> (try ((try simp only [evo, upd, ↓reduceIte, Nat.reduceEqDiff]) <;> rfl)))) ?_
    refine WO.nil ?_
    refine hK8 _ _ _ ?_
    clear hK8
    -- @@ cond t40
    refine WS.cond (t := false) (by (repeat' (first | refine' evo_there (by rfl) ?_ | exact evo_here _ _ _)) <;> (try ((try simp only [evo, upd, ↓reduceIte, Nat.reduceEqDiff]) <;> rfl))) (fun c => by cases c) (fun _ => ?_)
    refine WS.skip ?_
    refine hK7 _ _ _ ?_
    clear hK7
    refine WS.seq fun K9 hK9 => ?_
    refine WS.seq fun K10 hK10 => ?_
    refine WS.region_lit ?_
    refine WO.yld (Yld.assign (evo_const _ _)) ?_
    refine WO.nil ?_
    refine hK10 _ _ _ ?_
    clear hK10
    refine WS.blk fun X11 hX11 hY11 => ?_
    -- @@ loop
    clear ac1
    refine WS.loop (fun m f h' L => h' = h5 ∧ ∃ (k : Nat) (cur : List UInt8), cur.length = l.length ∧ k ≤ l.length ∧ m = l.length - k ∧ Acc s0 1 (bc cur) j0 ∧ L = accL s0 5 (bc cur) j0 ∧ f 0 = sv.v ∧ f 3 = .bool true ∧ f 4 = sb.v ∧ f 6 = s4.v ∧ f 8 = .int .i64 k) (l.length) ?_ ?_
    · exact ⟨rfl, 0, l, rfl, by omega, by omega, ac0, rfl, rfl, rfl, rfl, rfl, rfl⟩
    · rintro m f h L le6 ⟨rfl, k, cur, hcur, hk, rfl, ac, rfl, f0, f3, f4, f6, f8⟩
      obtain ⟨g, rfl⟩ : ∃ g, f = upd (upd (upd (upd (upd g 0 sv.v) 3 (.bool true)) 4 sb.v) 6 s4.v) 8 (.int .i64 k) := ⟨f, by rw [upd_id f0, upd_id f3, upd_id f4, upd_id f6, upd_id f8]⟩
      clear f0 f3 f4 f6 f8
      refine WS.seq fun K12 hK12 => ?_
      refine WS.seq fun K13 hK13 => ?_
      refine WS.region_lit ?_
      refine WO.yld (Yld.move (by (repeat' (first | refine' evo_there (by rfl) ?_ | exact evo_here _ _ _)) <;> (try ((try simp only [evo, upd, ↓reduceIte, Nat.reduceEqDiff]) <;> rfl)))) ?_
      refine WO.yld (Yld.move (by (repeat' (first | refine' evo_there (by rfl) ?_ | exact evo_here _ _ _)) <;> (try ((try simp only [evo, upd, ↓reduceIte, Nat.reduceEqDiff]) <;> rfl)))) ?_
      refine WO.yld (Sl.indexL 0 hsl5 (by (repeat' (first | refine' evo_there (by rfl) ?_ | exact evo_here _ _ _)) <;> (try ((try simp only [evo, upd, ↓reduceIte, Nat.reduceEqDiff]) <;> rfl))) rfl rfl (by first | omega | decide | simp)) ?_
      -- @@ op: t44 := load 22 t43 : T22   info {43: {'k': 'elp', 'f': 'hsl5', 'bs': False}}
      refine WO.yld (Sl.load1H hsl5 (by (repeat' (first | refine' evo_there (by rfl) ?_ | exact evo_here _ _ _)) <;> (try ((try simp only [evo, upd, ↓reduceIte, Nat.reduceEqDiff]) <;> rfl))) rfl) ?_
      refine WO.yld (Yld.lenS (by (repeat' (first | refine' evo_there (by rfl) ?_ | exact evo_here _ _ _)) <;> (try ((try simp only [evo, upd, ↓reduceIte, Nat.reduceEqDiff]) <;> rfl)))) ?_
      refine WO.yld (Yld.lss (by (repeat' (first | refine' evo_there (by rfl) ?_ | exact evo_here _ _ _)) <;> (try ((try simp only [evo, upd, ↓reduceIte, Nat.reduceEqDiff]) <;> rfl))) (by (repeat' (first | refine' evo_there (by rfl) ?_ | exact evo_here _ _ _)) <;> (try ((try simp only [evo, upd, ↓reduceIte, Nat.reduceEqDiff]) <;> rfl)))) ?_
      refine WO.nil ?_
      refine hK13 _ _ _ ?_
      clear hK13
      -- @@ cond t46
      refine WS.cond (by (repeat' (first | refine' evo_there (by rfl) ?_ | exact evo_here _ _ _)) <;> (try ((try simp only [evo, upd, ↓reduceIte, Nat.reduceEqDiff]) <;> rfl))) (fun c2 => ?_) (fun c2 => ?_)
      ·
        have c2 : k < l.length := by have := of_decide_eq_true c2; omega
        obtain ⟨b0, hb0⟩ : ∃ b0, s0 = ⟨some ⟨b0, 0, none⟩, s0.n, s0.c⟩ := by
          rcases ac.a with ⟨rfl, _⟩ | ⟨b, hb, _⟩
          · have : SV.nil.n = 0 := rfl
            omega
          · exact ⟨b, by rw [← hb]⟩
        generalize s0.n = n0 at *
        generalize s0.c = cc0 at *
        subst hb0
        have hacc : accL (SV.mk (some ⟨b0, 0, none⟩) n0 cc0) 5 (bc cur) j0 = [(b0, .cells (bc cur ++ j0).toArray 5)] := rfl
        rw [hacc]
        refine WS.skip ?_
        refine hK12 _ _ _ ?_
        clear hK12
        refine WS.seq fun K14 hK14 => ?_
        refine WS.blk fun X15 hX15 hY15 => ?_
        refine WS.draw [12] [(0, 2), (1, 2), (2, 1), (3, 2), (4, 2), (5, 2), (6, 1), (7, 2), (8, 2), (9, 1), (10, 2), (11, 2), (12, 0)] _ (by kernel_rfl) (by kernel_rfl) (by decide) (fun _ hm => hm) ?_
        refine WPl.wl rfl (Yld.move (by (repeat' (first | refine' evo_there (by rfl) ?_ | exact evo_here _ _ _)) <;> (try ((try simp only [evo, upd, ↓reduceIte, Nat.reduceEqDiff]) <;> rfl)))) ?_
        refine WPl.wl rfl (Sl.indexL 0 hsl5 (by (repeat' (first | refine' evo_there (by rfl) ?_ | exact evo_here _ _ _)) <;> (try ((try simp only [evo, upd, ↓reduceIte, Nat.reduceEqDiff]) <;> rfl))) rfl rfl (by first | omega | decide | simp)) ?_
        -- @@ op: t51 := load 22 t50 : T22   info {50: {'k': 'elp', 'f': 'hsl5', 'bs': False}}
        refine WPl.rd rfl (Sl.load1H hsl5 (by (repeat' (first | refine' evo_there (by rfl) ?_ | exact evo_here _ _ _)) <;> (try ((try simp only [evo, upd, ↓reduceIte, Nat.reduceEqDiff]) <;> rfl))) rfl) ?_
        refine WPl.wl rfl (Yld.move (by (repeat' (first | refine' evo_there (by rfl) ?_ | exact evo_here _ _ _)) <;> (try ((try simp only [evo, upd, ↓reduceIte, Nat.reduceEqDiff]) <;> rfl)))) ?_
        refine WPl.wl rfl (Yld.move (by (repeat' (first | refine' evo_there (by rfl) ?_ | exact evo_here _ _ _)) <;> (try ((try simp only [evo, upd, ↓reduceIte, Nat.reduceEqDiff]) <;> rfl)))) ?_
        refine WPl.wl rfl (Sl.indexL 0 hsl5 (by (repeat' (first | refine' evo_there (by rfl) ?_ | exact evo_here _ _ _)) <;> (try ((try simp only [evo, upd, ↓reduceIte, Nat.reduceEqDiff]) <;> rfl))) rfl rfl (by first | omega | decide | simp)) ?_
        -- @@ op: t55 := load 22 t54 : T22   info {54: {'k': 'elp', 'f': 'hsl5', 'bs': False}}
        refine WPl.rd rfl (Sl.load1H hsl5 (by (repeat' (first | refine' evo_there (by rfl) ?_ | exact evo_here _ _ _)) <;> (try ((try simp only [evo, upd, ↓reduceIte, Nat.reduceEqDiff]) <;> rfl))) rfl) ?_
        refine WPl.wl rfl (Yld.move (by (repeat' (first | refine' evo_there (by rfl) ?_ | exact evo_here _ _ _)) <;> (try ((try simp only [evo, upd, ↓reduceIte, Nat.reduceEqDiff]) <;> rfl)))) ?_
        -- @@ op: t57 := indexAddr 22 t55 t56 : T0   info {55: None, 56: None}
        refine WPl.wl rfl (Yld.indexOwn (by (repeat' (first | refine' evo_there (by rfl) ?_ | exact evo_here _ _ _)) <;> (try ((try simp only [evo, upd, ↓reduceIte, Nat.reduceEqDiff]) <;> rfl))) (by (repeat' (first | refine' evo_there (by rfl) ?_ | exact evo_here _ _ _)) <;> (try ((try simp only [evo, upd, ↓reduceIte, Nat.reduceEqDiff]) <;> rfl))) (by omega)) ?_
        -- @@ op: t58 := load 5 t57 : T5   info {57: None}
        refine WPl.rd rfl (Yld.load1 (by (repeat' (first | refine' evo_there (by rfl) ?_ | exact evo_here _ _ _)) <;> (try ((try simp only [evo, upd, ↓reduceIte, Nat.reduceEqDiff]) <;> rfl))) (cells_cur (by omega))) ?_
        refine WPl.wl rfl (Yld.bits_xor (by (repeat' (first | refine' evo_there (by rfl) ?_ | exact evo_here _ _ _)) <;> (try ((try simp only [evo, upd, ↓reduceIte, Nat.reduceEqDiff]) <;> rfl))) (evo_const _ _)) ?_
        -- @@ op: t60 := indexAddr 22 t51 t52 : T0   info {51: None, 52: None}
        obtain ⟨c, hc⟩ : ∃ c : UInt8, IntKind.u8.wrap ((BitVec.ofInt IntKind.u8.bits ((cur.getD k 0).toNat : Int) ^^^ BitVec.ofInt IntKind.u8.bits 255).toNat : Int) = (c.toNat : Int) := ⟨_, u8_wrap _⟩
        rw [hc]
        refine WPl.wl rfl (Yld.indexOwn (by (repeat' (first | refine' evo_there (by rfl) ?_ | exact evo_here _ _ _)) <;> (try ((try simp only [evo, upd, ↓reduceIte, Nat.reduceEqDiff]) <;> rfl))) (by (repeat' (first | refine' evo_there (by rfl) ?_ | exact evo_here _ _ _)) <;> (try ((try simp only [evo, upd, ↓reduceIte, Nat.reduceEqDiff]) <;> rfl))) (by omega)) ?_
        -- @@ op: store 5 t60 t59 : T0   info {60: None, 59: None}
        refine WPl.chn rfl (Chn.store (vs := [.int .u8 (c.toNat : Int)]) (cs := bc cur ++ j0) (by (repeat' (first | refine' evo_there (by rfl) ?_ | exact evo_here _ _ _)) <;> (try ((try simp only [evo, upd, ↓reduceIte, Nat.reduceEqDiff]) <;> rfl))) (by (repeat' (first | refine' evo_there (by rfl) ?_ | exact evo_here _ _ _)) <;> (try ((try simp only [evo, upd, ↓reduceIte, Nat.reduceEqDiff]) <;> rfl))) rfl rfl (ones_one rfl) Put.head (by simp [bc_len]; omega) ⟨.inl rfl, ?_⟩)
        rw [spl_set _ _ _ _ (by omega)]
        refine WPl.nil ?_
        refine hK14 _ _ _ ?_
        clear hK14
        refine WS.region_lit ?_
        refine WO.yld (Yld.move (by (repeat' (first | refine' evo_there (by rfl) ?_ | exact evo_here _ _ _)) <;> (try ((try simp only [evo, upd, ↓reduceIte, Nat.reduceEqDiff]) <;> rfl)))) ?_
        refine WO.yld (Yld.add (by (repeat' (first | refine' evo_there (by rfl) ?_ | exact evo_here _ _ _)) <;> (try ((try simp only [evo, upd, ↓reduceIte, Nat.reduceEqDiff]) <;> rfl))) (evo_const _ _)) ?_
        refine WO.yld (Yld.assign (by (repeat' (first | refine' evo_there (by rfl) ?_ | exact evo_here _ _ _)) <;> (try ((try simp only [evo, upd, ↓reduceIte, Nat.reduceEqDiff]) <;> rfl)))) ?_
        refine WO.nil ?_
        -- @@ loopend
        refine ⟨_, ?_, rfl, k + 1, cur.set k c, by simp [hcur], by omega, rfl, Acc.set ac k c, rfl, rfl, rfl, rfl, rfl, ?_⟩
        · omega
        · show Value.int .i64 (IntKind.i64.wrap (k + 1)) = _
          rw [wrap_i64 (by omega) (by omega)]; rfl
      ·
        refine WS.exit (hX11 _ _ _ ?_)
        refine hK9 _ _ _ ?_
        clear hK9
        refine WS.seq fun K14 hK14 => ?_
        refine WS.region_lit ?_
        refine WO.yld (Yld.move (by (repeat' (first | refine' evo_there (by rfl) ?_ | exact evo_here _ _ _)) <;> (try ((try simp only [evo, upd, ↓reduceIte, Nat.reduceEqDiff]) <;> rfl)))) ?_
        -- @@ op: t63 := CALL F20[t62] ty[22] : T28   info {62: None}
        refine WO.chn rfl (Chn.call (evo_func _ _) (by simp only [List.map_toArray, List.map, evo, upd, ↓reduceIte, Nat.reduceEqDiff] <;> rfl) (split_ok _ _ _ hx5 (by omega)) rfl ?_)
        rintro v6 h6 L6 le6' ⟨rfl, r6⟩
        rw [hsp] at r6
        obtain ⟨v7, rfl, ss, hss, hsl6, hel⟩ := r6
        refine WO.yld (Yld.move (by (repeat' (first | refine' evo_there (by rfl) ?_ | exact evo_here _ _ _)) <;> (try ((try simp only [evo, upd, ↓reduceIte, Nat.reduceEqDiff]) <;> rfl)))) ?_
        refine WO.yld (Yld.ext0 (by (repeat' (first | refine' evo_there (by rfl) ?_ | exact evo_here _ _ _)) <;> (try ((try simp only [evo, upd, ↓reduceIte, Nat.reduceEqDiff]) <;> rfl)))) ?_
        refine WO.yld (Yld.ext1 (by (repeat' (first | refine' evo_there (by rfl) ?_ | exact evo_here _ _ _)) <;> (try ((try simp only [evo, upd, ↓reduceIte, Nat.reduceEqDiff]) <;> rfl)))) ?_
        refine WO.yld (Yld.assign (by (repeat' (first | refine' evo_there (by rfl) ?_ | exact evo_here _ _ _)) <;> (try ((try simp only [evo, upd, ↓reduceIte, Nat.reduceEqDiff]) <;> rfl)))) ?_
        refine WO.yld (Yld.assign (by (repeat' (first | refine' evo_there (by rfl) ?_ | exact evo_here _ _ _)) <;> (try ((try simp only [evo, upd, ↓reduceIte, Nat.reduceEqDiff]) <;> rfl)))) ?_
        refine WO.nil ?_
        refine hK14 _ _ _ ?_
        clear hK14
        refine WS.seq fun K15 hK15 => ?_
        refine WS.seq fun K16 hK16 => ?_
        refine WS.region_lit ?_
        refine WO.yld (Yld.move (by (repeat' (first | refine' evo_there (by rfl) ?_ | exact evo_here _ _ _)) <;> (try ((try simp only [evo, upd, ↓reduceIte, Nat.reduceEqDiff]) <;> rfl)))) ?_
        refine WO.yld (Yld.neqI (by (repeat' (first | refine' evo_there (by rfl) ?_ | exact evo_here _ _ _)) <;> (try ((try simp only [evo, upd, ↓reduceIte, Nat.reduceEqDiff]) <;> rfl))) (evo_const _ _)) ?_
        refine WO.yld (Yld.move (by (repeat' (first | refine' evo_there (by rfl) ?_ | exact evo_here _ _ _)) <;> (try ((try simp only [evo, upd, ↓reduceIte, Nat.reduceEqDiff]) <;> rfl)))) ?_
        -- @@ guard on slot 68: declare it (%guard 68 true|false PROOF)
        refine WO.yes rfl (by decide) (Eq.trans (by (repeat' (first | refine' evo_there (by rfl) ?_ | exact evo_here _ _ _)) <;> (try ((try simp only [evo, upd, ↓reduceIte, Nat.reduceEqDiff]) <;> rfl))) (congrArg Value.bool (rfl))) ?_
        refine WO.yld (Yld.move (by (repeat' (first | refine' evo_there (by rfl) ?_ | exact evo_here _ _ _)) <;> (try ((try simp only [evo, upd, ↓reduceIte, Nat.reduceEqDiff]) <;> rfl)))) ?_
        refine WO.yes rfl (by decide) (Eq.trans (by (repeat' (first | refine' evo_there (by rfl) ?_ | exact evo_here _ _ _)) <;> (try ((try simp only [evo, upd, ↓reduceIte, Nat.reduceEqDiff]) <;> rfl))) (congrArg Value.bool (rfl))) ?_
        refine WO.yld (Sl.lenS hsl6 (by (repeat' (first | refine' evo_there (by rfl) ?_ | exact evo_here _ _ _)) <;> (try ((try simp only [evo, upd, ↓reduceIte, Nat.reduceEqDiff]) <;> rfl)))) ?_
        refine WO.yes rfl (by decide) (Eq.trans (by (repeat' (first | refine' evo_there (by rfl) ?_ | exact evo_here _ _ _)) <;> (try ((try simp only [evo, upd, ↓reduceIte, Nat.reduceEqDiff]) <;> rfl))) (congrArg Value.bool (rfl))) ?_
        refine WO.yld (Yld.neqI (by (repeat' (first | refine' evo_there (by rfl) ?_ | exact evo_here _ _ _)) <;> (try ((try simp only [evo, upd, ↓reduceIte, Nat.reduceEqDiff]) <;> rfl))) (evo_const _ _)) ?_
        refine WO.yld (Yld.pick_f (Eq.trans (by (repeat' (first | refine' evo_there (by rfl) ?_ | exact evo_here _ _ _)) <;> (try ((try simp only [evo, upd, ↓reduceIte, Nat.reduceEqDiff]) <;> rfl))) (congrArg Value.bool (rfl))) (by (repeat' (first | refine' evo_there (by rfl) ?_ | exact evo_here _ _ _)) <;> (try ((try simp only [evo, upd, ↓reduceIte, Nat.reduceEqDiff]) <;> rfl)))) ?_
        refine WO.nil ?_
        refine hK16 _ _ _ ?_
        clear hK16
        -- @@ cond t72
        refine WS.cond (t := false) (by (repeat' (first | refine' evo_there (by rfl) ?_ | exact evo_here _ _ _)) <;> (try ((try simp only [evo, upd, ↓reduceIte, Nat.reduceEqDiff]) <;> rfl))) (fun c => by cases c) (fun _ => ?_)
        refine WS.skip ?_
        refine hK15 _ _ _ ?_
        clear hK15
        refine WS.seq fun K17 hK17 => ?_
        refine WS.region_lit ?_
        refine WO.yld (Yld.move (by (repeat' (first | refine' evo_there (by rfl) ?_ | exact evo_here _ _ _)) <;> (try ((try simp only [evo, upd, ↓reduceIte, Nat.reduceEqDiff]) <;> rfl)))) ?_
        refine WO.yld (Sl.indexL 0 hsl6 (by (repeat' (first | refine' evo_there (by rfl) ?_ | exact evo_here _ _ _)) <;> (try ((try simp only [evo, upd, ↓reduceIte, Nat.reduceEqDiff]) <;> rfl))) rfl rfl (by first | omega | decide | simp)) ?_
        -- @@ op: t75 := load 22 t74 : T22   info {74: {'k': 'elp', 'f': 'hsl6', 'bs': False}}
        have hss2 : ss.length = 2 := hss
        have hv6 := hv5.mono le6'
        -- @@ op: t75 := load 22 t74 : T22   info {74: {'k': 'elp', 'f': 'hsl6', 'bs': False}}
        refine WO.yld (Sl.loadSV hsl6 (by (repeat' (first | refine' evo_there (by rfl) ?_ | exact evo_here _ _ _)) <;> (try ((try simp only [evo, upd, ↓reduceIte, Nat.reduceEqDiff]) <;> rfl))) (by omega)) ?_
        refine WO.yld (Yld.move (by (repeat' (first | refine' evo_there (by rfl) ?_ | exact evo_here _ _ _)) <;> (try ((try simp only [evo, upd, ↓reduceIte, Nat.reduceEqDiff]) <;> rfl)))) ?_
        -- @@ op: t77 := CALL F21[t75, t76] ty[22, 22] : T4   info {75: None, 76: None}
        refine WO.chn rfl (Chn.call (evo_func _ _) (by simp only [List.map_toArray, List.map, evo, upd, ↓reduceIte, Nat.reduceEqDiff] <;> rfl) (same_ok _ _ _ _ _ (hel 0 (by simp)) hv6 (by simp; omega)) rfl ?_)
        rintro v8 h8 L8 le8 rfl
        refine WO.yld (Yld.assign (by (repeat' (first | refine' evo_there (by rfl) ?_ | exact evo_here _ _ _)) <;> (try ((try simp only [evo, upd, ↓reduceIte, Nat.reduceEqDiff]) <;> rfl)))) ?_
        refine WO.nil ?_
        refine hK17 _ _ _ ?_
        clear hK17
        refine WS.seq fun K18 hK18 => ?_
        refine WS.region_lit ?_
        refine WO.yld (Yld.move (by (repeat' (first | refine' evo_there (by rfl) ?_ | exact evo_here _ _ _)) <;> (try ((try simp only [evo, upd, ↓reduceIte, Nat.reduceEqDiff]) <;> rfl)))) ?_
        refine WO.yld (Sl.indexL 1 hsl5 (by (repeat' (first | refine' evo_there (by rfl) ?_ | exact evo_here _ _ _)) <;> (try ((try simp only [evo, upd, ↓reduceIte, Nat.reduceEqDiff]) <;> rfl))) rfl rfl (by first | omega | decide | simp)) ?_
        -- @@ op: t80 := load 22 t79 : T22   info {79: {'k': 'elp', 'f': 'hsl5', 'bs': False}}
        refine WO.yld (Sl.load1H (Sl.mono (PH.le_trans le6' le8) hsl5) (by (repeat' (first | refine' evo_there (by rfl) ?_ | exact evo_here _ _ _)) <;> (try ((try simp only [evo, upd, ↓reduceIte, Nat.reduceEqDiff]) <;> rfl))) rfl) ?_
        refine WO.yld (Yld.move (by (repeat' (first | refine' evo_there (by rfl) ?_ | exact evo_here _ _ _)) <;> (try ((try simp only [evo, upd, ↓reduceIte, Nat.reduceEqDiff]) <;> rfl)))) ?_
        -- @@ op: t82 := CALL F21[t80, t81] ty[22, 22] : T4   info {80: None, 81: None}
        refine WO.chn rfl (Chn.call (evo_func _ _) (by simp only [List.map_toArray, List.map, evo, upd, ↓reduceIte, Nat.reduceEqDiff] <;> rfl) (same_ok _ _ _ _ _ (hb1.mono (PH.le_trans le6' le8)) (hv6.mono le8) (by omega)) rfl ?_)
        rintro v9 h9 L9 le9 rfl
        refine WO.yld (Yld.assign (by (repeat' (first | refine' evo_there (by rfl) ?_ | exact evo_here _ _ _)) <;> (try ((try simp only [evo, upd, ↓reduceIte, Nat.reduceEqDiff]) <;> rfl)))) ?_
        refine WO.nil ?_
        refine hK18 _ _ _ ?_
        clear hK18
        refine WS.seq fun K19 hK19 => ?_
        refine WS.region_lit ?_
        refine WO.yld (Yld.move (by (repeat' (first | refine' evo_there (by rfl) ?_ | exact evo_here _ _ _)) <;> (try ((try simp only [evo, upd, ↓reduceIte, Nat.reduceEqDiff]) <;> rfl)))) ?_
        refine WO.yld (Yld.move (by (repeat' (first | refine' evo_there (by rfl) ?_ | exact evo_here _ _ _)) <;> (try ((try simp only [evo, upd, ↓reduceIte, Nat.reduceEqDiff]) <;> rfl)))) ?_
        -- @@ guard on slot 84: declare it (%guard 84 true|false PROOF)
        refine WO.yes rfl (by decide) (Eq.trans (by (repeat' (first | refine' evo_there (by rfl) ?_ | exact evo_here _ _ _)) <;> (try ((try simp only [evo, upd, ↓reduceIte, Nat.reduceEqDiff]) <;> rfl))) (congrArg Value.bool (rfl))) ?_
        refine WO.yld (Yld.move (by (repeat' (first | refine' evo_there (by rfl) ?_ | exact evo_here _ _ _)) <;> (try ((try simp only [evo, upd, ↓reduceIte, Nat.reduceEqDiff]) <;> rfl)))) ?_
        refine WO.yld (Yld.pick_t (Eq.trans (by (repeat' (first | refine' evo_there (by rfl) ?_ | exact evo_here _ _ _)) <;> (try ((try simp only [evo, upd, ↓reduceIte, Nat.reduceEqDiff]) <;> rfl))) (congrArg Value.bool (rfl))) (by (repeat' (first | refine' evo_there (by rfl) ?_ | exact evo_here _ _ _)) <;> (try ((try simp only [evo, upd, ↓reduceIte, Nat.reduceEqDiff]) <;> rfl)))) ?_
        refine WO.yld (Yld.move (by (repeat' (first | refine' evo_there (by rfl) ?_ | exact evo_here _ _ _)) <;> (try ((try simp only [evo, upd, ↓reduceIte, Nat.reduceEqDiff]) <;> rfl)))) ?_
        refine WO.yes rfl (by decide) (Eq.trans (by (repeat' (first | refine' evo_there (by rfl) ?_ | exact evo_here _ _ _)) <;> (try ((try simp only [evo, upd, ↓reduceIte, Nat.reduceEqDiff]) <;> rfl))) (congrArg Value.bool (decide_eq_true rfl))) ?_
        refine WO.yld (Yld.move (by (repeat' (first | refine' evo_there (by rfl) ?_ | exact evo_here _ _ _)) <;> (try ((try simp only [evo, upd, ↓reduceIte, Nat.reduceEqDiff]) <;> rfl)))) ?_
        refine WO.yld (Yld.pick_t (Eq.trans (by (repeat' (first | refine' evo_there (by rfl) ?_ | exact evo_here _ _ _)) <;> (try ((try simp only [evo, upd, ↓reduceIte, Nat.reduceEqDiff]) <;> rfl))) (congrArg Value.bool (decide_eq_true rfl))) (by (repeat' (first | refine' evo_there (by rfl) ?_ | exact evo_here _ _ _)) <;> (try ((try simp only [evo, upd, ↓reduceIte, Nat.reduceEqDiff]) <;> rfl)))) ?_
        refine WO.yld (Yld.assign (by (repeat' (first | refine' evo_there (by rfl) ?_ | exact evo_here _ _ _)) <;> (try ((try simp only [evo, upd, ↓reduceIte, Nat.reduceEqDiff]) <;> rfl)))) ?_
        refine WO.nil ?_
        refine hK19 _ _ _ ?_
        clear hK19
        refine WS.ret ?_
        refine FnEnd.mk0 (RV.one (RO.tmp (by (repeat' (first | refine' evo_there (by rfl) ?_ | exact evo_here _ _ _)) <;> (try ((try simp only [evo, upd, ↓reduceIte, Nat.reduceEqDiff]) <;> rfl))))) ?_
        -- @@ fin
        rw [decide_eq_true rfl]
end Go.Proofs
