/- The reference of layer 10: what a kind has; whether two notes are the same; whether one may be. Conditions: what is handed over can be read. -/
import Derived.Test.YtijlkjbmjkmkfaaR3
namespace Go.Proofs
open Go Go.Bz

theorem in_pu (h : PH) (s : ByteArray) (c : UInt8) (ci : Int) (hci : ci = (c.toNat : Int)) (hl : s.size < 1000000000000) : Ct Try.prog 110 #[.string s, .int .u8 ci] h [] (Pu (.bool (decide (c ∈ s.data.toList)))) := by
  subst hci
  have hsl : s.data.toList.length = s.size := by simp
  refine Ct.enter (n := 17) (rs := #[.tmp 4]) Try.func110 rfl rfl rfl (by simp) ?_
  intro E hE
  rw [fr2]
  refine WS.seq fun K1 hK1 => ?_
  refine WS.region_lit ?_
  refine WO.yld (Yld.assign (evo_const _ _)) ?_
  refine WO.nil ?_
  refine hK1 _ _ _ ?_
  clear hK1
  refine WS.seq fun K2 hK2 => ?_
  refine WS.seq fun K3 hK3 => ?_
  refine WS.region_lit ?_
  refine WO.yld (Yld.assign (evo_const _ _)) ?_
  refine WO.nil ?_
  refine hK3 _ _ _ ?_
  clear hK3
  refine WS.blk fun X4 hX4 hY4 => ?_
  -- @@ loop
  refine WS.loop (fun m f h' L => L = [] ∧ ∃ k : Nat, k ≤ s.size ∧ m = s.size - k ∧ c ∉ s.data.toList.take k ∧ f 0 = .string s ∧ f 1 = .int .u8 (c.toNat : Int) ∧ f 5 = .int .i64 k) (s.size) ?_ ?_
  · exact ⟨rfl, 0, by omega, by omega, by simp, rfl, rfl, rfl⟩
  · rintro m f h L _ ⟨rfl, k, hk, rfl, hall, f0, f1, f5⟩
    obtain ⟨g, rfl⟩ : ∃ g, f = upd (upd (upd g 0 (.string s)) 1 (.int .u8 (c.toNat : Int))) 5 (.int .i64 k) := ⟨f, by rw [upd_id f0, upd_id f1, upd_id f5]⟩
    clear f0 f1 f5
    refine WS.seq fun K5 hK5 => ?_
    refine WS.seq fun K6 hK6 => ?_
    refine WS.region_lit ?_
    refine WO.yld (Yld.move EVx) ?_
    refine WO.yld (Yld.move EVx) ?_
    refine WO.yld (Yld.lenStr EVx) ?_
    refine WO.yld (Yld.lss EVx EVx) ?_
    refine WO.nil ?_
    refine hK6 _ _ _ ?_
    clear hK6
    -- @@ cond t9
    refine WS.cond EVx (fun c1 => ?_) (fun c1 => ?_)
    ·
      have c1 : k < s.size := by simp at c1; omega
      refine WS.skip ?_
      refine hK5 _ _ _ ?_
      clear hK5
      refine WS.seq fun K7 hK7 => ?_
      refine WS.blk fun X8 hX8 hY8 => ?_
      refine WS.seq fun K9 hK9 => ?_
      refine WS.region_lit ?_
      refine WO.yld (Yld.move EVx) ?_
      refine WO.yld (Yld.move EVx) ?_
      refine WO.yld (Yld.idxStr EVx EVx (by first | omega | decide | simp)) ?_
      refine WO.yld (Yld.move EVx) ?_
      refine WO.yld (Yld.eqlI EVx EVx) ?_
      refine WO.nil ?_
      refine hK9 _ _ _ ?_
      clear hK9
      -- @@ cond t16
      have hmem : s.data.toList.getD k 0 ∈ s.data.toList := by rw [getD_lt (by omega)]; exact List.getElem_mem _
      refine WS.cond EVx (fun c2 => ?_) (fun c2 => ?_)
      ·
        refine WS.seq fun K10 hK10 => ?_
        refine WS.region_lit ?_
        refine WO.yld (Yld.assign (evo_const _ _)) ?_
        refine WO.nil ?_
        refine hK10 _ _ _ ?_
        clear hK10
        refine WS.ret ?_
        refine FnEnd.mk0 (RV.one (RO.tmpE EVx)) ?_
        -- @@ fin
        have e : s.data.toList.getD k 0 = c := UInt8.toNat_inj.1 (by have := of_decide_eq_true c2; omega)
        rw [decide_eq_true (e ▸ hmem)]; exact ⟨rfl, rfl⟩
      ·
        refine WS.skip ?_
        refine hK7 _ _ _ ?_
        clear hK7
        refine WS.region_lit ?_
        refine WO.yld (Yld.move EVx) ?_
        refine WO.yld (Yld.add EVx (evo_const _ _)) ?_
        refine WO.yld (Yld.assign EVx) ?_
        refine WO.nil ?_
        -- @@ loopend
        refine ⟨_, ?_, rfl, k + 1, by omega, rfl, ?_, rfl, rfl, next_k k (by omega)⟩
        · omega
        · rw [take_succ_getD (by omega), List.mem_append, List.mem_singleton]
          rintro (h | h)
          · exact hall h
          · rw [← h] at c2; simp at c2
    ·
      obtain rfl : k = s.size := by simp at c1; omega
      rw [← hsl, List.take_length] at hall
      refine WS.exit (hX4 _ _ _ ?_)
      refine hK2 _ _ _ ?_
      clear hK2
      refine WS.seq fun K7 hK7 => ?_
      refine WS.region_lit ?_
      refine WO.yld (Yld.assign (evo_const _ _)) ?_
      refine WO.nil ?_
      refine hK7 _ _ _ ?_
      clear hK7
      refine WS.ret ?_
      refine FnEnd.mk0 (RV.one (RO.tmpE EVx)) ?_
      -- @@ fin
      rw [decide_eq_false hall]; exact ⟨rfl, rfl⟩
theorem in_code (h : PH) (T : List Lt) (c : Lt) (ci : Int) (hci : ci = (c.code.toNat : Int)) (hl : T.length < 100) : Ct Try.prog 110 #[.string ⟨(codes T).toArray⟩, .int .u8 ci] h [] (Pu (.bool (decide (c ∈ T)))) := by
  have h1 := in_pu h ⟨(codes T).toArray⟩ c.code ci hci (by rw [sz_codes]; omega)
  have e : decide (c.code ∈ (⟨(codes T).toArray⟩ : ByteArray).data.toList) = decide (c ∈ T) := by
    rw [decide_eq_decide]
    simp only [codes, List.mem_map]
    exact ⟨fun ⟨d, hd, e⟩ => code_inj e ▸ hd, fun h => ⟨c, h, rfl⟩⟩
  rw [e] at h1; exact h1
def hasV : List Value := hasL.map fun l => Value.string ⟨(codes l).toArray⟩
theorem rhas_ok (h : PH) (k : Int) : Ct Try.prog 103 #[.int .i64 k] h [] (Pu (.string ⟨(codes (hasT k)).toArray⟩)) := by
  refine Ct.enter (n := 17) (rs := #[.tmp 2]) Try.func103 rfl rfl rfl (by simp) ?_
  intro E hE
  rw [fr1]
  refine WS.seq fun K1 hK1 => ?_
  refine WS.region_lit ?_
  refine WO.yld (Yld.assign (evo_const _ _)) ?_
  refine WO.nil ?_
  refine hK1 _ _ _ ?_
  clear hK1
  refine WS.seq fun K2 hK2 => ?_
  refine WS.region_lit ?_
  -- @@ op: t4 := buildSlice 261 17 [(0, cstring(('rec', {'data': ('arr', [])}))), (1, cstring(('rec', {'data': ('arr', ['65', '88'])}))), (2, cstring(('rec', {'data': ('arr', ['66', '80', '89'])}))), (3, cstring(('rec', {'data': ('arr', ['80', '81', '89'])}))), (4, cstring(('rec', {'data': ('arr', ['81', '80'])}))), (5, cstring(('rec', {'data': ('arr', ['80'])}))), (6, cstring(('rec', {'data': ('arr', ['
  refine WO.chn rfl (Chn.buildAcc (sz := 1) (Parts.cons (evo_const _ _) (Parts.cons (evo_const _ _) (Parts.cons (evo_const _ _) (Parts.cons (evo_const _ _) (Parts.cons (evo_const _ _) (Parts.cons (evo_const _ _) (Parts.cons (evo_const _ _) (Parts.cons (evo_const _ _) (Parts.cons (evo_const _ _) (Parts.cons (evo_const _ _) (Parts.cons (evo_const _ _) (Parts.cons (evo_const _ _) (Parts.cons (evo_const _ _) (Parts.cons (evo_const _ _) (Parts.cons (evo_const _ _) (Parts.cons (evo_const _ _) (Parts.cons (evo_const _ _) Parts.nil))))))))))))))))) rfl (by decide) (by decide) fun s4 hn4 ac4 => ?_)
  refine WO.freezeAcc (e := 9) ac4 rfl fun h4 le4 sl4 => ?_
  rw [hn4] at sl4
  have sl4 : Sl h4 [] 1 s4.v 17 hasV := sl4
  refine WO.yld (Yld.assign EVx) ?_
  refine WO.nil ?_
  refine hK2 _ _ _ ?_
  clear hK2
  refine WS.seq fun K3 hK3 => ?_
  refine WS.seq fun K4 hK4 => ?_
  refine WS.region_lit ?_
  refine WO.yld (Yld.move EVx) ?_
  refine WO.yld (Yld.lss EVx (evo_const _ _)) ?_
  refine WO.yld (Yld.move EVx) ?_
  refine WO.gyF0 rfl EVx (fun hp => Yld.move EVx) ?_
  refine WO.gyF0 rfl EVx (fun hp => Yld.move EVx) ?_
  refine WO.gyF0 rfl EVx (fun hp => Sl.lenS sl4 (EVc hp EVx)) ?_
  refine WO.gyF0 rfl EVx (fun hp => Yld.geq (EVc hp EVx) (EVc hp EVx)) ?_
  refine WO.yld (Yld.pickOr' EVx (evo_const _ _) (fun h => (EVc (nf h) EVx))) ?_
  refine WO.nil ?_
  refine hK4 _ _ _ ?_
  clear hK4
  -- @@ cond t12
  refine WS.cond EVx (fun c1 => ?_) (fun c1 => ?_)
  ·
    refine WS.seq fun K5 hK5 => ?_
    refine WS.region_lit ?_
    refine WO.yld (Yld.assign (evo_const _ _)) ?_
    refine WO.nil ?_
    refine hK5 _ _ _ ?_
    clear hK5
    refine WS.ret ?_
    refine FnEnd.mk0 (RV.one (RO.tmpE EVx)) ?_
    -- @@ fin
    have : hasT k = [] := by unfold hasT; rw [if_pos (by simp at c1; omega)]
    rw [this]; exact ⟨rfl, rfl⟩
  ·
    have h1 : 1 ≤ k ∧ k ≤ 16 := by simp at c1; omega
    obtain ⟨n, rfl⟩ : ∃ n : Nat, k = (n : Int) := ⟨k.toNat, by omega⟩
    refine WS.skip ?_
    refine hK3 _ _ _ ?_
    clear hK3
    refine WS.seq fun K5 hK5 => ?_
    refine WS.region_lit ?_
    refine WO.yld (Yld.move EVx) ?_
    refine WO.yld (Yld.move EVx) ?_
    refine WO.yld (Sl.indexN sl4 EVx EVx (by first | omega | decide | simp)) ?_
    refine WO.yld (Sl.load1 (L := []) (Sl.mono (L := []) (PH.le_refl _) sl4) EVx (by rw [Nat.mul_one]; exact has_at (n : Int) h1)) ?_
    refine WO.yld (Yld.assign EVx) ?_
    refine WO.nil ?_
    refine hK5 _ _ _ ?_
    clear hK5
    refine WS.ret ?_
    refine FnEnd.mk0 (RV.one (RO.tmpE EVx)) ?_
    -- @@ fin
    exact ⟨rfl, rfl⟩
theorem rsame_ok (h : PH) (a b : NoteM) (pa pb : NoteP) (na : NR h a pa) (nb : NR h b pb) (fa : pa.Fits) :
    Ct Try.prog 28 #[a.v, b.v] h [] (Pu (.bool (sameN pa pb))) := by
  refine Ct.enter (n := 59) (rs := #[.tmp 4]) Try.func28 rfl rfl rfl (by simp) ?_
  intro E hE
  rw [fr2]
  refine WS.seq fun K1 hK1 => ?_
  refine WS.region_lit ?_
  refine WO.chn rfl (Chn.bx EVx fun b2 => ?_)
  refine WO.chn rfl (Chn.bx EVx fun b3 => ?_)
  refine WO.yld (Yld.assign (evo_const _ _)) ?_
  refine WO.nil ?_
  refine hK1 _ _ _ ?_
  clear hK1
  refine WS.seq fun K2 hK2 => ?_
  refine WS.region_lit ?_
  refine WO.yld (Yld.fieldAddrL (o' := 0) EVx rfl) ?_
  refine WO.yld (Yld.ld1 EVx (At.tail At.head)) ?_
  refine WO.yld (Yld.fieldAddrL (o' := 0) EVx rfl) ?_
  refine WO.yld (Yld.ld1 EVx At.head) ?_
  refine WO.yld (Yld.eqlI EVx EVx) ?_
  refine WO.yld (Yld.move EVx) ?_
  refine WO.gyT0 rfl EVx (fun hp => Yld.fieldAddrL (o' := 1) EVx rfl) ?_
  refine WO.gyT0 rfl EVx (fun hp => Yld.ld1 (EVc hp EVx) (At.tail At.head)) ?_
  refine WO.gyT0 rfl EVx (fun hp => Yld.fieldAddrL (o' := 1) EVx rfl) ?_
  refine WO.gyT0 rfl EVx (fun hp => Yld.ld1 (EVc hp EVx) At.head) ?_
  refine WO.gyT0 rfl EVx (fun hp => Yld.eqlStr (EVc hp EVx) (EVc hp EVx)) ?_
  refine WO.yld (Yld.pickAnd' EVx (fun h => (EVc h EVx)) (evo_const _ _)) ?_
  refine WO.yld (Yld.move EVx) ?_
  refine WO.gyT0 rfl EVx (fun hp => Yld.fieldAddrL (o' := 2) EVx rfl) ?_
  refine WO.gyT0 rfl EVx (fun hp => Yld.ld1 (EVc hp EVx) (At.tail At.head)) ?_
  refine WO.gyT0 rfl EVx (fun hp => Yld.fieldAddrL (o' := 2) EVx rfl) ?_
  refine WO.gyT0 rfl EVx (fun hp => Yld.ld1 (EVc hp EVx) At.head) ?_
  refine WO.gyT0 rfl EVx (fun hp => Yld.eqlStr (EVc hp EVx) (EVc hp EVx)) ?_
  refine WO.yld (Yld.pickAnd' EVx (fun h => (EVc h EVx)) (evo_const _ _)) ?_
  refine WO.yld (Yld.move EVx) ?_
  refine WO.gyT0 rfl EVx (fun hp => Yld.fieldAddrL (o' := 3) EVx rfl) ?_
  refine WO.gyT0 rfl EVx (fun hp => Yld.ldN (EVc hp EVx) (At.tail At.head)) ?_
  refine WO.gyT0 rfl EVx (fun hp => Yld.fieldAddrL (o' := 3) EVx rfl) ?_
  refine WO.gyT0 rfl EVx (fun hp => Yld.ldN (EVc hp EVx) At.head) ?_
  refine WO.gyT0 rfl EVx (fun hp => Yld.eqlAB (EVc hp EVx) (EVc hp EVx)) ?_
  refine WO.yld (Yld.pickAnd' EVx (fun h => (EVc h EVx)) (evo_const _ _)) ?_
  refine WO.yld (Yld.move EVx) ?_
  refine WO.gyT0 rfl EVx (fun hp => Yld.fieldAddrL (o' := 19) EVx rfl) ?_
  refine WO.gyT0 rfl EVx (fun hp => Yld.ldN (EVc hp EVx) (At.tail At.head)) ?_
  refine WO.gyT0 rfl EVx (fun hp => Yld.fieldAddrL (o' := 19) EVx rfl) ?_
  refine WO.gyT0 rfl EVx (fun hp => Yld.ldN (EVc hp EVx) At.head) ?_
  refine WO.gyT0 rfl EVx (fun hp => Yld.eqlAB (EVc hp EVx) (EVc hp EVx)) ?_
  refine WO.yld (Yld.pickAnd' EVx (fun h => (EVc h EVx)) (evo_const _ _)) ?_
  refine WO.yld (Yld.move EVx) ?_
  refine WO.gyT0 rfl EVx (fun hp => Yld.fieldAddrL (o' := 35) EVx rfl) ?_
  refine WO.gyT0 rfl EVx (fun hp => Yld.ld1 (EVc hp EVx) (At.tail At.head)) ?_
  refine WO.gyT0 rfl EVx (fun hp => Yld.fieldAddrL (o' := 35) EVx rfl) ?_
  refine WO.gyT0 rfl EVx (fun hp => Yld.ld1 (EVc hp EVx) At.head) ?_
  refine WO.gpT0 rfl EVx (fun hp => Chn.callZ (evo_func _ _) (AC (EVc hp EVx) (AC (EVc hp EVx) AN)) ((same_pu _ _ _ _ _ na.p nb.p fa.p).pz)) fun h43 le43 => ?_
  replace na := na.mono le43
  replace nb := nb.mono le43
  refine WO.yld (Yld.pickAnd' EVx (fun h => (EVc h EVx)) (evo_const _ _)) ?_
  refine WO.yld (Yld.move EVx) ?_
  refine WO.gyT0 rfl EVx (fun hp => Yld.fieldAddrL (o' := 36) EVx rfl) ?_
  refine WO.gyT0 rfl EVx (fun hp => Yld.ld1 (EVc hp EVx) (At.tail At.head)) ?_
  refine WO.gyT0 rfl EVx (fun hp => Yld.fieldAddrL (o' := 36) EVx rfl) ?_
  refine WO.gyT0 rfl EVx (fun hp => Yld.ld1 (EVc hp EVx) At.head) ?_
  refine WO.gpT0 rfl EVx (fun hp => Chn.callZ (evo_func _ _) (AC (EVc hp EVx) (AC (EVc hp EVx) AN)) ((same_pu _ _ _ _ _ na.q nb.q fa.q).pz)) fun h50 le50 => ?_
  replace na := na.mono le50
  replace nb := nb.mono le50
  refine WO.yld (Yld.pickAnd' EVx (fun h => (EVc h EVx)) (evo_const _ _)) ?_
  refine WO.yld (Yld.move EVx) ?_
  refine WO.gyT0 rfl EVx (fun hp => Yld.fieldAddrL (o' := 37) EVx rfl) ?_
  refine WO.gyT0 rfl EVx (fun hp => Yld.ld1 (EVc hp EVx) (At.tail At.head)) ?_
  refine WO.gyT0 rfl EVx (fun hp => Yld.fieldAddrL (o' := 37) EVx rfl) ?_
  refine WO.gyT0 rfl EVx (fun hp => Yld.ld1 (EVc hp EVx) At.head) ?_
  refine WO.gpT0 rfl EVx (fun hp => Chn.callZ (evo_func _ _) (AC (EVc hp EVx) (AC (EVc hp EVx) AN)) ((same_pu _ _ _ _ _ na.r nb.r fa.r).pz)) fun h57 le57 => ?_
  replace na := na.mono le57
  replace nb := nb.mono le57
  refine WO.yld (Yld.pickAnd' EVx (fun h => (EVc h EVx)) (evo_const _ _)) ?_
  refine WO.yld (Yld.assign EVx) ?_
  refine WO.nil ?_
  refine hK2 _ _ _ ?_
  clear hK2
  refine WS.ret ?_
  refine FnEnd.mk0 (RV.one (RO.tmpE EVx)) ?_
  -- @@ fin
  refine ⟨?_, rfl⟩
  rw [na.k, na.a, na.b, na.x, na.y, nb.k, nb.a, nb.b, nb.x, nb.y]; rfl
end Go.Proofs
