/- Arrays of bytes, and of numbers of 32 bits, that are variables: their elements, read and written. Conditions: those that each theorem names. -/
import Derived.Test.YtijlkjbmjkmkfaaB8
namespace Go.Bz
def AB.set {n : Nat} (K : AB n) (k : Nat) (c : UInt8) : AB n := ⟨K.1.set k c, by rw [List.length_set]; exact K.2⟩
def AU.set {n : Nat} (K : AU n) (k : Nat) (c : UInt32) : AU n := ⟨K.1.set k c, by rw [List.length_set]; exact K.2⟩
theorem spl_set1 {cs : List Value} {k : Nat} {v : Value} (h : k < cs.length) : spl cs k [v] = cs.set k v := by
  unfold spl; rw [List.set_eq_take_append_cons_drop, if_pos h]; simp
theorem bc_set (l : List UInt8) (k : Nat) (c : UInt8) : (bc l).set k (.int .u8 (c.toNat : Int)) = bc (l.set k c) := by simp [bc, List.map_set]
theorem uc_set (l : List UInt32) (k : Nat) (c : UInt32) : (uc l).set k (.int .u32 (c.toNat : Int)) = uc (l.set k c) := by simp [uc, List.map_set]
theorem uc_get {l : List UInt32} {k : Nat} (hk : k < l.length) : (uc l)[k]? = some (.int .u32 ((l.getD k 0).toNat : Int)) := by simp [uc, List.getElem?_eq_getElem hk, List.getD]
section
variable {P : Program} {f : Fr} {h : PH} {L : OL} {E : Env} {ty : TypeId} {x y z : Operand} {Q : Value → PH → OL → Prop}
theorem Yld.iaN {t e n : Nat} [T : TAr P t n e] {agg : Bool} {sz : Nat} [I : TI P e agg sz] {b o k : Nat} {kd : IntKind} (hx : evo f x = .pointer (some ⟨b, o, none⟩)) (hy : evo f y = .int kd (k : Int)) (h1 : k < n) :
    Yld P f h L (.indexAddr t x y) ty (.pointer (some ⟨b, o + k * sz, none⟩)) := by
  have := Yld.indexAddrA (P := P) (h := h) (L := L) (ty := ty) (t := t) hx hy (by omega) (by omega)
  simpa using this
theorem Yld.iaN1 {t e n : Nat} [T : TAr P t n e] [I : TI P e false 1] {b k : Nat} {kd : IntKind} (hx : evo f x = .pointer (some ⟨b, 0, none⟩)) (hy : evo f y = .int kd (k : Int)) (h1 : k < n) :
    Yld P f h L (.indexAddr t x y) ty (.pointer (some ⟨b, k, none⟩)) := by
  have := Yld.iaN (P := P) (h := h) (L := L) (ty := ty) (t := t) hx hy h1
  simpa using this
theorem Cells.one {b k : Nat} {cs : List Value} {T : TypeId} {fr : Nat × Nat} {v : Value} (a : At h L b (.cells cs.toArray T fr)) (hv : cs[k]? = some v) : Cells h L b k [v] := by
  obtain ⟨h2, h3⟩ := List.getElem?_eq_some_iff.1 hv
  refine ⟨_, T, _, fun _ => a, by simp; omega, ?_⟩
  show (cs.drop k).take 1 = _
  rw [List.drop_eq_getElem_cons h2, h3]; rfl
theorem Yld.ldAB {t : TypeId} [TI P t false 1] {n : Nat} {K : AB n} {b k : Nat} {T : TypeId} {fr : Nat × Nat} (hx : evo f x = .pointer (some ⟨b, k, none⟩)) (a : At h L b (.cells K.cells.toArray T fr)) (hk : k < n) :
    Yld P f h L (.load t x) ty (.int .u8 ((K.1.getD k 0).toNat : Int)) := Yld.load1 hx (Cells.one a (bc_get (by rw [K.2]; exact hk)))
theorem Yld.ldAU {t : TypeId} [TI P t false 1] {n : Nat} {K : AU n} {b k : Nat} {T : TypeId} {fr : Nat × Nat} (hx : evo f x = .pointer (some ⟨b, k, none⟩)) (a : At h L b (.cells K.cells.toArray T fr)) (hk : k < n) :
    Yld P f h L (.load t x) ty (.int .u32 ((K.1.getD k 0).toNat : Int)) := Yld.load1 hx (Cells.one a (uc_get (by rw [K.2]; exact hk)))
theorem Chn.stAB {t : TypeId} [TI P t false 1] {n : Nat} {K : AB n} {b k : Nat} {c : UInt8} {T : TypeId} {L' : OL} (hx : evo f x = .pointer (some ⟨b, k, none⟩)) (hy : evo f y = .int .u8 (c.toNat : Int)) (hk : k < n)
    (p : Put L b (.cells K.cells.toArray T) (.cells (K.set k c).cells.toArray T) L') (q : Q undef h L') : Chn P f E h L (.store t x y) ty Q := by
  have e : spl K.cells k [.int .u8 (c.toNat : Int)] = (K.set k c).cells := by
    rw [spl_set1 (by rw [AB.len]; exact hk)]; exact bc_set _ _ _
  rw [← e] at p
  exact Chn.store (vs := [.int .u8 (c.toNat : Int)]) hx hy rfl rfl (ones_one rfl) p (by rw [AB.len]; show k + 1 ≤ n; omega) q
theorem Chn.stAU {t : TypeId} [TI P t false 1] {n : Nat} {K : AU n} {b k : Nat} {c : UInt32} {T : TypeId} {L' : OL} (hx : evo f x = .pointer (some ⟨b, k, none⟩)) (hy : evo f y = .int .u32 (c.toNat : Int)) (hk : k < n)
    (p : Put L b (.cells K.cells.toArray T) (.cells (K.set k c).cells.toArray T) L') (q : Q undef h L') : Chn P f E h L (.store t x y) ty Q := by
  have e : spl K.cells k [.int .u32 (c.toNat : Int)] = (K.set k c).cells := by
    rw [spl_set1 (by rw [AU.len]; exact hk)]; exact uc_set _ _ _
  rw [← e] at p
  exact Chn.store (vs := [.int .u32 (c.toNat : Int)]) hx hy rfl rfl (ones_one rfl) p (by rw [AU.len]; show k + 1 ≤ n; omega) q
end
section
variable {P : Program} {f : Fr} {h : PH} {L : OL} {E : Env} {ty : TypeId} {x y z : Operand} {Q : Value → PH → OL → Prop}
/-- s[lo:hi] -/
theorem Bs.mid_ {h1' : PH} {L1 : OL} {t e : TypeId} [T : TSl P t e] {agg : Bool} [I : TI P e agg 1] {v : Value} {l : List UInt8} (s : Sl h1' L1 1 v l.length (bc l)) (lo hi : Nat) (hx : evo f x = v) {k1 k2 : IntKind} {i j : Int}
    (hy : evo f y = .int k1 i) (hi' : i = (lo : Int)) (hz : evo f z = .int k2 j) (hj : j = (hi : Int)) (h1 : lo ≤ hi) (h2 : hi ≤ l.length) : Yld P f h L (.slice t x (some y) (some z) none) ty (slcut v lo hi (vcap v) 1) := by
  subst hi'; subst hj
  exact Sl.slice s hx lo hi (vcap v) ⟨k1, lo, hy, by omega, by omega⟩ ⟨k2, hi, hz, by omega, by omega⟩ rfl h1 (Nat.le_trans h2 s.cap_le.1) (Nat.le_refl _)
theorem Bs.mid {v : Value} {l : List UInt8} (s : Bs h v l) (lo hi : Nat) (h1 : lo ≤ hi) (h2 : hi ≤ l.length) : Bs h (slcut v lo hi (vcap v) 1) ((l.drop lo).take (hi - lo)) := by
  have := Sl.cut s lo hi (vcap v) h1 h2 (Nat.le_trans h2 s.cap_le.1) (Nat.le_refl _)
  unfold Bs
  have hl : ((l.drop lo).take (hi - lo)).length = hi - lo := by simp; omega
  rw [hl]
  simpa [bc_drop, bc_take] using this
end
theorem getD_drop {α : Type} (l : List α) (n k : Nat) (d : α) : (l.drop n).getD k d = l.getD (n + k) d := by simp [List.getD]
/-- One round more of a loop whose counter is k. -/
theorem next_k (k : Nat) (h : k < 9000000000000000000) : Value.int .i64 (IntKind.i64.wrap ((k : Int) + 1)) = .int .i64 ((k + 1 : Nat) : Int) := by
  rw [wrap_i64 (by omega) (by omega)]; rfl
end Go.Bz
