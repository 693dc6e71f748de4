/- Numbers as bytes, names: plain functions. Conditions: those that each theorem names. -/
import Derived.Test.YtijlkjbmjkmkfaaF0
namespace Go.Bz

def byteOf (z : Int) : UInt8 := UInt8.ofNat (z % 256).toNat
theorem byteOf_nat (z : Int) : ((byteOf z).toNat : Int) = z % 256 := by
  have : (byteOf z).toNat = (z % 256).toNat % 256 := by simp [byteOf]
  omega
theorem u8_wrap (z : Int) : IntKind.u8.wrap z = ((byteOf z).toNat : Int) := by
  rw [byteOf_nat]; simp [IntKind.wrap, IntKind.bits, IntKind.signed]
theorem i64_wrap (n : Int) : IntKind.i64.wrap n = (n + 9223372036854775808) % 18446744073709551616 - 9223372036854775808 := by
  simp [IntKind.wrap, IntKind.bits, IntKind.signed]
  split <;> omega
def num8 (n : Int) : List UInt8 := [byteOf (n / 72057594037927936), byteOf (n / 281474976710656), byteOf (n / 1099511627776), byteOf (n / 4294967296), byteOf (n / 16777216), byteOf (n / 65536), byteOf (n / 256), byteOf n]
theorem num8_len (n : Int) : (num8 n).length = 8 := rfl
theorem num8_get (n : Int) (k : Nat) (hk : k < 8) : (num8 n).getD k 0 = byteOf (n.fdiv (2 ^ (min (IntKind.i64.wrap (8 * (7 - (k : Int)))).toNat IntKind.i64.bits))) := by
  have : k = 0 ∨ k = 1 ∨ k = 2 ∨ k = 3 ∨ k = 4 ∨ k = 5 ∨ k = 6 ∨ k = 7 := by omega
  rcases this with h | h | h | h | h | h | h | h <;> subst h
  · exact congrArg byteOf (Int.fdiv_eq_ediv_of_nonneg n (b := 72057594037927936) (by decide)).symm
  · exact congrArg byteOf (Int.fdiv_eq_ediv_of_nonneg n (b := 281474976710656) (by decide)).symm
  · exact congrArg byteOf (Int.fdiv_eq_ediv_of_nonneg n (b := 1099511627776) (by decide)).symm
  · exact congrArg byteOf (Int.fdiv_eq_ediv_of_nonneg n (b := 4294967296) (by decide)).symm
  · exact congrArg byteOf (Int.fdiv_eq_ediv_of_nonneg n (b := 16777216) (by decide)).symm
  · exact congrArg byteOf (Int.fdiv_eq_ediv_of_nonneg n (b := 65536) (by decide)).symm
  · exact congrArg byteOf (Int.fdiv_eq_ediv_of_nonneg n (b := 256) (by decide)).symm
  · exact congrArg byteOf ((Int.fdiv_eq_ediv_of_nonneg n (b := 1) (by decide)).trans (Int.ediv_one n)).symm
def nat8 (l : List UInt8) : Nat := l.foldl (fun a c => a * 256 + c.toNat) 0
theorem nat8_num8 (n : Int) : ((nat8 (num8 n) : Nat) : Int) = n % 18446744073709551616 := by
  simp only [nat8, num8, List.foldl_cons, List.foldl_nil]
  have h0 := byteOf_nat n
  have h1 := byteOf_nat (n / 256)
  have h2 := byteOf_nat (n / 65536)
  have h3 := byteOf_nat (n / 16777216)
  have h4 := byteOf_nat (n / 4294967296)
  have h5 := byteOf_nat (n / 1099511627776)
  have h6 := byteOf_nat (n / 281474976710656)
  have h7 := byteOf_nat (n / 72057594037927936)
  omega
def take8 (l : List UInt8) : Int := IntKind.i64.wrap (nat8 l)
theorem take8_num8 (n : Int) (h0 : -9223372036854775808 ≤ n) (h1 : n ≤ 9223372036854775807) : take8 (num8 n) = n := by
  rw [take8, nat8_num8, i64_wrap]; omega
theorem ofInt_wrap (z : Int) : BitVec.ofInt 64 (IntKind.i64.wrap z) = BitVec.ofInt 64 z := by
  apply BitVec.eq_of_toNat_eq
  rw [BitVec.toNat_ofInt, BitVec.toNat_ofInt, i64_wrap]
  have e1 : ((2 ^ 64 : Nat) : Int) = 18446744073709551616 := by decide
  rw [e1]
  omega
theorem shl_or (x : Nat) (c : UInt8) : IntKind.i64.wrap (BitVec.ofInt IntKind.i64.bits (IntKind.i64.wrap (IntKind.i64.wrap (x : Int) * 2 ^ (min (8 : Int).toNat IntKind.i64.bits))) ||| BitVec.ofInt IntKind.i64.bits (IntKind.i64.wrap (c.toNat : Int))).toNat =
    IntKind.i64.wrap ((x * 256 + c.toNat : Nat) : Int) := by
  show IntKind.i64.wrap (((BitVec.ofInt 64 (IntKind.i64.wrap (IntKind.i64.wrap (x : Int) * 2 ^ (min (8 : Int).toNat IntKind.i64.bits))) ||| BitVec.ofInt 64 (IntKind.i64.wrap (c.toNat : Int)) : BitVec 64)).toNat : Int) = _
  rw [ofInt_wrap, ofInt_wrap]
  have hc := c.toNat_lt
  have e : BitVec.ofInt 64 (IntKind.i64.wrap (x : Int) * 2 ^ (min (8 : Int).toNat IntKind.i64.bits)) = BitVec.ofInt 64 ((x % 72057594037927936 * 256 : Nat) : Int) := by
    show BitVec.ofInt 64 (IntKind.i64.wrap (x : Int) * 256) = _
    apply BitVec.eq_of_toNat_eq
    rw [BitVec.toNat_ofInt, BitVec.toNat_ofInt, i64_wrap]
    have e1 : ((2 ^ 64 : Nat) : Int) = 18446744073709551616 := by decide
    rw [e1]
    omega
  rw [e, BitVec.ofInt_natCast, BitVec.ofInt_natCast, BitVec.toNat_or, BitVec.toNat_ofNat, BitVec.toNat_ofNat]
  have h1 : x % 72057594037927936 * 256 % 2 ^ 64 = (x % 72057594037927936) <<< 8 := by rw [Nat.shiftLeft_eq]; omega
  have h2 : c.toNat % 2 ^ 64 = c.toNat := Nat.mod_eq_of_lt (by omega)
  rw [h1, h2, ← Nat.shiftLeft_add_eq_or_of_lt (by omega), Nat.shiftLeft_eq, i64_wrap, i64_wrap]
  omega
theorem nat8_snoc (l : List UInt8) (c : UInt8) : nat8 (l ++ [c]) = nat8 l * 256 + c.toNat := by simp [nat8]

def nameCh (c : UInt8) : Bool := (97 ≤ c.toNat && c.toNat ≤ 122) || (48 ≤ c.toNat && c.toNat ≤ 57)
def nameOk (l : List UInt8) : Bool := l.all nameCh && (!l.isEmpty && decide (l.length ≤ 20))
theorem getD_lt {l : List UInt8} {k : Nat} (h : k < l.length) : l.getD k 0 = l[k] := by simp [List.getD, List.getElem?_eq_getElem h]
theorem take_succ_getD {l : List UInt8} {k : Nat} (h : k < l.length) : l.take (k + 1) = l.take k ++ [l.getD k 0] := by rw [List.take_succ_eq_append_getElem h, getD_lt h]
/-- What a function hands back as its own bytes. -/
def OwnB (e : TypeId) (l : List UInt8) (v : Value) (_ : PH) (L' : OL) : Prop := ∃ s junk, v = s.v ∧ Acc s 1 (bc l) junk ∧ L' = accL s e (bc l) junk
theorem Sat.freezeB {E : Env} {e : TypeId} {s : SV} {l : List UInt8} {junk : List Value} {h : PH} {L2 : OL} {w : World} (ac : Acc s 1 (bc l) junk) (st : Sat E h (accL s e (bc l) junk ++ L2) w) :
    ∃ h', h.le h' ∧ Bs h' s.v l ∧ Sat E h' L2 w := by
  obtain ⟨h2, le2, sl, st2⟩ := st.freezeAcc ac
  refine ⟨h2, le2, ?_, st2⟩
  have := ac.len
  rw [bc_len, Nat.mul_one] at this
  unfold Bs
  rw [this]; exact sl
theorem Ct.frzB {P : Program} {k : FuncId} {args : Array Value} {h : PH} {L : OL} {e : TypeId} {l : List UInt8} (c : Ct P k args h L (OwnB e l)) : Ct P k args h L (fun v h' L' => L' = [] ∧ Bs h' v l) :=
  c.then_ fun E v h' L' w st ⟨s, junk, ev, ac, hL⟩ => by
    subst hL; subst ev
    obtain ⟨h2, _, b, st2⟩ := Sat.freezeB (L2 := []) ac (by simpa using st)
    exact ⟨h2, [], st2, rfl, b⟩
end Go.Bz
