/- The fields' encoding, as plain functions on lists of bytes. Conditions: those that each theorem names. -/
namespace Go.Bz

def hd2 (n : Nat) : List UInt8 := [UInt8.ofNat (n / 256), UInt8.ofNat n]
def enc1 (p : List UInt8) : List UInt8 := hd2 p.length ++ p
def encs (ll : List (List UInt8)) : List UInt8 := ll.flatMap enc1
def fput (ll : List (List UInt8)) : Option (List UInt8) := if ll.length ≤ 20 ∧ ∀ p ∈ ll, p.length ≤ 500 then some (encs ll) else none

def num2 (x y : UInt8) : Nat := x.toNat * 256 + y.toNat
def fsplit (k : Nat) (b : List UInt8) : Except Int (List (List UInt8)) := match b with
  | [] => .ok []
  | [_] => .error 2
  | x :: y :: r => if num2 x y > 500 ∨ k = 20 then .error 7 else if num2 x y > r.length then .error 2 else (fsplit (k + 1) (r.drop (num2 x y))).map (r.take (num2 x y) :: ·)
termination_by b.length
decreasing_by simp; omega

theorem num2_hd2 (n : Nat) (h : n < 65536) : ∃ x y, hd2 n = [x, y] ∧ num2 x y = n := by
  refine ⟨_, _, rfl, ?_⟩
  simp [num2]
  omega
theorem fsplit_encs : ∀ (ll : List (List UInt8)) (k : Nat), k + ll.length ≤ 20 → (∀ p ∈ ll, p.length ≤ 500) → fsplit k (encs ll) = .ok ll
  | [], k, _, _ => by simp [encs, fsplit]
  | p :: ll, k, hk, hp => by
    have h1 := hp p (by simp)
    obtain ⟨x, y, hxy, hn⟩ := num2_hd2 p.length (by omega)
    have ih := fsplit_encs ll (k + 1) (by simp at hk; omega) (fun q hq => hp q (by simp [hq]))
    have e : encs (p :: ll) = x :: y :: (p ++ encs ll) := by simp [encs, enc1, hxy]
    rw [e, fsplit, hn, if_neg (by simp at hk; omega), if_neg (by simp), List.drop_left, ih, List.take_left]
    rfl
theorem encs_snoc (ll : List (List UInt8)) (p : List UInt8) : encs (ll ++ [p]) = encs ll ++ (hd2 p.length ++ p) := by simp [encs, enc1]
theorem encs_len (ll : List (List UInt8)) (h : ∀ p ∈ ll, p.length ≤ 500) : (encs ll).length ≤ ll.length * 502 := by
  induction ll with
  | nil => simp [encs]
  | cons p ll ih =>
    have h1 := hp_len p ll h
    have := ih (fun q hq => h q (by simp [hq]))
    have e : (encs (p :: ll)).length = 2 + p.length + (encs ll).length := by simp [encs, enc1, hd2]; omega
    rw [e, List.length_cons, Nat.add_mul]; omega
where hp_len (p : List UInt8) (ll : List (List UInt8)) (h : ∀ q ∈ p :: ll, q.length ≤ 500) : p.length ≤ 500 := h p (by simp)
end Go.Bz
