/- Notes as plain values: what the program computes of them. Conditions: those that each theorem names. -/
import Derived.Test.YtijlkjbmjkmkfaaB7
namespace Go.Bz

structure NoteP where
  Kind : Int
  A : ByteArray
  B : ByteArray
  X : AB 16
  Y : AB 16
  P : List UInt8
  Q : List UInt8
  R : List UInt8
def NoteP.zero : NoteP := ⟨0, ByteArray.empty, ByteArray.empty, AB.zero 16, AB.zero 16, [], [], []⟩
/-- m, in memory, is the note p. -/
structure NR (h : PH) (m : NoteM) (u : NoteP) : Prop where
  k : m.Kind = u.Kind
  a : m.A = u.A
  b : m.B = u.B
  x : m.X = u.X
  y : m.Y = u.Y
  p : Bs h m.P.v u.P
  q : Bs h m.Q.v u.Q
  r : Bs h m.R.v u.R
theorem NR.mono {h h' : PH} {m : NoteM} {p : NoteP} (n : NR h m p) (le : h.le h') : NR h' m p := ⟨n.k, n.a, n.b, n.x, n.y, n.p.mono le, n.q.mono le, n.r.mono le⟩
theorem NR.zero (h : PH) : NR h NoteM.zero NoteP.zero := ⟨rfl, rfl, rfl, rfl, rfl, Bs.nil h, Bs.nil h, Bs.nil h⟩
/-- Its texts and bytes are not too long to be handled. -/
structure NoteP.Fits (u : NoteP) : Prop where
  a : u.A.size < 1000000000000
  b : u.B.size < 1000000000000
  p : u.P.length < 1000000000000
  q : u.Q.length < 1000000000000
  r : u.R.length < 1000000000000
theorem NoteP.zero_fits : NoteP.zero.Fits := ⟨by decide, by decide, by decide, by decide, by decide⟩

def sameN (a b : NoteP) : Bool := ((((((decide (a.Kind = b.Kind) && decide (a.A = b.A)) && decide (a.B = b.B)) && decide (a.X.1 = b.X.1)) && decide (a.Y.1 = b.Y.1)) && decide (a.P = b.P)) && decide (a.Q = b.Q)) && decide (a.R = b.R)
theorem sameN_iff {a b : NoteP} : sameN a b = true ↔ a = b := by
  obtain ⟨k, A, B, X, Y, P, Q, R⟩ := a
  obtain ⟨k', A', B', X', Y', P', Q', R'⟩ := b
  simp only [sameN, Bool.and_eq_true, decide_eq_true_eq, NoteP.mk.injEq]
  constructor
  · rintro ⟨⟨⟨⟨⟨⟨⟨h1, h2⟩, h3⟩, h4⟩, h5⟩, h6⟩, h7⟩, h8⟩; exact ⟨h1, h2, h3, Subtype.ext h4, Subtype.ext h5, h6, h7, h8⟩
  · rintro ⟨h1, h2, h3, h4, h5, h6, h7, h8⟩; exact ⟨⟨⟨⟨⟨⟨⟨h1, h2⟩, h3⟩, by rw [h4]⟩, by rw [h5]⟩, h6⟩, h7⟩, h8⟩
theorem sameN_refl (a : NoteP) : sameN a a = true := sameN_iff.2 rfl

inductive Lt
  | A | B | X | Y | P | Q | R
deriving DecidableEq
def Lt.code : Lt → UInt8
  | .A => 65 | .B => 66 | .X => 88 | .Y => 89 | .P => 80 | .Q => 81 | .R => 82
def hasL : List (List Lt) := [[], [.A, .X], [.B, .P, .Y], [.P, .Q, .Y], [.Q, .P], [.P], [.A, .X], [.A, .X, .B, .Y], [.P, .Q], [.P, .Q, .R, .Y], [.P], [.Q, .X], [.Y, .P], [.P], [.A, .X], [.P], [.A]]
def hasT (k : Int) : List Lt := if k < 1 ∨ 16 < k then [] else hasL.getD k.toNat []
def codes (l : List Lt) : List UInt8 := l.map Lt.code
def getL (n : NoteP) : Lt → List UInt8
  | .A => n.A.data.toList | .B => n.B.data.toList | .X => n.X.1 | .Y => n.Y.1 | .P => n.P | .Q => n.Q | .R => n.R
def wordOf (b : List UInt8) : AB 16 := if h : b.length = 16 then ⟨b, h⟩ else AB.zero 16
def setL (n : NoteP) : Lt → List UInt8 → NoteP × Bool
  | .A, b => ({ n with A := ⟨b.toArray⟩ }, nameOk b)
  | .B, b => ({ n with B := ⟨b.toArray⟩ }, nameOk b)
  | .X, b => ({ n with X := wordOf b }, decide (b.length = 16))
  | .Y, b => ({ n with Y := wordOf b }, decide (b.length = 16))
  | .P, b => ({ n with P := b }, true)
  | .Q, b => ({ n with Q := b }, true)
  | .R, b => ({ n with R := b }, true)
def setAll (n : NoteP) : List Lt → List (List UInt8) → Option NoteP
  | c :: s, b :: l => if (setL n c b).2 then setAll (setL n c b).1 s l else none
  | _, _ => some n
def madeN (k : Int) (l : List (List UInt8)) : Option NoteP := if hasT k = [] ∨ l.length ≠ (hasT k).length then none else setAll { NoteP.zero with Kind := k } (hasT k) l
def partsN (n : NoteP) : List (List UInt8) := (hasT n.Kind).map (getL n)
def bigN (l : List (List UInt8)) : Bool := l.any fun b => decide (500 < b.length)
def rightN (n : NoteP) : Bool := match madeN n.Kind (partsN n) with
  | some m => sameN n m && !bigN (partsN n)
  | none => false
def putN (n : NoteP) : Option (List UInt8) := if rightN n then some (byteOf n.Kind :: encs (partsN n)) else none
def readN : List UInt8 → Option NoteP
  | [] => none
  | k :: r => match fsplit 0 r with
    | .ok l => madeN k.toNat l
    | .error _ => none
theorem hasT_len (k : Int) : (hasT k).length ≤ 4 := by
  unfold hasT
  split
  · simp
  · rename_i h
    have : ∀ i, i < 17 → (hasL.getD i []).length ≤ 4 := by decide
    exact this k.toNat (by omega)
theorem hasT_cases (k : Int) : hasT k = [] ∨ (k = 1 ∧ hasT k = [.A, .X]) ∨ (k = 2 ∧ hasT k = [.B, .P, .Y]) ∨ (k = 3 ∧ hasT k = [.P, .Q, .Y]) ∨ (k = 4 ∧ hasT k = [.Q, .P]) ∨ (k = 5 ∧ hasT k = [.P]) ∨ (k = 6 ∧ hasT k = [.A, .X]) ∨ (k = 7 ∧ hasT k = [.A, .X, .B, .Y]) ∨
    (k = 8 ∧ hasT k = [.P, .Q]) ∨ (k = 9 ∧ hasT k = [.P, .Q, .R, .Y]) ∨ (k = 10 ∧ hasT k = [.P]) ∨ (k = 11 ∧ hasT k = [.Q, .X]) ∨ (k = 12 ∧ hasT k = [.Y, .P]) ∨ (k = 13 ∧ hasT k = [.P]) ∨ (k = 14 ∧ hasT k = [.A, .X]) ∨ (k = 15 ∧ hasT k = [.P]) ∨ (k = 16 ∧ hasT k = [.A]) := by
  by_cases h : k < 1 ∨ 16 < k
  · left; unfold hasT; rw [if_pos h]
  · right
    have : k = 1 ∨ k = 2 ∨ k = 3 ∨ k = 4 ∨ k = 5 ∨ k = 6 ∨ k = 7 ∨ k = 8 ∨ k = 9 ∨ k = 10 ∨ k = 11 ∨ k = 12 ∨ k = 13 ∨ k = 14 ∨ k = 15 ∨ k = 16 := by omega
    rcases this with h | h | h | h | h | h | h | h | h | h | h | h | h | h | h | h <;> subst h <;> decide
theorem code_inj {a b : Lt} (h : a.code = b.code) : a = b := by revert h; cases a <;> cases b <;> decide
end Go.Bz
