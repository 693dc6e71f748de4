/- Notes that came in. Conditions: none. -/
import Derived.Test.YtijlkjbmjkmkfaaC4
import Derived.Test.YtijlkjbmjkmkfaaN8
namespace Go.Proofs
open Go Go.Bz
instance : TFt Try.prog 35 0 3 0 := mkTFt (by kernel_rfl)
instance : TFt Try.prog 35 1 9 1 := mkTFt (by kernel_rfl)
instance : TFt Try.prog 35 2 9 2 := mkTFt (by kernel_rfl)
instance : TFt Try.prog 35 3 33 3 := mkTFt (by kernel_rfl)
instance : TFt Try.prog 35 4 33 19 := mkTFt (by kernel_rfl)
instance : TFt Try.prog 35 5 22 35 := mkTFt (by kernel_rfl)
instance : TFt Try.prog 35 6 22 36 := mkTFt (by kernel_rfl)
instance : TFt Try.prog 35 7 22 37 := mkTFt (by kernel_rfl)
theorem wide_of {n : Nat} (h : n ≤ reachBytes) : n ≤ 140737488355328 := Nat.le_trans h (by decide)
theorem note_in {H : Type} {enc : TypeId × Value → H} {w : World} {cs : List Value} (g : G enc Try.prog w 35 cs) : ∃ (n : NoteM) (u : NoteP), cs = n.cells ∧ NR (hp w) n u ∧ NoteP.Wide u := by
  have hl := g.len
  obtain ⟨k, e0, _⟩ := (g.fld (i := 0)).i64
  obtain ⟨a, e1, la⟩ := (g.fld (i := 1)).str
  obtain ⟨b, e2, lb⟩ := (g.fld (i := 2)).str
  obtain ⟨x, e3⟩ := (g.fld (i := 3)).ab
  obtain ⟨y, e4⟩ := (g.fld (i := 4)).ab
  obtain ⟨p, lp, e5, hp, lp'⟩ := (g.fld (i := 5)).bytes
  obtain ⟨q, lq, e6, hq, lq'⟩ := (g.fld (i := 6)).bytes
  obtain ⟨r, lr, e7, hr, lr'⟩ := (g.fld (i := 7)).bytes
  refine ⟨⟨k, a, b, x, y, p, q, r⟩, ⟨k, a, b, x, y, lp, lq, lr⟩, ?_, ⟨rfl, rfl, rfl, rfl, rfl, hp, hq, hr⟩, ⟨wide_of la, wide_of lb, wide_of lp', wide_of lq', wide_of lr'⟩⟩
  unfold NoteM.cells
  rw [← e0, ← e1, ← e2, ← e3, ← e4, ← e5, ← e6, ← e7]
  exact cut8 cs 1 1 1 16 16 1 1 1 (by rw [hl])
end Go.Proofs
