/-
  Models of the program's structs and arrays, as lists of cells (written by wip/gentypes.py). Conditions: none.
-/
import Derived.Test.YtijlkjbmjkmkfaaB3
namespace Go.Bz

def bc (l : List UInt8) : List Value := l.map fun b => .int .u8 b.toNat
theorem bc_len (l : List UInt8) : (bc l).length = l.length := by simp [bc]
theorem bc_append (a b : List UInt8) : bc (a ++ b) = bc a ++ bc b := by simp [bc]
theorem bc_inj {a b : List UInt8} (h : bc a = bc b) : a = b := by
  induction a generalizing b with
  | nil => cases b <;> simp_all [bc]
  | cons x a ih =>
    cases b with
    | nil => simp [bc] at h
    | cons y b =>
      simp only [bc, List.map_cons, List.cons.injEq, Value.int.injEq, true_and] at h
      have h1 := h.1
      rw [ih h.2, show x = y from UInt8.toNat_inj.1 (by omega)]
theorem bc_ones (l : List UInt8) : Ones (bc l) := by
  intro v hv
  obtain ⟨b, _, rfl⟩ := List.mem_map.1 hv
  rfl
def AB (n : Nat) := { l : List UInt8 // l.length = n }
def AB.cells {n : Nat} (k : AB n) : List Value := bc k.1
def AB.zero (n : Nat) : AB n := ⟨List.replicate n 0, by simp⟩
theorem AB.len {n : Nat} (k : AB n) : k.cells.length = n := by simp [AB.cells, bc_len, k.2]
theorem AB.ones {n : Nat} (k : AB n) : Ones k.cells := bc_ones _
def AB.v {n : Nat} (k : AB n) : Value := .agg k.cells.toArray
def uc (l : List UInt32) : List Value := l.map fun b => .int .u32 b.toNat
theorem uc_len (l : List UInt32) : (uc l).length = l.length := by simp [uc]
theorem uc_ones (l : List UInt32) : Ones (uc l) := by
  intro v hv
  obtain ⟨b, _, rfl⟩ := List.mem_map.1 hv
  rfl
def AU (n : Nat) := { l : List UInt32 // l.length = n }
def AU.cells {n : Nat} (k : AU n) : List Value := uc k.1
def AU.zero (n : Nat) : AU n := ⟨List.replicate n 0, by simp⟩
theorem AU.len {n : Nat} (k : AU n) : k.cells.length = n := by simp [AU.cells, uc_len, k.2]
theorem AU.ones {n : Nat} (k : AU n) : Ones k.cells := uc_ones _
def AU.v {n : Nat} (k : AU n) : Value := .agg k.cells.toArray
/-- The places of a struct's fields, and how many cells each takes. -/
class TSt (P : Program) (t : TypeId) (pl : outParam (List (Nat × Nat))) : Prop where
  u : ∃ fs, P.underlying t = some (.struct fs) ∧ fs.toList.map (fun fd => (P.info? fd.type).map fun j => (fd.offset, j.size)) = pl.map some
/-- A value's cells. -/
class VC (v : Value) (cs : outParam (List Value)) : Prop where
  eq : v.cells = cs.toArray
class Len (vs : List Value) (n : outParam Nat) : Prop where
  eq : vs.length = n
class OnesC (vs : List Value) : Prop where
  eq : Ones vs
instance (b : Bool) : VC (.bool b) [.bool b] := ⟨rfl⟩
instance (k : IntKind) (n : Int) : VC (.int k n) [.int k n] := ⟨rfl⟩
instance (s : ByteArray) : VC (.string s) [.string s] := ⟨rfl⟩
instance (a : Option Addr) : VC (.pointer a) [.pointer a] := ⟨rfl⟩
instance (a : Option Addr) (n c : Nat) : VC (.slice a n c) [.slice a n c] := ⟨rfl⟩
instance (s : SV) : VC s.v [s.v] := ⟨rfl⟩
instance (r : Option Nat) : VC (.map r) [.map r] := ⟨rfl⟩
instance (fn : Fn) (a b : Array Value) : VC (.func fn a b) [.func fn a b] := ⟨rfl⟩
instance : VC .nilFunc [.nilFunc] := ⟨rfl⟩
instance (cs : List Value) : VC (.agg cs.toArray) cs := ⟨rfl⟩
instance {n : Nat} (k : AB n) : VC k.v k.cells := ⟨rfl⟩
instance {n : Nat} (k : AU n) : VC k.v k.cells := ⟨rfl⟩
instance (v : Value) : Len [v] 1 := ⟨rfl⟩
instance {n : Nat} (k : AB n) : Len k.cells n := ⟨k.len⟩
instance {n : Nat} (k : AU n) : Len k.cells n := ⟨k.len⟩
theorem ones_one {v : Value} (h : v.oneCell' = true) : Ones [v] := fun u hu => by rw [List.mem_singleton.1 hu]; exact h
instance (b : Bool) : OnesC [.bool b] := ⟨ones_one rfl⟩
instance (k : IntKind) (n : Int) : OnesC [.int k n] := ⟨ones_one rfl⟩
instance (s : ByteArray) : OnesC [.string s] := ⟨ones_one rfl⟩
instance (a : Option Addr) : OnesC [.pointer a] := ⟨ones_one rfl⟩
instance (a : Option Addr) (n c : Nat) : OnesC [.slice a n c] := ⟨ones_one rfl⟩
instance (s : SV) : OnesC [s.v] := ⟨ones_one rfl⟩
instance (r : Option Nat) : OnesC [.map r] := ⟨ones_one rfl⟩
instance (fn : Fn) (a b : Array Value) : OnesC [.func fn a b] := ⟨ones_one rfl⟩
instance : OnesC [.nilFunc] := ⟨ones_one rfl⟩
instance (l : List UInt8) : OnesC (bc l) := ⟨bc_ones l⟩
instance (l : List UInt8) : Len (bc l) l.length := ⟨bc_len l⟩
instance {n : Nat} (k : AB n) : OnesC k.cells := ⟨k.ones⟩
instance {n : Nat} (k : AU n) : OnesC k.cells := ⟨k.ones⟩
/-- Cells o to o + n of a row are vs. -/
class Seg (cs : List Value) (o n : Nat) (vs : outParam (List Value)) : Prop where
  eq : (cs.drop o).take n = vs
  le : o + n ≤ cs.length
/-- vs laid over a row from o on. -/
class Spl (cs : List Value) (o : Nat) (vs : List Value) (cs' : outParam (List Value)) : Prop where
  eq : spl cs o vs = cs'
  le : o + vs.length ≤ cs.length
theorem len_app {a b : List Value} {x y : Nat} (h : a.length = x) (k : b.length = y) : (a ++ b).length = x + y := by simp [h, k]
theorem seg_at (a b c : List Value) (o n : Nat) (ho : a.length = o) (hn : b.length = n) : ((a ++ (b ++ c)).drop o).take n = b := by subst ho; subst hn; simp
theorem spl_at (a b c b' : List Value) (o : Nat) (ho : a.length = o) (hb : b'.length = b.length) : spl (a ++ (b ++ c)) o b' = a ++ (b' ++ c) := by
  subst ho
  rw [spl, hb, ← List.drop_drop]
  simp
theorem ones_nil : Ones [] := fun _ h => by cases h
theorem ones_cons {v : Value} {l : List Value} (h : v.oneCell' = true) (k : Ones l) : Ones (v :: l) := by
  intro u hu
  rcases List.mem_cons.1 hu with e | hu
  · rw [e]; exact h
  · exact k u hu
theorem ones_append {a b : List Value} (h : Ones a) (k : Ones b) : Ones (a ++ b) := fun u hu => (List.mem_append.1 hu).elim (h u) (k u)
theorem seg_head {b c : List Value} {n : Nat} (h : b.length = n) : Seg (b ++ c) 0 n b := ⟨by subst h; simp, by simp; omega⟩
theorem seg_skip {a c vs : List Value} {k i n : Nat} (h : a.length = k) (S : Seg c i n vs) : Seg (a ++ c) (k + i) n vs := by
  subst h
  have := S.le
  exact ⟨by rw [← List.drop_drop]; simpa using S.eq, by simp; omega⟩
theorem seg_inh {b c vs : List Value} {i n : Nat} (S : Seg b i n vs) : Seg (b ++ c) i n vs := by
  have h := S.le
  refine ⟨?_, by simp; omega⟩
  rw [List.drop_append_of_le_length (by omega), List.take_append_of_le_length (by simp; omega)]
  exact S.eq
theorem spl_head {b c vs : List Value} (h : b.length = vs.length) : Spl (b ++ c) 0 vs (vs ++ c) := ⟨by simp [spl, ← h], by simp; omega⟩
theorem spl_skip {a c vs r : List Value} {k i : Nat} (h : a.length = k) (S : Spl c i vs r) : Spl (a ++ c) (k + i) vs (a ++ r) := by
  subst h
  have := S.le
  refine ⟨?_, by simp; omega⟩
  rw [← S.eq]
  unfold spl
  rw [List.take_length_add_append, show a.length + i + vs.length = a.length + (i + vs.length) from Nat.add_assoc _ _ _, List.drop_length_add_append]
  simp
theorem spl_all {b vs : List Value} (h : b.length = vs.length) : Spl b 0 vs vs := ⟨by simp [spl, ← h], by omega⟩
theorem spl_inh {b c vs r : List Value} {i : Nat} (S : Spl b i vs r) : Spl (b ++ c) i vs (r ++ c) := by
  have := S.le
  refine ⟨?_, by simp; omega⟩
  rw [← S.eq]
  unfold spl
  rw [List.take_append_of_le_length (by omega), List.drop_append_of_le_length (by omega)]
  simp
instance (v : Value) : Seg [v] 0 1 [v] := ⟨rfl, by simp⟩
instance (v u : Value) : Spl [v] 0 [u] [u] := ⟨rfl, by simp⟩
instance {n : Nat} (k : AB n) : Seg k.cells 0 n k.cells := ⟨by rw [List.drop_zero, List.take_of_length_le (by rw [k.len]; exact Nat.le_refl _)], by rw [k.len]; omega⟩
instance {n : Nat} (k k' : AB n) : Spl k.cells 0 k'.cells k'.cells := ⟨by simp [spl, AB.len], by simp [AB.len]⟩
instance {n : Nat} (k : AU n) : Seg k.cells 0 n k.cells := ⟨by rw [List.drop_zero, List.take_of_length_le (by rw [k.len]; exact Nat.le_refl _)], by rw [k.len]; omega⟩
instance {n : Nat} (k k' : AU n) : Spl k.cells 0 k'.cells k'.cells := ⟨by simp [spl, AU.len], by simp [AU.len]⟩

structure NoteM where
  Kind : Int
  A : ByteArray
  B : ByteArray
  X : AB 16
  Y : AB 16
  P : SV
  Q : SV
  R : SV
def NoteM.zero : NoteM := ⟨0, ByteArray.empty, ByteArray.empty, AB.zero 16, AB.zero 16, SV.nil, SV.nil, SV.nil⟩
def NoteM.cells (m : NoteM) : List Value := [.int .i64 m.Kind] ++ ([.string m.A] ++ ([.string m.B] ++ (m.X.cells ++ (m.Y.cells ++ ([SV.v m.P] ++ ([SV.v m.Q] ++ ([SV.v m.R] ++ [])))))))
theorem NoteM.len (m : NoteM) : m.cells.length = 38 := len_app (rfl) (len_app (rfl) (len_app (rfl) (len_app (m.X.len) (len_app (m.Y.len) (len_app (rfl) (len_app (rfl) (len_app (rfl) (rfl))))))))
theorem NoteM.ones (m : NoteM) : Ones m.cells := ones_append (ones_cons rfl ones_nil) (ones_append (ones_cons rfl ones_nil) (ones_append (ones_cons rfl ones_nil) (ones_append (m.X.ones) (ones_append (m.Y.ones) (ones_append (ones_cons rfl ones_nil) (ones_append (ones_cons rfl ones_nil) (ones_append (ones_cons rfl ones_nil) (ones_nil))))))))
def NoteM.v (m : NoteM) : Value := .agg m.cells.toArray
instance (m : NoteM) : VC m.v m.cells := ⟨rfl⟩
instance (m : NoteM) : Len m.cells 38 := ⟨m.len⟩
instance (m : NoteM) : OnesC m.cells := ⟨m.ones⟩
instance (m : NoteM) : Seg m.cells 0 38 m.cells := ⟨by rw [List.drop_zero, List.take_of_length_le (Nat.le_of_eq m.len)], Nat.le_of_eq (by rw [m.len])⟩
instance (m m' : NoteM) : Spl m.cells 0 m'.cells m'.cells := spl_all (m.len.trans m'.len.symm)
instance (m : NoteM) : Seg m.cells 0 1 [.int .i64 m.Kind] := seg_head (rfl)
instance (m : NoteM) (x : Int) : Spl m.cells 0 [.int .i64 x] (NoteM.cells { m with Kind := x }) := spl_head rfl
instance (m : NoteM) : Seg m.cells 1 1 [.string m.A] := seg_skip (k := 1) (i := 0) (rfl) (seg_head (rfl))
instance (m : NoteM) (x : ByteArray) : Spl m.cells 1 [.string x] (NoteM.cells { m with A := x }) := spl_skip (k := 1) (i := 0) (rfl) (spl_head rfl)
instance (m : NoteM) : Seg m.cells 2 1 [.string m.B] := seg_skip (k := 1) (i := 1) (rfl) (seg_skip (k := 1) (i := 0) (rfl) (seg_head (rfl)))
instance (m : NoteM) (x : ByteArray) : Spl m.cells 2 [.string x] (NoteM.cells { m with B := x }) := spl_skip (k := 1) (i := 1) (rfl) (spl_skip (k := 1) (i := 0) (rfl) (spl_head rfl))
instance (m : NoteM) : Seg m.cells 3 16 (m.X.cells) := seg_skip (k := 1) (i := 2) (rfl) (seg_skip (k := 1) (i := 1) (rfl) (seg_skip (k := 1) (i := 0) (rfl) (seg_head (m.X.len))))
instance (m : NoteM) (x : AB 16) : Spl m.cells 3 (x.cells) (NoteM.cells { m with X := x }) := spl_skip (k := 1) (i := 2) (rfl) (spl_skip (k := 1) (i := 1) (rfl) (spl_skip (k := 1) (i := 0) (rfl) (spl_head (m.X.len.trans x.len.symm))))
instance (m : NoteM) : Seg m.cells 19 16 (m.Y.cells) := seg_skip (k := 1) (i := 18) (rfl) (seg_skip (k := 1) (i := 17) (rfl) (seg_skip (k := 1) (i := 16) (rfl) (seg_skip (k := 16) (i := 0) (m.X.len) (seg_head (m.Y.len)))))
instance (m : NoteM) (x : AB 16) : Spl m.cells 19 (x.cells) (NoteM.cells { m with Y := x }) := spl_skip (k := 1) (i := 18) (rfl) (spl_skip (k := 1) (i := 17) (rfl) (spl_skip (k := 1) (i := 16) (rfl) (spl_skip (k := 16) (i := 0) (m.X.len) (spl_head (m.Y.len.trans x.len.symm)))))
instance (m : NoteM) : Seg m.cells 35 1 [SV.v m.P] := seg_skip (k := 1) (i := 34) (rfl) (seg_skip (k := 1) (i := 33) (rfl) (seg_skip (k := 1) (i := 32) (rfl) (seg_skip (k := 16) (i := 16) (m.X.len) (seg_skip (k := 16) (i := 0) (m.Y.len) (seg_head (rfl))))))
instance (m : NoteM) (x : SV) : Spl m.cells 35 [SV.v x] (NoteM.cells { m with P := x }) := spl_skip (k := 1) (i := 34) (rfl) (spl_skip (k := 1) (i := 33) (rfl) (spl_skip (k := 1) (i := 32) (rfl) (spl_skip (k := 16) (i := 16) (m.X.len) (spl_skip (k := 16) (i := 0) (m.Y.len) (spl_head rfl)))))
instance (m : NoteM) : Seg m.cells 36 1 [SV.v m.Q] := seg_skip (k := 1) (i := 35) (rfl) (seg_skip (k := 1) (i := 34) (rfl) (seg_skip (k := 1) (i := 33) (rfl) (seg_skip (k := 16) (i := 17) (m.X.len) (seg_skip (k := 16) (i := 1) (m.Y.len) (seg_skip (k := 1) (i := 0) (rfl) (seg_head (rfl)))))))
instance (m : NoteM) (x : SV) : Spl m.cells 36 [SV.v x] (NoteM.cells { m with Q := x }) := spl_skip (k := 1) (i := 35) (rfl) (spl_skip (k := 1) (i := 34) (rfl) (spl_skip (k := 1) (i := 33) (rfl) (spl_skip (k := 16) (i := 17) (m.X.len) (spl_skip (k := 16) (i := 1) (m.Y.len) (spl_skip (k := 1) (i := 0) (rfl) (spl_head rfl))))))
instance (m : NoteM) : Seg m.cells 37 1 [SV.v m.R] := seg_skip (k := 1) (i := 36) (rfl) (seg_skip (k := 1) (i := 35) (rfl) (seg_skip (k := 1) (i := 34) (rfl) (seg_skip (k := 16) (i := 18) (m.X.len) (seg_skip (k := 16) (i := 2) (m.Y.len) (seg_skip (k := 1) (i := 1) (rfl) (seg_skip (k := 1) (i := 0) (rfl) (seg_head (rfl))))))))
instance (m : NoteM) (x : SV) : Spl m.cells 37 [SV.v x] (NoteM.cells { m with R := x }) := spl_skip (k := 1) (i := 36) (rfl) (spl_skip (k := 1) (i := 35) (rfl) (spl_skip (k := 1) (i := 34) (rfl) (spl_skip (k := 16) (i := 18) (m.X.len) (spl_skip (k := 16) (i := 2) (m.Y.len) (spl_skip (k := 1) (i := 1) (rfl) (spl_skip (k := 1) (i := 0) (rfl) (spl_head rfl)))))))

structure L14Op where
  Do : Int
  N : Int
  B : SV
def L14Op.zero : L14Op := ⟨0, 0, SV.nil⟩
def L14Op.cells (m : L14Op) : List Value := [.int .i64 m.Do] ++ ([.int .i64 m.N] ++ ([SV.v m.B] ++ []))
theorem L14Op.len (m : L14Op) : m.cells.length = 3 := len_app (rfl) (len_app (rfl) (len_app (rfl) (rfl)))
theorem L14Op.ones (m : L14Op) : Ones m.cells := ones_append (ones_cons rfl ones_nil) (ones_append (ones_cons rfl ones_nil) (ones_append (ones_cons rfl ones_nil) (ones_nil)))
def L14Op.v (m : L14Op) : Value := .agg m.cells.toArray
instance (m : L14Op) : VC m.v m.cells := ⟨rfl⟩
instance (m : L14Op) : Len m.cells 3 := ⟨m.len⟩
instance (m : L14Op) : OnesC m.cells := ⟨m.ones⟩
instance (m : L14Op) : Seg m.cells 0 3 m.cells := ⟨by rw [List.drop_zero, List.take_of_length_le (Nat.le_of_eq m.len)], Nat.le_of_eq (by rw [m.len])⟩
instance (m m' : L14Op) : Spl m.cells 0 m'.cells m'.cells := spl_all (m.len.trans m'.len.symm)
instance (m : L14Op) : Seg m.cells 0 1 [.int .i64 m.Do] := seg_head (rfl)
instance (m : L14Op) (x : Int) : Spl m.cells 0 [.int .i64 x] (L14Op.cells { m with Do := x }) := spl_head rfl
instance (m : L14Op) : Seg m.cells 1 1 [.int .i64 m.N] := seg_skip (k := 1) (i := 0) (rfl) (seg_head (rfl))
instance (m : L14Op) (x : Int) : Spl m.cells 1 [.int .i64 x] (L14Op.cells { m with N := x }) := spl_skip (k := 1) (i := 0) (rfl) (spl_head rfl)
instance (m : L14Op) : Seg m.cells 2 1 [SV.v m.B] := seg_skip (k := 1) (i := 1) (rfl) (seg_skip (k := 1) (i := 0) (rfl) (seg_head (rfl)))
instance (m : L14Op) (x : SV) : Spl m.cells 2 [SV.v x] (L14Op.cells { m with B := x }) := spl_skip (k := 1) (i := 1) (rfl) (spl_skip (k := 1) (i := 0) (rfl) (spl_head rfl))

structure BookM where
  L : SV
  Revoked : SV
  Gen : Int
  Own : AB 16
def BookM.zero : BookM := ⟨SV.nil, SV.nil, 0, AB.zero 16⟩
def BookM.cells (m : BookM) : List Value := [SV.v m.L] ++ ([SV.v m.Revoked] ++ ([.int .i64 m.Gen] ++ (m.Own.cells ++ [])))
theorem BookM.len (m : BookM) : m.cells.length = 19 := len_app (rfl) (len_app (rfl) (len_app (rfl) (len_app (m.Own.len) (rfl))))
theorem BookM.ones (m : BookM) : Ones m.cells := ones_append (ones_cons rfl ones_nil) (ones_append (ones_cons rfl ones_nil) (ones_append (ones_cons rfl ones_nil) (ones_append (m.Own.ones) (ones_nil))))
def BookM.v (m : BookM) : Value := .agg m.cells.toArray
instance (m : BookM) : VC m.v m.cells := ⟨rfl⟩
instance (m : BookM) : Len m.cells 19 := ⟨m.len⟩
instance (m : BookM) : OnesC m.cells := ⟨m.ones⟩
instance (m : BookM) : Seg m.cells 0 19 m.cells := ⟨by rw [List.drop_zero, List.take_of_length_le (Nat.le_of_eq m.len)], Nat.le_of_eq (by rw [m.len])⟩
instance (m m' : BookM) : Spl m.cells 0 m'.cells m'.cells := spl_all (m.len.trans m'.len.symm)
instance (m : BookM) : Seg m.cells 0 1 [SV.v m.L] := seg_head (rfl)
instance (m : BookM) (x : SV) : Spl m.cells 0 [SV.v x] (BookM.cells { m with L := x }) := spl_head rfl
instance (m : BookM) : Seg m.cells 1 1 [SV.v m.Revoked] := seg_skip (k := 1) (i := 0) (rfl) (seg_head (rfl))
instance (m : BookM) (x : SV) : Spl m.cells 1 [SV.v x] (BookM.cells { m with Revoked := x }) := spl_skip (k := 1) (i := 0) (rfl) (spl_head rfl)
instance (m : BookM) : Seg m.cells 2 1 [.int .i64 m.Gen] := seg_skip (k := 1) (i := 1) (rfl) (seg_skip (k := 1) (i := 0) (rfl) (seg_head (rfl)))
instance (m : BookM) (x : Int) : Spl m.cells 2 [.int .i64 x] (BookM.cells { m with Gen := x }) := spl_skip (k := 1) (i := 1) (rfl) (spl_skip (k := 1) (i := 0) (rfl) (spl_head rfl))
instance (m : BookM) : Seg m.cells 3 16 (m.Own.cells) := seg_skip (k := 1) (i := 2) (rfl) (seg_skip (k := 1) (i := 1) (rfl) (seg_skip (k := 1) (i := 0) (rfl) (seg_head (m.Own.len))))
instance (m : BookM) (x : AB 16) : Spl m.cells 3 (x.cells) (BookM.cells { m with Own := x }) := spl_skip (k := 1) (i := 2) (rfl) (spl_skip (k := 1) (i := 1) (rfl) (spl_skip (k := 1) (i := 0) (rfl) (spl_head (m.Own.len.trans x.len.symm))))

structure RBookM where
  L : SV
  Revoked : SV
  Gen : Int
  Own : AB 16
def RBookM.zero : RBookM := ⟨SV.nil, SV.nil, 0, AB.zero 16⟩
def RBookM.cells (m : RBookM) : List Value := [SV.v m.L] ++ ([SV.v m.Revoked] ++ ([.int .i64 m.Gen] ++ (m.Own.cells ++ [])))
theorem RBookM.len (m : RBookM) : m.cells.length = 19 := len_app (rfl) (len_app (rfl) (len_app (rfl) (len_app (m.Own.len) (rfl))))
theorem RBookM.ones (m : RBookM) : Ones m.cells := ones_append (ones_cons rfl ones_nil) (ones_append (ones_cons rfl ones_nil) (ones_append (ones_cons rfl ones_nil) (ones_append (m.Own.ones) (ones_nil))))
def RBookM.v (m : RBookM) : Value := .agg m.cells.toArray
instance (m : RBookM) : VC m.v m.cells := ⟨rfl⟩
instance (m : RBookM) : Len m.cells 19 := ⟨m.len⟩
instance (m : RBookM) : OnesC m.cells := ⟨m.ones⟩
instance (m : RBookM) : Seg m.cells 0 19 m.cells := ⟨by rw [List.drop_zero, List.take_of_length_le (Nat.le_of_eq m.len)], Nat.le_of_eq (by rw [m.len])⟩
instance (m m' : RBookM) : Spl m.cells 0 m'.cells m'.cells := spl_all (m.len.trans m'.len.symm)
instance (m : RBookM) : Seg m.cells 0 1 [SV.v m.L] := seg_head (rfl)
instance (m : RBookM) (x : SV) : Spl m.cells 0 [SV.v x] (RBookM.cells { m with L := x }) := spl_head rfl
instance (m : RBookM) : Seg m.cells 1 1 [SV.v m.Revoked] := seg_skip (k := 1) (i := 0) (rfl) (seg_head (rfl))
instance (m : RBookM) (x : SV) : Spl m.cells 1 [SV.v x] (RBookM.cells { m with Revoked := x }) := spl_skip (k := 1) (i := 0) (rfl) (spl_head rfl)
instance (m : RBookM) : Seg m.cells 2 1 [.int .i64 m.Gen] := seg_skip (k := 1) (i := 1) (rfl) (seg_skip (k := 1) (i := 0) (rfl) (seg_head (rfl)))
instance (m : RBookM) (x : Int) : Spl m.cells 2 [.int .i64 x] (RBookM.cells { m with Gen := x }) := spl_skip (k := 1) (i := 1) (rfl) (spl_skip (k := 1) (i := 0) (rfl) (spl_head rfl))
instance (m : RBookM) : Seg m.cells 3 16 (m.Own.cells) := seg_skip (k := 1) (i := 2) (rfl) (seg_skip (k := 1) (i := 1) (rfl) (seg_skip (k := 1) (i := 0) (rfl) (seg_head (m.Own.len))))
instance (m : RBookM) (x : AB 16) : Spl m.cells 3 (x.cells) (RBookM.cells { m with Own := x }) := spl_skip (k := 1) (i := 2) (rfl) (spl_skip (k := 1) (i := 1) (rfl) (spl_skip (k := 1) (i := 0) (rfl) (spl_head (m.Own.len.trans x.len.symm))))

structure OpM where
  Kind : Int
  Name : ByteArray
  Key : AB 16
  Gen : Int
def OpM.zero : OpM := ⟨0, ByteArray.empty, AB.zero 16, 0⟩
def OpM.cells (m : OpM) : List Value := [.int .i64 m.Kind] ++ ([.string m.Name] ++ (m.Key.cells ++ ([.int .i64 m.Gen] ++ [])))
theorem OpM.len (m : OpM) : m.cells.length = 19 := len_app (rfl) (len_app (rfl) (len_app (m.Key.len) (len_app (rfl) (rfl))))
theorem OpM.ones (m : OpM) : Ones m.cells := ones_append (ones_cons rfl ones_nil) (ones_append (ones_cons rfl ones_nil) (ones_append (m.Key.ones) (ones_append (ones_cons rfl ones_nil) (ones_nil))))
def OpM.v (m : OpM) : Value := .agg m.cells.toArray
instance (m : OpM) : VC m.v m.cells := ⟨rfl⟩
instance (m : OpM) : Len m.cells 19 := ⟨m.len⟩
instance (m : OpM) : OnesC m.cells := ⟨m.ones⟩
instance (m : OpM) : Seg m.cells 0 19 m.cells := ⟨by rw [List.drop_zero, List.take_of_length_le (Nat.le_of_eq m.len)], Nat.le_of_eq (by rw [m.len])⟩
instance (m m' : OpM) : Spl m.cells 0 m'.cells m'.cells := spl_all (m.len.trans m'.len.symm)
instance (m : OpM) : Seg m.cells 0 1 [.int .i64 m.Kind] := seg_head (rfl)
instance (m : OpM) (x : Int) : Spl m.cells 0 [.int .i64 x] (OpM.cells { m with Kind := x }) := spl_head rfl
instance (m : OpM) : Seg m.cells 1 1 [.string m.Name] := seg_skip (k := 1) (i := 0) (rfl) (seg_head (rfl))
instance (m : OpM) (x : ByteArray) : Spl m.cells 1 [.string x] (OpM.cells { m with Name := x }) := spl_skip (k := 1) (i := 0) (rfl) (spl_head rfl)
instance (m : OpM) : Seg m.cells 2 16 (m.Key.cells) := seg_skip (k := 1) (i := 1) (rfl) (seg_skip (k := 1) (i := 0) (rfl) (seg_head (m.Key.len)))
instance (m : OpM) (x : AB 16) : Spl m.cells 2 (x.cells) (OpM.cells { m with Key := x }) := spl_skip (k := 1) (i := 1) (rfl) (spl_skip (k := 1) (i := 0) (rfl) (spl_head (m.Key.len.trans x.len.symm)))
instance (m : OpM) : Seg m.cells 18 1 [.int .i64 m.Gen] := seg_skip (k := 1) (i := 17) (rfl) (seg_skip (k := 1) (i := 16) (rfl) (seg_skip (k := 16) (i := 0) (m.Key.len) (seg_head (rfl))))
instance (m : OpM) (x : Int) : Spl m.cells 18 [.int .i64 x] (OpM.cells { m with Gen := x }) := spl_skip (k := 1) (i := 17) (rfl) (spl_skip (k := 1) (i := 16) (rfl) (spl_skip (k := 16) (i := 0) (m.Key.len) (spl_head rfl)))

structure L15Act where
  Do : Int
  N : Int
  X : OpM
def L15Act.zero : L15Act := ⟨0, 0, OpM.zero⟩
def L15Act.cells (m : L15Act) : List Value := [.int .i64 m.Do] ++ ([.int .i64 m.N] ++ (m.X.cells ++ []))
theorem L15Act.len (m : L15Act) : m.cells.length = 21 := len_app (rfl) (len_app (rfl) (len_app (m.X.len) (rfl)))
theorem L15Act.ones (m : L15Act) : Ones m.cells := ones_append (ones_cons rfl ones_nil) (ones_append (ones_cons rfl ones_nil) (ones_append (m.X.ones) (ones_nil)))
def L15Act.v (m : L15Act) : Value := .agg m.cells.toArray
instance (m : L15Act) : VC m.v m.cells := ⟨rfl⟩
instance (m : L15Act) : Len m.cells 21 := ⟨m.len⟩
instance (m : L15Act) : OnesC m.cells := ⟨m.ones⟩
instance (m : L15Act) : Seg m.cells 0 21 m.cells := ⟨by rw [List.drop_zero, List.take_of_length_le (Nat.le_of_eq m.len)], Nat.le_of_eq (by rw [m.len])⟩
instance (m m' : L15Act) : Spl m.cells 0 m'.cells m'.cells := spl_all (m.len.trans m'.len.symm)
instance (m : L15Act) : Seg m.cells 0 1 [.int .i64 m.Do] := seg_head (rfl)
instance (m : L15Act) (x : Int) : Spl m.cells 0 [.int .i64 x] (L15Act.cells { m with Do := x }) := spl_head rfl
instance (m : L15Act) : Seg m.cells 1 1 [.int .i64 m.N] := seg_skip (k := 1) (i := 0) (rfl) (seg_head (rfl))
instance (m : L15Act) (x : Int) : Spl m.cells 1 [.int .i64 x] (L15Act.cells { m with N := x }) := spl_skip (k := 1) (i := 0) (rfl) (spl_head rfl)
instance (m : L15Act) : Seg m.cells 2 19 (m.X.cells) := seg_skip (k := 1) (i := 1) (rfl) (seg_skip (k := 1) (i := 0) (rfl) (seg_head (m.X.len)))
instance (m : L15Act) (x : OpM) : Spl m.cells 2 (x.cells) (L15Act.cells { m with X := x }) := spl_skip (k := 1) (i := 1) (rfl) (spl_skip (k := 1) (i := 0) (rfl) (spl_head (m.X.len.trans x.len.symm)))
instance (m : L15Act) : Seg m.cells 2 1 [.int .i64 m.X.Kind] := seg_skip (k := 1) (i := 1) (rfl) (seg_skip (k := 1) (i := 0) (rfl) (seg_inh (inferInstance : Seg m.X.cells 0 1 [.int .i64 m.X.Kind])))
instance (m : L15Act) (x : Int) : Spl m.cells 2 [.int .i64 x] (L15Act.cells { m with X := { m.X with Kind := x } }) := spl_skip (k := 1) (i := 1) (rfl) (spl_skip (k := 1) (i := 0) (rfl) (spl_inh (inferInstance : Spl m.X.cells 0 [.int .i64 x] (OpM.cells { m.X with Kind := x }))))
instance (m : L15Act) : Seg m.cells 3 1 [.string m.X.Name] := seg_skip (k := 1) (i := 2) (rfl) (seg_skip (k := 1) (i := 1) (rfl) (seg_inh (inferInstance : Seg m.X.cells 1 1 [.string m.X.Name])))
instance (m : L15Act) (x : ByteArray) : Spl m.cells 3 [.string x] (L15Act.cells { m with X := { m.X with Name := x } }) := spl_skip (k := 1) (i := 2) (rfl) (spl_skip (k := 1) (i := 1) (rfl) (spl_inh (inferInstance : Spl m.X.cells 1 [.string x] (OpM.cells { m.X with Name := x }))))
instance (m : L15Act) : Seg m.cells 4 16 (m.X.Key.cells) := seg_skip (k := 1) (i := 3) (rfl) (seg_skip (k := 1) (i := 2) (rfl) (seg_inh (inferInstance : Seg m.X.cells 2 16 (m.X.Key.cells))))
instance (m : L15Act) (x : AB 16) : Spl m.cells 4 (x.cells) (L15Act.cells { m with X := { m.X with Key := x } }) := spl_skip (k := 1) (i := 3) (rfl) (spl_skip (k := 1) (i := 2) (rfl) (spl_inh (inferInstance : Spl m.X.cells 2 (x.cells) (OpM.cells { m.X with Key := x }))))
instance (m : L15Act) : Seg m.cells 20 1 [.int .i64 m.X.Gen] := seg_skip (k := 1) (i := 19) (rfl) (seg_skip (k := 1) (i := 18) (rfl) (seg_inh (inferInstance : Seg m.X.cells 18 1 [.int .i64 m.X.Gen])))
instance (m : L15Act) (x : Int) : Spl m.cells 20 [.int .i64 x] (L15Act.cells { m with X := { m.X with Gen := x } }) := spl_skip (k := 1) (i := 19) (rfl) (spl_skip (k := 1) (i := 18) (rfl) (spl_inh (inferInstance : Spl m.X.cells 18 [.int .i64 x] (OpM.cells { m.X with Gen := x }))))

structure RStoreM where
  B : SV
  Sure : Int
  Room : Int
  Burn : Int
  Down : Bool
def RStoreM.zero : RStoreM := ⟨SV.nil, 0, 0, 0, false⟩
def RStoreM.cells (m : RStoreM) : List Value := [SV.v m.B] ++ ([.int .i64 m.Sure] ++ ([.int .i64 m.Room] ++ ([.int .i64 m.Burn] ++ ([.bool m.Down] ++ []))))
theorem RStoreM.len (m : RStoreM) : m.cells.length = 5 := len_app (rfl) (len_app (rfl) (len_app (rfl) (len_app (rfl) (len_app (rfl) (rfl)))))
theorem RStoreM.ones (m : RStoreM) : Ones m.cells := ones_append (ones_cons rfl ones_nil) (ones_append (ones_cons rfl ones_nil) (ones_append (ones_cons rfl ones_nil) (ones_append (ones_cons rfl ones_nil) (ones_append (ones_cons rfl ones_nil) (ones_nil)))))
def RStoreM.v (m : RStoreM) : Value := .agg m.cells.toArray
instance (m : RStoreM) : VC m.v m.cells := ⟨rfl⟩
instance (m : RStoreM) : Len m.cells 5 := ⟨m.len⟩
instance (m : RStoreM) : OnesC m.cells := ⟨m.ones⟩
instance (m : RStoreM) : Seg m.cells 0 5 m.cells := ⟨by rw [List.drop_zero, List.take_of_length_le (Nat.le_of_eq m.len)], Nat.le_of_eq (by rw [m.len])⟩
instance (m m' : RStoreM) : Spl m.cells 0 m'.cells m'.cells := spl_all (m.len.trans m'.len.symm)
instance (m : RStoreM) : Seg m.cells 0 1 [SV.v m.B] := seg_head (rfl)
instance (m : RStoreM) (x : SV) : Spl m.cells 0 [SV.v x] (RStoreM.cells { m with B := x }) := spl_head rfl
instance (m : RStoreM) : Seg m.cells 1 1 [.int .i64 m.Sure] := seg_skip (k := 1) (i := 0) (rfl) (seg_head (rfl))
instance (m : RStoreM) (x : Int) : Spl m.cells 1 [.int .i64 x] (RStoreM.cells { m with Sure := x }) := spl_skip (k := 1) (i := 0) (rfl) (spl_head rfl)
instance (m : RStoreM) : Seg m.cells 2 1 [.int .i64 m.Room] := seg_skip (k := 1) (i := 1) (rfl) (seg_skip (k := 1) (i := 0) (rfl) (seg_head (rfl)))
instance (m : RStoreM) (x : Int) : Spl m.cells 2 [.int .i64 x] (RStoreM.cells { m with Room := x }) := spl_skip (k := 1) (i := 1) (rfl) (spl_skip (k := 1) (i := 0) (rfl) (spl_head rfl))
instance (m : RStoreM) : Seg m.cells 3 1 [.int .i64 m.Burn] := seg_skip (k := 1) (i := 2) (rfl) (seg_skip (k := 1) (i := 1) (rfl) (seg_skip (k := 1) (i := 0) (rfl) (seg_head (rfl))))
instance (m : RStoreM) (x : Int) : Spl m.cells 3 [.int .i64 x] (RStoreM.cells { m with Burn := x }) := spl_skip (k := 1) (i := 2) (rfl) (spl_skip (k := 1) (i := 1) (rfl) (spl_skip (k := 1) (i := 0) (rfl) (spl_head rfl)))
instance (m : RStoreM) : Seg m.cells 4 1 [.bool m.Down] := seg_skip (k := 1) (i := 3) (rfl) (seg_skip (k := 1) (i := 2) (rfl) (seg_skip (k := 1) (i := 1) (rfl) (seg_skip (k := 1) (i := 0) (rfl) (seg_head (rfl)))))
instance (m : RStoreM) (x : Bool) : Spl m.cells 4 [.bool x] (RStoreM.cells { m with Down := x }) := spl_skip (k := 1) (i := 3) (rfl) (spl_skip (k := 1) (i := 2) (rfl) (spl_skip (k := 1) (i := 1) (rfl) (spl_skip (k := 1) (i := 0) (rfl) (spl_head rfl))))

structure RKeepM where
  B : RBookM
  J : Option Addr
def RKeepM.zero : RKeepM := ⟨RBookM.zero, none⟩
def RKeepM.cells (m : RKeepM) : List Value := m.B.cells ++ ([.pointer m.J] ++ [])
theorem RKeepM.len (m : RKeepM) : m.cells.length = 20 := len_app (m.B.len) (len_app (rfl) (rfl))
theorem RKeepM.ones (m : RKeepM) : Ones m.cells := ones_append (m.B.ones) (ones_append (ones_cons rfl ones_nil) (ones_nil))
def RKeepM.v (m : RKeepM) : Value := .agg m.cells.toArray
instance (m : RKeepM) : VC m.v m.cells := ⟨rfl⟩
instance (m : RKeepM) : Len m.cells 20 := ⟨m.len⟩
instance (m : RKeepM) : OnesC m.cells := ⟨m.ones⟩
instance (m : RKeepM) : Seg m.cells 0 20 m.cells := ⟨by rw [List.drop_zero, List.take_of_length_le (Nat.le_of_eq m.len)], Nat.le_of_eq (by rw [m.len])⟩
instance (m m' : RKeepM) : Spl m.cells 0 m'.cells m'.cells := spl_all (m.len.trans m'.len.symm)
instance (m : RKeepM) : Seg m.cells 0 19 (m.B.cells) := seg_head (m.B.len)
instance (m : RKeepM) (x : RBookM) : Spl m.cells 0 (x.cells) (RKeepM.cells { m with B := x }) := spl_head (m.B.len.trans x.len.symm)
instance (m : RKeepM) : Seg m.cells 0 1 [SV.v m.B.L] := seg_inh (inferInstance : Seg m.B.cells 0 1 [SV.v m.B.L])
instance (m : RKeepM) (x : SV) : Spl m.cells 0 [SV.v x] (RKeepM.cells { m with B := { m.B with L := x } }) := spl_inh (inferInstance : Spl m.B.cells 0 [SV.v x] (RBookM.cells { m.B with L := x }))
instance (m : RKeepM) : Seg m.cells 1 1 [SV.v m.B.Revoked] := seg_inh (inferInstance : Seg m.B.cells 1 1 [SV.v m.B.Revoked])
instance (m : RKeepM) (x : SV) : Spl m.cells 1 [SV.v x] (RKeepM.cells { m with B := { m.B with Revoked := x } }) := spl_inh (inferInstance : Spl m.B.cells 1 [SV.v x] (RBookM.cells { m.B with Revoked := x }))
instance (m : RKeepM) : Seg m.cells 2 1 [.int .i64 m.B.Gen] := seg_inh (inferInstance : Seg m.B.cells 2 1 [.int .i64 m.B.Gen])
instance (m : RKeepM) (x : Int) : Spl m.cells 2 [.int .i64 x] (RKeepM.cells { m with B := { m.B with Gen := x } }) := spl_inh (inferInstance : Spl m.B.cells 2 [.int .i64 x] (RBookM.cells { m.B with Gen := x }))
instance (m : RKeepM) : Seg m.cells 3 16 (m.B.Own.cells) := seg_inh (inferInstance : Seg m.B.cells 3 16 (m.B.Own.cells))
instance (m : RKeepM) (x : AB 16) : Spl m.cells 3 (x.cells) (RKeepM.cells { m with B := { m.B with Own := x } }) := spl_inh (inferInstance : Spl m.B.cells 3 (x.cells) (RBookM.cells { m.B with Own := x }))
instance (m : RKeepM) : Seg m.cells 19 1 [.pointer m.J] := seg_skip (k := 19) (i := 0) (m.B.len) (seg_head (rfl))
instance (m : RKeepM) (x : Option Addr) : Spl m.cells 19 [.pointer x] (RKeepM.cells { m with J := x }) := spl_skip (k := 19) (i := 0) (m.B.len) (spl_head rfl)

structure L17Act where
  Do : Int
  Protocol : Int
  Peer : ByteArray
  W : AB 16
  N : NoteM
def L17Act.zero : L17Act := ⟨0, 0, ByteArray.empty, AB.zero 16, NoteM.zero⟩
def L17Act.cells (m : L17Act) : List Value := [.int .i64 m.Do] ++ ([.int .i64 m.Protocol] ++ ([.string m.Peer] ++ (m.W.cells ++ (m.N.cells ++ []))))
theorem L17Act.len (m : L17Act) : m.cells.length = 57 := len_app (rfl) (len_app (rfl) (len_app (rfl) (len_app (m.W.len) (len_app (m.N.len) (rfl)))))
theorem L17Act.ones (m : L17Act) : Ones m.cells := ones_append (ones_cons rfl ones_nil) (ones_append (ones_cons rfl ones_nil) (ones_append (ones_cons rfl ones_nil) (ones_append (m.W.ones) (ones_append (m.N.ones) (ones_nil)))))
def L17Act.v (m : L17Act) : Value := .agg m.cells.toArray
instance (m : L17Act) : VC m.v m.cells := ⟨rfl⟩
instance (m : L17Act) : Len m.cells 57 := ⟨m.len⟩
instance (m : L17Act) : OnesC m.cells := ⟨m.ones⟩
instance (m : L17Act) : Seg m.cells 0 57 m.cells := ⟨by rw [List.drop_zero, List.take_of_length_le (Nat.le_of_eq m.len)], Nat.le_of_eq (by rw [m.len])⟩
instance (m m' : L17Act) : Spl m.cells 0 m'.cells m'.cells := spl_all (m.len.trans m'.len.symm)
instance (m : L17Act) : Seg m.cells 0 1 [.int .i64 m.Do] := seg_head (rfl)
instance (m : L17Act) (x : Int) : Spl m.cells 0 [.int .i64 x] (L17Act.cells { m with Do := x }) := spl_head rfl
instance (m : L17Act) : Seg m.cells 1 1 [.int .i64 m.Protocol] := seg_skip (k := 1) (i := 0) (rfl) (seg_head (rfl))
instance (m : L17Act) (x : Int) : Spl m.cells 1 [.int .i64 x] (L17Act.cells { m with Protocol := x }) := spl_skip (k := 1) (i := 0) (rfl) (spl_head rfl)
instance (m : L17Act) : Seg m.cells 2 1 [.string m.Peer] := seg_skip (k := 1) (i := 1) (rfl) (seg_skip (k := 1) (i := 0) (rfl) (seg_head (rfl)))
instance (m : L17Act) (x : ByteArray) : Spl m.cells 2 [.string x] (L17Act.cells { m with Peer := x }) := spl_skip (k := 1) (i := 1) (rfl) (spl_skip (k := 1) (i := 0) (rfl) (spl_head rfl))
instance (m : L17Act) : Seg m.cells 3 16 (m.W.cells) := seg_skip (k := 1) (i := 2) (rfl) (seg_skip (k := 1) (i := 1) (rfl) (seg_skip (k := 1) (i := 0) (rfl) (seg_head (m.W.len))))
instance (m : L17Act) (x : AB 16) : Spl m.cells 3 (x.cells) (L17Act.cells { m with W := x }) := spl_skip (k := 1) (i := 2) (rfl) (spl_skip (k := 1) (i := 1) (rfl) (spl_skip (k := 1) (i := 0) (rfl) (spl_head (m.W.len.trans x.len.symm))))
instance (m : L17Act) : Seg m.cells 19 38 (m.N.cells) := seg_skip (k := 1) (i := 18) (rfl) (seg_skip (k := 1) (i := 17) (rfl) (seg_skip (k := 1) (i := 16) (rfl) (seg_skip (k := 16) (i := 0) (m.W.len) (seg_head (m.N.len)))))
instance (m : L17Act) (x : NoteM) : Spl m.cells 19 (x.cells) (L17Act.cells { m with N := x }) := spl_skip (k := 1) (i := 18) (rfl) (spl_skip (k := 1) (i := 17) (rfl) (spl_skip (k := 1) (i := 16) (rfl) (spl_skip (k := 16) (i := 0) (m.W.len) (spl_head (m.N.len.trans x.len.symm)))))
instance (m : L17Act) : Seg m.cells 19 1 [.int .i64 m.N.Kind] := seg_skip (k := 1) (i := 18) (rfl) (seg_skip (k := 1) (i := 17) (rfl) (seg_skip (k := 1) (i := 16) (rfl) (seg_skip (k := 16) (i := 0) (m.W.len) (seg_inh (inferInstance : Seg m.N.cells 0 1 [.int .i64 m.N.Kind])))))
instance (m : L17Act) (x : Int) : Spl m.cells 19 [.int .i64 x] (L17Act.cells { m with N := { m.N with Kind := x } }) := spl_skip (k := 1) (i := 18) (rfl) (spl_skip (k := 1) (i := 17) (rfl) (spl_skip (k := 1) (i := 16) (rfl) (spl_skip (k := 16) (i := 0) (m.W.len) (spl_inh (inferInstance : Spl m.N.cells 0 [.int .i64 x] (NoteM.cells { m.N with Kind := x }))))))
instance (m : L17Act) : Seg m.cells 20 1 [.string m.N.A] := seg_skip (k := 1) (i := 19) (rfl) (seg_skip (k := 1) (i := 18) (rfl) (seg_skip (k := 1) (i := 17) (rfl) (seg_skip (k := 16) (i := 1) (m.W.len) (seg_inh (inferInstance : Seg m.N.cells 1 1 [.string m.N.A])))))
instance (m : L17Act) (x : ByteArray) : Spl m.cells 20 [.string x] (L17Act.cells { m with N := { m.N with A := x } }) := spl_skip (k := 1) (i := 19) (rfl) (spl_skip (k := 1) (i := 18) (rfl) (spl_skip (k := 1) (i := 17) (rfl) (spl_skip (k := 16) (i := 1) (m.W.len) (spl_inh (inferInstance : Spl m.N.cells 1 [.string x] (NoteM.cells { m.N with A := x }))))))
instance (m : L17Act) : Seg m.cells 21 1 [.string m.N.B] := seg_skip (k := 1) (i := 20) (rfl) (seg_skip (k := 1) (i := 19) (rfl) (seg_skip (k := 1) (i := 18) (rfl) (seg_skip (k := 16) (i := 2) (m.W.len) (seg_inh (inferInstance : Seg m.N.cells 2 1 [.string m.N.B])))))
instance (m : L17Act) (x : ByteArray) : Spl m.cells 21 [.string x] (L17Act.cells { m with N := { m.N with B := x } }) := spl_skip (k := 1) (i := 20) (rfl) (spl_skip (k := 1) (i := 19) (rfl) (spl_skip (k := 1) (i := 18) (rfl) (spl_skip (k := 16) (i := 2) (m.W.len) (spl_inh (inferInstance : Spl m.N.cells 2 [.string x] (NoteM.cells { m.N with B := x }))))))
instance (m : L17Act) : Seg m.cells 22 16 (m.N.X.cells) := seg_skip (k := 1) (i := 21) (rfl) (seg_skip (k := 1) (i := 20) (rfl) (seg_skip (k := 1) (i := 19) (rfl) (seg_skip (k := 16) (i := 3) (m.W.len) (seg_inh (inferInstance : Seg m.N.cells 3 16 (m.N.X.cells))))))
instance (m : L17Act) (x : AB 16) : Spl m.cells 22 (x.cells) (L17Act.cells { m with N := { m.N with X := x } }) := spl_skip (k := 1) (i := 21) (rfl) (spl_skip (k := 1) (i := 20) (rfl) (spl_skip (k := 1) (i := 19) (rfl) (spl_skip (k := 16) (i := 3) (m.W.len) (spl_inh (inferInstance : Spl m.N.cells 3 (x.cells) (NoteM.cells { m.N with X := x }))))))
instance (m : L17Act) : Seg m.cells 38 16 (m.N.Y.cells) := seg_skip (k := 1) (i := 37) (rfl) (seg_skip (k := 1) (i := 36) (rfl) (seg_skip (k := 1) (i := 35) (rfl) (seg_skip (k := 16) (i := 19) (m.W.len) (seg_inh (inferInstance : Seg m.N.cells 19 16 (m.N.Y.cells))))))
instance (m : L17Act) (x : AB 16) : Spl m.cells 38 (x.cells) (L17Act.cells { m with N := { m.N with Y := x } }) := spl_skip (k := 1) (i := 37) (rfl) (spl_skip (k := 1) (i := 36) (rfl) (spl_skip (k := 1) (i := 35) (rfl) (spl_skip (k := 16) (i := 19) (m.W.len) (spl_inh (inferInstance : Spl m.N.cells 19 (x.cells) (NoteM.cells { m.N with Y := x }))))))
instance (m : L17Act) : Seg m.cells 54 1 [SV.v m.N.P] := seg_skip (k := 1) (i := 53) (rfl) (seg_skip (k := 1) (i := 52) (rfl) (seg_skip (k := 1) (i := 51) (rfl) (seg_skip (k := 16) (i := 35) (m.W.len) (seg_inh (inferInstance : Seg m.N.cells 35 1 [SV.v m.N.P])))))
instance (m : L17Act) (x : SV) : Spl m.cells 54 [SV.v x] (L17Act.cells { m with N := { m.N with P := x } }) := spl_skip (k := 1) (i := 53) (rfl) (spl_skip (k := 1) (i := 52) (rfl) (spl_skip (k := 1) (i := 51) (rfl) (spl_skip (k := 16) (i := 35) (m.W.len) (spl_inh (inferInstance : Spl m.N.cells 35 [SV.v x] (NoteM.cells { m.N with P := x }))))))
instance (m : L17Act) : Seg m.cells 55 1 [SV.v m.N.Q] := seg_skip (k := 1) (i := 54) (rfl) (seg_skip (k := 1) (i := 53) (rfl) (seg_skip (k := 1) (i := 52) (rfl) (seg_skip (k := 16) (i := 36) (m.W.len) (seg_inh (inferInstance : Seg m.N.cells 36 1 [SV.v m.N.Q])))))
instance (m : L17Act) (x : SV) : Spl m.cells 55 [SV.v x] (L17Act.cells { m with N := { m.N with Q := x } }) := spl_skip (k := 1) (i := 54) (rfl) (spl_skip (k := 1) (i := 53) (rfl) (spl_skip (k := 1) (i := 52) (rfl) (spl_skip (k := 16) (i := 36) (m.W.len) (spl_inh (inferInstance : Spl m.N.cells 36 [SV.v x] (NoteM.cells { m.N with Q := x }))))))
instance (m : L17Act) : Seg m.cells 56 1 [SV.v m.N.R] := seg_skip (k := 1) (i := 55) (rfl) (seg_skip (k := 1) (i := 54) (rfl) (seg_skip (k := 1) (i := 53) (rfl) (seg_skip (k := 16) (i := 37) (m.W.len) (seg_inh (inferInstance : Seg m.N.cells 37 1 [SV.v m.N.R])))))
instance (m : L17Act) (x : SV) : Spl m.cells 56 [SV.v x] (L17Act.cells { m with N := { m.N with R := x } }) := spl_skip (k := 1) (i := 55) (rfl) (spl_skip (k := 1) (i := 54) (rfl) (spl_skip (k := 1) (i := 53) (rfl) (spl_skip (k := 16) (i := 37) (m.W.len) (spl_inh (inferInstance : Spl m.N.cells 37 [SV.v x] (NoteM.cells { m.N with R := x }))))))

structure EventM where
  Kind : Int
  Protocol : Int
  Phase : Int
  Who : ByteArray
  Peer : ByteArray
  First : AB 16
  Second : AB 16
  Key : AB 16
def EventM.zero : EventM := ⟨0, 0, 0, ByteArray.empty, ByteArray.empty, AB.zero 16, AB.zero 16, AB.zero 16⟩
def EventM.cells (m : EventM) : List Value := [.int .i64 m.Kind] ++ ([.int .i64 m.Protocol] ++ ([.int .i64 m.Phase] ++ ([.string m.Who] ++ ([.string m.Peer] ++ (m.First.cells ++ (m.Second.cells ++ (m.Key.cells ++ [])))))))
theorem EventM.len (m : EventM) : m.cells.length = 53 := len_app (rfl) (len_app (rfl) (len_app (rfl) (len_app (rfl) (len_app (rfl) (len_app (m.First.len) (len_app (m.Second.len) (len_app (m.Key.len) (rfl))))))))
theorem EventM.ones (m : EventM) : Ones m.cells := ones_append (ones_cons rfl ones_nil) (ones_append (ones_cons rfl ones_nil) (ones_append (ones_cons rfl ones_nil) (ones_append (ones_cons rfl ones_nil) (ones_append (ones_cons rfl ones_nil) (ones_append (m.First.ones) (ones_append (m.Second.ones) (ones_append (m.Key.ones) (ones_nil))))))))
def EventM.v (m : EventM) : Value := .agg m.cells.toArray
instance (m : EventM) : VC m.v m.cells := ⟨rfl⟩
instance (m : EventM) : Len m.cells 53 := ⟨m.len⟩
instance (m : EventM) : OnesC m.cells := ⟨m.ones⟩
instance (m : EventM) : Seg m.cells 0 53 m.cells := ⟨by rw [List.drop_zero, List.take_of_length_le (Nat.le_of_eq m.len)], Nat.le_of_eq (by rw [m.len])⟩
instance (m m' : EventM) : Spl m.cells 0 m'.cells m'.cells := spl_all (m.len.trans m'.len.symm)
instance (m : EventM) : Seg m.cells 0 1 [.int .i64 m.Kind] := seg_head (rfl)
instance (m : EventM) (x : Int) : Spl m.cells 0 [.int .i64 x] (EventM.cells { m with Kind := x }) := spl_head rfl
instance (m : EventM) : Seg m.cells 1 1 [.int .i64 m.Protocol] := seg_skip (k := 1) (i := 0) (rfl) (seg_head (rfl))
instance (m : EventM) (x : Int) : Spl m.cells 1 [.int .i64 x] (EventM.cells { m with Protocol := x }) := spl_skip (k := 1) (i := 0) (rfl) (spl_head rfl)
instance (m : EventM) : Seg m.cells 2 1 [.int .i64 m.Phase] := seg_skip (k := 1) (i := 1) (rfl) (seg_skip (k := 1) (i := 0) (rfl) (seg_head (rfl)))
instance (m : EventM) (x : Int) : Spl m.cells 2 [.int .i64 x] (EventM.cells { m with Phase := x }) := spl_skip (k := 1) (i := 1) (rfl) (spl_skip (k := 1) (i := 0) (rfl) (spl_head rfl))
instance (m : EventM) : Seg m.cells 3 1 [.string m.Who] := seg_skip (k := 1) (i := 2) (rfl) (seg_skip (k := 1) (i := 1) (rfl) (seg_skip (k := 1) (i := 0) (rfl) (seg_head (rfl))))
instance (m : EventM) (x : ByteArray) : Spl m.cells 3 [.string x] (EventM.cells { m with Who := x }) := spl_skip (k := 1) (i := 2) (rfl) (spl_skip (k := 1) (i := 1) (rfl) (spl_skip (k := 1) (i := 0) (rfl) (spl_head rfl)))
instance (m : EventM) : Seg m.cells 4 1 [.string m.Peer] := seg_skip (k := 1) (i := 3) (rfl) (seg_skip (k := 1) (i := 2) (rfl) (seg_skip (k := 1) (i := 1) (rfl) (seg_skip (k := 1) (i := 0) (rfl) (seg_head (rfl)))))
instance (m : EventM) (x : ByteArray) : Spl m.cells 4 [.string x] (EventM.cells { m with Peer := x }) := spl_skip (k := 1) (i := 3) (rfl) (spl_skip (k := 1) (i := 2) (rfl) (spl_skip (k := 1) (i := 1) (rfl) (spl_skip (k := 1) (i := 0) (rfl) (spl_head rfl))))
instance (m : EventM) : Seg m.cells 5 16 (m.First.cells) := seg_skip (k := 1) (i := 4) (rfl) (seg_skip (k := 1) (i := 3) (rfl) (seg_skip (k := 1) (i := 2) (rfl) (seg_skip (k := 1) (i := 1) (rfl) (seg_skip (k := 1) (i := 0) (rfl) (seg_head (m.First.len))))))
instance (m : EventM) (x : AB 16) : Spl m.cells 5 (x.cells) (EventM.cells { m with First := x }) := spl_skip (k := 1) (i := 4) (rfl) (spl_skip (k := 1) (i := 3) (rfl) (spl_skip (k := 1) (i := 2) (rfl) (spl_skip (k := 1) (i := 1) (rfl) (spl_skip (k := 1) (i := 0) (rfl) (spl_head (m.First.len.trans x.len.symm))))))
instance (m : EventM) : Seg m.cells 21 16 (m.Second.cells) := seg_skip (k := 1) (i := 20) (rfl) (seg_skip (k := 1) (i := 19) (rfl) (seg_skip (k := 1) (i := 18) (rfl) (seg_skip (k := 1) (i := 17) (rfl) (seg_skip (k := 1) (i := 16) (rfl) (seg_skip (k := 16) (i := 0) (m.First.len) (seg_head (m.Second.len)))))))
instance (m : EventM) (x : AB 16) : Spl m.cells 21 (x.cells) (EventM.cells { m with Second := x }) := spl_skip (k := 1) (i := 20) (rfl) (spl_skip (k := 1) (i := 19) (rfl) (spl_skip (k := 1) (i := 18) (rfl) (spl_skip (k := 1) (i := 17) (rfl) (spl_skip (k := 1) (i := 16) (rfl) (spl_skip (k := 16) (i := 0) (m.First.len) (spl_head (m.Second.len.trans x.len.symm)))))))
instance (m : EventM) : Seg m.cells 37 16 (m.Key.cells) := seg_skip (k := 1) (i := 36) (rfl) (seg_skip (k := 1) (i := 35) (rfl) (seg_skip (k := 1) (i := 34) (rfl) (seg_skip (k := 1) (i := 33) (rfl) (seg_skip (k := 1) (i := 32) (rfl) (seg_skip (k := 16) (i := 16) (m.First.len) (seg_skip (k := 16) (i := 0) (m.Second.len) (seg_head (m.Key.len))))))))
instance (m : EventM) (x : AB 16) : Spl m.cells 37 (x.cells) (EventM.cells { m with Key := x }) := spl_skip (k := 1) (i := 36) (rfl) (spl_skip (k := 1) (i := 35) (rfl) (spl_skip (k := 1) (i := 34) (rfl) (spl_skip (k := 1) (i := 33) (rfl) (spl_skip (k := 1) (i := 32) (rfl) (spl_skip (k := 16) (i := 16) (m.First.len) (spl_skip (k := 16) (i := 0) (m.Second.len) (spl_head (m.Key.len.trans x.len.symm))))))))

structure SpanM where
  Lo : Int
  Hi : Int
def SpanM.zero : SpanM := ⟨0, 0⟩
def SpanM.cells (m : SpanM) : List Value := [.int .i64 m.Lo] ++ ([.int .i64 m.Hi] ++ [])
theorem SpanM.len (m : SpanM) : m.cells.length = 2 := len_app (rfl) (len_app (rfl) (rfl))
theorem SpanM.ones (m : SpanM) : Ones m.cells := ones_append (ones_cons rfl ones_nil) (ones_append (ones_cons rfl ones_nil) (ones_nil))
def SpanM.v (m : SpanM) : Value := .agg m.cells.toArray
instance (m : SpanM) : VC m.v m.cells := ⟨rfl⟩
instance (m : SpanM) : Len m.cells 2 := ⟨m.len⟩
instance (m : SpanM) : OnesC m.cells := ⟨m.ones⟩
instance (m : SpanM) : Seg m.cells 0 2 m.cells := ⟨by rw [List.drop_zero, List.take_of_length_le (Nat.le_of_eq m.len)], Nat.le_of_eq (by rw [m.len])⟩
instance (m m' : SpanM) : Spl m.cells 0 m'.cells m'.cells := spl_all (m.len.trans m'.len.symm)
instance (m : SpanM) : Seg m.cells 0 1 [.int .i64 m.Lo] := seg_head (rfl)
instance (m : SpanM) (x : Int) : Spl m.cells 0 [.int .i64 x] (SpanM.cells { m with Lo := x }) := spl_head rfl
instance (m : SpanM) : Seg m.cells 1 1 [.int .i64 m.Hi] := seg_skip (k := 1) (i := 0) (rfl) (seg_head (rfl))
instance (m : SpanM) (x : Int) : Spl m.cells 1 [.int .i64 x] (SpanM.cells { m with Hi := x }) := spl_skip (k := 1) (i := 0) (rfl) (spl_head rfl)

structure ClockM where
  Ppm : Int
  On : Bool
  At : Int
  S : SpanM
def ClockM.zero : ClockM := ⟨0, false, 0, SpanM.zero⟩
def ClockM.cells (m : ClockM) : List Value := [.int .i64 m.Ppm] ++ ([.bool m.On] ++ ([.int .i64 m.At] ++ (m.S.cells ++ [])))
theorem ClockM.len (m : ClockM) : m.cells.length = 5 := len_app (rfl) (len_app (rfl) (len_app (rfl) (len_app (m.S.len) (rfl))))
theorem ClockM.ones (m : ClockM) : Ones m.cells := ones_append (ones_cons rfl ones_nil) (ones_append (ones_cons rfl ones_nil) (ones_append (ones_cons rfl ones_nil) (ones_append (m.S.ones) (ones_nil))))
def ClockM.v (m : ClockM) : Value := .agg m.cells.toArray
instance (m : ClockM) : VC m.v m.cells := ⟨rfl⟩
instance (m : ClockM) : Len m.cells 5 := ⟨m.len⟩
instance (m : ClockM) : OnesC m.cells := ⟨m.ones⟩
instance (m : ClockM) : Seg m.cells 0 5 m.cells := ⟨by rw [List.drop_zero, List.take_of_length_le (Nat.le_of_eq m.len)], Nat.le_of_eq (by rw [m.len])⟩
instance (m m' : ClockM) : Spl m.cells 0 m'.cells m'.cells := spl_all (m.len.trans m'.len.symm)
instance (m : ClockM) : Seg m.cells 0 1 [.int .i64 m.Ppm] := seg_head (rfl)
instance (m : ClockM) (x : Int) : Spl m.cells 0 [.int .i64 x] (ClockM.cells { m with Ppm := x }) := spl_head rfl
instance (m : ClockM) : Seg m.cells 1 1 [.bool m.On] := seg_skip (k := 1) (i := 0) (rfl) (seg_head (rfl))
instance (m : ClockM) (x : Bool) : Spl m.cells 1 [.bool x] (ClockM.cells { m with On := x }) := spl_skip (k := 1) (i := 0) (rfl) (spl_head rfl)
instance (m : ClockM) : Seg m.cells 2 1 [.int .i64 m.At] := seg_skip (k := 1) (i := 1) (rfl) (seg_skip (k := 1) (i := 0) (rfl) (seg_head (rfl)))
instance (m : ClockM) (x : Int) : Spl m.cells 2 [.int .i64 x] (ClockM.cells { m with At := x }) := spl_skip (k := 1) (i := 1) (rfl) (spl_skip (k := 1) (i := 0) (rfl) (spl_head rfl))
instance (m : ClockM) : Seg m.cells 3 2 (m.S.cells) := seg_skip (k := 1) (i := 2) (rfl) (seg_skip (k := 1) (i := 1) (rfl) (seg_skip (k := 1) (i := 0) (rfl) (seg_head (m.S.len))))
instance (m : ClockM) (x : SpanM) : Spl m.cells 3 (x.cells) (ClockM.cells { m with S := x }) := spl_skip (k := 1) (i := 2) (rfl) (spl_skip (k := 1) (i := 1) (rfl) (spl_skip (k := 1) (i := 0) (rfl) (spl_head (m.S.len.trans x.len.symm))))
instance (m : ClockM) : Seg m.cells 3 1 [.int .i64 m.S.Lo] := seg_skip (k := 1) (i := 2) (rfl) (seg_skip (k := 1) (i := 1) (rfl) (seg_skip (k := 1) (i := 0) (rfl) (seg_inh (inferInstance : Seg m.S.cells 0 1 [.int .i64 m.S.Lo]))))
instance (m : ClockM) (x : Int) : Spl m.cells 3 [.int .i64 x] (ClockM.cells { m with S := { m.S with Lo := x } }) := spl_skip (k := 1) (i := 2) (rfl) (spl_skip (k := 1) (i := 1) (rfl) (spl_skip (k := 1) (i := 0) (rfl) (spl_inh (inferInstance : Spl m.S.cells 0 [.int .i64 x] (SpanM.cells { m.S with Lo := x })))))
instance (m : ClockM) : Seg m.cells 4 1 [.int .i64 m.S.Hi] := seg_skip (k := 1) (i := 3) (rfl) (seg_skip (k := 1) (i := 2) (rfl) (seg_skip (k := 1) (i := 1) (rfl) (seg_inh (inferInstance : Seg m.S.cells 1 1 [.int .i64 m.S.Hi]))))
instance (m : ClockM) (x : Int) : Spl m.cells 4 [.int .i64 x] (ClockM.cells { m with S := { m.S with Hi := x } }) := spl_skip (k := 1) (i := 3) (rfl) (spl_skip (k := 1) (i := 2) (rfl) (spl_skip (k := 1) (i := 1) (rfl) (spl_inh (inferInstance : Spl m.S.cells 1 [.int .i64 x] (SpanM.cells { m.S with Hi := x })))))

structure Arr4Word where
  e0 : AB 16
  e1 : AB 16
  e2 : AB 16
  e3 : AB 16
def Arr4Word.zero : Arr4Word := ⟨AB.zero 16, AB.zero 16, AB.zero 16, AB.zero 16⟩
def Arr4Word.cells (m : Arr4Word) : List Value := m.e0.cells ++ (m.e1.cells ++ (m.e2.cells ++ (m.e3.cells ++ [])))
theorem Arr4Word.len (m : Arr4Word) : m.cells.length = 64 := len_app (m.e0.len) (len_app (m.e1.len) (len_app (m.e2.len) (len_app (m.e3.len) (rfl))))
theorem Arr4Word.ones (m : Arr4Word) : Ones m.cells := ones_append (m.e0.ones) (ones_append (m.e1.ones) (ones_append (m.e2.ones) (ones_append (m.e3.ones) (ones_nil))))
def Arr4Word.v (m : Arr4Word) : Value := .agg m.cells.toArray
instance (m : Arr4Word) : VC m.v m.cells := ⟨rfl⟩
instance (m : Arr4Word) : Len m.cells 64 := ⟨m.len⟩
instance (m : Arr4Word) : OnesC m.cells := ⟨m.ones⟩
instance (m : Arr4Word) : Seg m.cells 0 64 m.cells := ⟨by rw [List.drop_zero, List.take_of_length_le (Nat.le_of_eq m.len)], Nat.le_of_eq (by rw [m.len])⟩
instance (m m' : Arr4Word) : Spl m.cells 0 m'.cells m'.cells := spl_all (m.len.trans m'.len.symm)
instance (m : Arr4Word) : Seg m.cells 0 16 (m.e0.cells) := seg_head (m.e0.len)
instance (m : Arr4Word) (x : AB 16) : Spl m.cells 0 (x.cells) (Arr4Word.cells { m with e0 := x }) := spl_head (m.e0.len.trans x.len.symm)
instance (m : Arr4Word) : Seg m.cells 16 16 (m.e1.cells) := seg_skip (k := 16) (i := 0) (m.e0.len) (seg_head (m.e1.len))
instance (m : Arr4Word) (x : AB 16) : Spl m.cells 16 (x.cells) (Arr4Word.cells { m with e1 := x }) := spl_skip (k := 16) (i := 0) (m.e0.len) (spl_head (m.e1.len.trans x.len.symm))
instance (m : Arr4Word) : Seg m.cells 32 16 (m.e2.cells) := seg_skip (k := 16) (i := 16) (m.e0.len) (seg_skip (k := 16) (i := 0) (m.e1.len) (seg_head (m.e2.len)))
instance (m : Arr4Word) (x : AB 16) : Spl m.cells 32 (x.cells) (Arr4Word.cells { m with e2 := x }) := spl_skip (k := 16) (i := 16) (m.e0.len) (spl_skip (k := 16) (i := 0) (m.e1.len) (spl_head (m.e2.len.trans x.len.symm)))
instance (m : Arr4Word) : Seg m.cells 48 16 (m.e3.cells) := seg_skip (k := 16) (i := 32) (m.e0.len) (seg_skip (k := 16) (i := 16) (m.e1.len) (seg_skip (k := 16) (i := 0) (m.e2.len) (seg_head (m.e3.len))))
instance (m : Arr4Word) (x : AB 16) : Spl m.cells 48 (x.cells) (Arr4Word.cells { m with e3 := x }) := spl_skip (k := 16) (i := 32) (m.e0.len) (spl_skip (k := 16) (i := 16) (m.e1.len) (spl_skip (k := 16) (i := 0) (m.e2.len) (spl_head (m.e3.len.trans x.len.symm))))

structure L18Act where
  Do : Int
  Peer : ByteArray
  N : NoteM
  At : Int
  D : Arr4Word
  B : BookM
  C : ClockM
def L18Act.zero : L18Act := ⟨0, ByteArray.empty, NoteM.zero, 0, Arr4Word.zero, BookM.zero, ClockM.zero⟩
def L18Act.cells (m : L18Act) : List Value := [.int .i64 m.Do] ++ ([.string m.Peer] ++ (m.N.cells ++ ([.int .i64 m.At] ++ (m.D.cells ++ (m.B.cells ++ (m.C.cells ++ []))))))
theorem L18Act.len (m : L18Act) : m.cells.length = 129 := len_app (rfl) (len_app (rfl) (len_app (m.N.len) (len_app (rfl) (len_app (m.D.len) (len_app (m.B.len) (len_app (m.C.len) (rfl)))))))
theorem L18Act.ones (m : L18Act) : Ones m.cells := ones_append (ones_cons rfl ones_nil) (ones_append (ones_cons rfl ones_nil) (ones_append (m.N.ones) (ones_append (ones_cons rfl ones_nil) (ones_append (m.D.ones) (ones_append (m.B.ones) (ones_append (m.C.ones) (ones_nil)))))))
def L18Act.v (m : L18Act) : Value := .agg m.cells.toArray
instance (m : L18Act) : VC m.v m.cells := ⟨rfl⟩
instance (m : L18Act) : Len m.cells 129 := ⟨m.len⟩
instance (m : L18Act) : OnesC m.cells := ⟨m.ones⟩
instance (m : L18Act) : Seg m.cells 0 129 m.cells := ⟨by rw [List.drop_zero, List.take_of_length_le (Nat.le_of_eq m.len)], Nat.le_of_eq (by rw [m.len])⟩
instance (m m' : L18Act) : Spl m.cells 0 m'.cells m'.cells := spl_all (m.len.trans m'.len.symm)
instance (m : L18Act) : Seg m.cells 0 1 [.int .i64 m.Do] := seg_head (rfl)
instance (m : L18Act) (x : Int) : Spl m.cells 0 [.int .i64 x] (L18Act.cells { m with Do := x }) := spl_head rfl
instance (m : L18Act) : Seg m.cells 1 1 [.string m.Peer] := seg_skip (k := 1) (i := 0) (rfl) (seg_head (rfl))
instance (m : L18Act) (x : ByteArray) : Spl m.cells 1 [.string x] (L18Act.cells { m with Peer := x }) := spl_skip (k := 1) (i := 0) (rfl) (spl_head rfl)
instance (m : L18Act) : Seg m.cells 2 38 (m.N.cells) := seg_skip (k := 1) (i := 1) (rfl) (seg_skip (k := 1) (i := 0) (rfl) (seg_head (m.N.len)))
instance (m : L18Act) (x : NoteM) : Spl m.cells 2 (x.cells) (L18Act.cells { m with N := x }) := spl_skip (k := 1) (i := 1) (rfl) (spl_skip (k := 1) (i := 0) (rfl) (spl_head (m.N.len.trans x.len.symm)))
instance (m : L18Act) : Seg m.cells 2 1 [.int .i64 m.N.Kind] := seg_skip (k := 1) (i := 1) (rfl) (seg_skip (k := 1) (i := 0) (rfl) (seg_inh (inferInstance : Seg m.N.cells 0 1 [.int .i64 m.N.Kind])))
instance (m : L18Act) (x : Int) : Spl m.cells 2 [.int .i64 x] (L18Act.cells { m with N := { m.N with Kind := x } }) := spl_skip (k := 1) (i := 1) (rfl) (spl_skip (k := 1) (i := 0) (rfl) (spl_inh (inferInstance : Spl m.N.cells 0 [.int .i64 x] (NoteM.cells { m.N with Kind := x }))))
instance (m : L18Act) : Seg m.cells 3 1 [.string m.N.A] := seg_skip (k := 1) (i := 2) (rfl) (seg_skip (k := 1) (i := 1) (rfl) (seg_inh (inferInstance : Seg m.N.cells 1 1 [.string m.N.A])))
instance (m : L18Act) (x : ByteArray) : Spl m.cells 3 [.string x] (L18Act.cells { m with N := { m.N with A := x } }) := spl_skip (k := 1) (i := 2) (rfl) (spl_skip (k := 1) (i := 1) (rfl) (spl_inh (inferInstance : Spl m.N.cells 1 [.string x] (NoteM.cells { m.N with A := x }))))
instance (m : L18Act) : Seg m.cells 4 1 [.string m.N.B] := seg_skip (k := 1) (i := 3) (rfl) (seg_skip (k := 1) (i := 2) (rfl) (seg_inh (inferInstance : Seg m.N.cells 2 1 [.string m.N.B])))
instance (m : L18Act) (x : ByteArray) : Spl m.cells 4 [.string x] (L18Act.cells { m with N := { m.N with B := x } }) := spl_skip (k := 1) (i := 3) (rfl) (spl_skip (k := 1) (i := 2) (rfl) (spl_inh (inferInstance : Spl m.N.cells 2 [.string x] (NoteM.cells { m.N with B := x }))))
instance (m : L18Act) : Seg m.cells 5 16 (m.N.X.cells) := seg_skip (k := 1) (i := 4) (rfl) (seg_skip (k := 1) (i := 3) (rfl) (seg_inh (inferInstance : Seg m.N.cells 3 16 (m.N.X.cells))))
instance (m : L18Act) (x : AB 16) : Spl m.cells 5 (x.cells) (L18Act.cells { m with N := { m.N with X := x } }) := spl_skip (k := 1) (i := 4) (rfl) (spl_skip (k := 1) (i := 3) (rfl) (spl_inh (inferInstance : Spl m.N.cells 3 (x.cells) (NoteM.cells { m.N with X := x }))))
instance (m : L18Act) : Seg m.cells 21 16 (m.N.Y.cells) := seg_skip (k := 1) (i := 20) (rfl) (seg_skip (k := 1) (i := 19) (rfl) (seg_inh (inferInstance : Seg m.N.cells 19 16 (m.N.Y.cells))))
instance (m : L18Act) (x : AB 16) : Spl m.cells 21 (x.cells) (L18Act.cells { m with N := { m.N with Y := x } }) := spl_skip (k := 1) (i := 20) (rfl) (spl_skip (k := 1) (i := 19) (rfl) (spl_inh (inferInstance : Spl m.N.cells 19 (x.cells) (NoteM.cells { m.N with Y := x }))))
instance (m : L18Act) : Seg m.cells 37 1 [SV.v m.N.P] := seg_skip (k := 1) (i := 36) (rfl) (seg_skip (k := 1) (i := 35) (rfl) (seg_inh (inferInstance : Seg m.N.cells 35 1 [SV.v m.N.P])))
instance (m : L18Act) (x : SV) : Spl m.cells 37 [SV.v x] (L18Act.cells { m with N := { m.N with P := x } }) := spl_skip (k := 1) (i := 36) (rfl) (spl_skip (k := 1) (i := 35) (rfl) (spl_inh (inferInstance : Spl m.N.cells 35 [SV.v x] (NoteM.cells { m.N with P := x }))))
instance (m : L18Act) : Seg m.cells 38 1 [SV.v m.N.Q] := seg_skip (k := 1) (i := 37) (rfl) (seg_skip (k := 1) (i := 36) (rfl) (seg_inh (inferInstance : Seg m.N.cells 36 1 [SV.v m.N.Q])))
instance (m : L18Act) (x : SV) : Spl m.cells 38 [SV.v x] (L18Act.cells { m with N := { m.N with Q := x } }) := spl_skip (k := 1) (i := 37) (rfl) (spl_skip (k := 1) (i := 36) (rfl) (spl_inh (inferInstance : Spl m.N.cells 36 [SV.v x] (NoteM.cells { m.N with Q := x }))))
instance (m : L18Act) : Seg m.cells 39 1 [SV.v m.N.R] := seg_skip (k := 1) (i := 38) (rfl) (seg_skip (k := 1) (i := 37) (rfl) (seg_inh (inferInstance : Seg m.N.cells 37 1 [SV.v m.N.R])))
instance (m : L18Act) (x : SV) : Spl m.cells 39 [SV.v x] (L18Act.cells { m with N := { m.N with R := x } }) := spl_skip (k := 1) (i := 38) (rfl) (spl_skip (k := 1) (i := 37) (rfl) (spl_inh (inferInstance : Spl m.N.cells 37 [SV.v x] (NoteM.cells { m.N with R := x }))))
instance (m : L18Act) : Seg m.cells 40 1 [.int .i64 m.At] := seg_skip (k := 1) (i := 39) (rfl) (seg_skip (k := 1) (i := 38) (rfl) (seg_skip (k := 38) (i := 0) (m.N.len) (seg_head (rfl))))
instance (m : L18Act) (x : Int) : Spl m.cells 40 [.int .i64 x] (L18Act.cells { m with At := x }) := spl_skip (k := 1) (i := 39) (rfl) (spl_skip (k := 1) (i := 38) (rfl) (spl_skip (k := 38) (i := 0) (m.N.len) (spl_head rfl)))
instance (m : L18Act) : Seg m.cells 41 64 (m.D.cells) := seg_skip (k := 1) (i := 40) (rfl) (seg_skip (k := 1) (i := 39) (rfl) (seg_skip (k := 38) (i := 1) (m.N.len) (seg_skip (k := 1) (i := 0) (rfl) (seg_head (m.D.len)))))
instance (m : L18Act) (x : Arr4Word) : Spl m.cells 41 (x.cells) (L18Act.cells { m with D := x }) := spl_skip (k := 1) (i := 40) (rfl) (spl_skip (k := 1) (i := 39) (rfl) (spl_skip (k := 38) (i := 1) (m.N.len) (spl_skip (k := 1) (i := 0) (rfl) (spl_head (m.D.len.trans x.len.symm)))))
instance (m : L18Act) : Seg m.cells 41 16 (m.D.e0.cells) := seg_skip (k := 1) (i := 40) (rfl) (seg_skip (k := 1) (i := 39) (rfl) (seg_skip (k := 38) (i := 1) (m.N.len) (seg_skip (k := 1) (i := 0) (rfl) (seg_inh (inferInstance : Seg m.D.cells 0 16 (m.D.e0.cells))))))
instance (m : L18Act) (x : AB 16) : Spl m.cells 41 (x.cells) (L18Act.cells { m with D := { m.D with e0 := x } }) := spl_skip (k := 1) (i := 40) (rfl) (spl_skip (k := 1) (i := 39) (rfl) (spl_skip (k := 38) (i := 1) (m.N.len) (spl_skip (k := 1) (i := 0) (rfl) (spl_inh (inferInstance : Spl m.D.cells 0 (x.cells) (Arr4Word.cells { m.D with e0 := x }))))))
instance (m : L18Act) : Seg m.cells 57 16 (m.D.e1.cells) := seg_skip (k := 1) (i := 56) (rfl) (seg_skip (k := 1) (i := 55) (rfl) (seg_skip (k := 38) (i := 17) (m.N.len) (seg_skip (k := 1) (i := 16) (rfl) (seg_inh (inferInstance : Seg m.D.cells 16 16 (m.D.e1.cells))))))
instance (m : L18Act) (x : AB 16) : Spl m.cells 57 (x.cells) (L18Act.cells { m with D := { m.D with e1 := x } }) := spl_skip (k := 1) (i := 56) (rfl) (spl_skip (k := 1) (i := 55) (rfl) (spl_skip (k := 38) (i := 17) (m.N.len) (spl_skip (k := 1) (i := 16) (rfl) (spl_inh (inferInstance : Spl m.D.cells 16 (x.cells) (Arr4Word.cells { m.D with e1 := x }))))))
instance (m : L18Act) : Seg m.cells 73 16 (m.D.e2.cells) := seg_skip (k := 1) (i := 72) (rfl) (seg_skip (k := 1) (i := 71) (rfl) (seg_skip (k := 38) (i := 33) (m.N.len) (seg_skip (k := 1) (i := 32) (rfl) (seg_inh (inferInstance : Seg m.D.cells 32 16 (m.D.e2.cells))))))
instance (m : L18Act) (x : AB 16) : Spl m.cells 73 (x.cells) (L18Act.cells { m with D := { m.D with e2 := x } }) := spl_skip (k := 1) (i := 72) (rfl) (spl_skip (k := 1) (i := 71) (rfl) (spl_skip (k := 38) (i := 33) (m.N.len) (spl_skip (k := 1) (i := 32) (rfl) (spl_inh (inferInstance : Spl m.D.cells 32 (x.cells) (Arr4Word.cells { m.D with e2 := x }))))))
instance (m : L18Act) : Seg m.cells 89 16 (m.D.e3.cells) := seg_skip (k := 1) (i := 88) (rfl) (seg_skip (k := 1) (i := 87) (rfl) (seg_skip (k := 38) (i := 49) (m.N.len) (seg_skip (k := 1) (i := 48) (rfl) (seg_inh (inferInstance : Seg m.D.cells 48 16 (m.D.e3.cells))))))
instance (m : L18Act) (x : AB 16) : Spl m.cells 89 (x.cells) (L18Act.cells { m with D := { m.D with e3 := x } }) := spl_skip (k := 1) (i := 88) (rfl) (spl_skip (k := 1) (i := 87) (rfl) (spl_skip (k := 38) (i := 49) (m.N.len) (spl_skip (k := 1) (i := 48) (rfl) (spl_inh (inferInstance : Spl m.D.cells 48 (x.cells) (Arr4Word.cells { m.D with e3 := x }))))))
instance (m : L18Act) : Seg m.cells 105 19 (m.B.cells) := seg_skip (k := 1) (i := 104) (rfl) (seg_skip (k := 1) (i := 103) (rfl) (seg_skip (k := 38) (i := 65) (m.N.len) (seg_skip (k := 1) (i := 64) (rfl) (seg_skip (k := 64) (i := 0) (m.D.len) (seg_head (m.B.len))))))
instance (m : L18Act) (x : BookM) : Spl m.cells 105 (x.cells) (L18Act.cells { m with B := x }) := spl_skip (k := 1) (i := 104) (rfl) (spl_skip (k := 1) (i := 103) (rfl) (spl_skip (k := 38) (i := 65) (m.N.len) (spl_skip (k := 1) (i := 64) (rfl) (spl_skip (k := 64) (i := 0) (m.D.len) (spl_head (m.B.len.trans x.len.symm))))))
instance (m : L18Act) : Seg m.cells 105 1 [SV.v m.B.L] := seg_skip (k := 1) (i := 104) (rfl) (seg_skip (k := 1) (i := 103) (rfl) (seg_skip (k := 38) (i := 65) (m.N.len) (seg_skip (k := 1) (i := 64) (rfl) (seg_skip (k := 64) (i := 0) (m.D.len) (seg_inh (inferInstance : Seg m.B.cells 0 1 [SV.v m.B.L]))))))
instance (m : L18Act) (x : SV) : Spl m.cells 105 [SV.v x] (L18Act.cells { m with B := { m.B with L := x } }) := spl_skip (k := 1) (i := 104) (rfl) (spl_skip (k := 1) (i := 103) (rfl) (spl_skip (k := 38) (i := 65) (m.N.len) (spl_skip (k := 1) (i := 64) (rfl) (spl_skip (k := 64) (i := 0) (m.D.len) (spl_inh (inferInstance : Spl m.B.cells 0 [SV.v x] (BookM.cells { m.B with L := x })))))))
instance (m : L18Act) : Seg m.cells 106 1 [SV.v m.B.Revoked] := seg_skip (k := 1) (i := 105) (rfl) (seg_skip (k := 1) (i := 104) (rfl) (seg_skip (k := 38) (i := 66) (m.N.len) (seg_skip (k := 1) (i := 65) (rfl) (seg_skip (k := 64) (i := 1) (m.D.len) (seg_inh (inferInstance : Seg m.B.cells 1 1 [SV.v m.B.Revoked]))))))
instance (m : L18Act) (x : SV) : Spl m.cells 106 [SV.v x] (L18Act.cells { m with B := { m.B with Revoked := x } }) := spl_skip (k := 1) (i := 105) (rfl) (spl_skip (k := 1) (i := 104) (rfl) (spl_skip (k := 38) (i := 66) (m.N.len) (spl_skip (k := 1) (i := 65) (rfl) (spl_skip (k := 64) (i := 1) (m.D.len) (spl_inh (inferInstance : Spl m.B.cells 1 [SV.v x] (BookM.cells { m.B with Revoked := x })))))))
instance (m : L18Act) : Seg m.cells 107 1 [.int .i64 m.B.Gen] := seg_skip (k := 1) (i := 106) (rfl) (seg_skip (k := 1) (i := 105) (rfl) (seg_skip (k := 38) (i := 67) (m.N.len) (seg_skip (k := 1) (i := 66) (rfl) (seg_skip (k := 64) (i := 2) (m.D.len) (seg_inh (inferInstance : Seg m.B.cells 2 1 [.int .i64 m.B.Gen]))))))
instance (m : L18Act) (x : Int) : Spl m.cells 107 [.int .i64 x] (L18Act.cells { m with B := { m.B with Gen := x } }) := spl_skip (k := 1) (i := 106) (rfl) (spl_skip (k := 1) (i := 105) (rfl) (spl_skip (k := 38) (i := 67) (m.N.len) (spl_skip (k := 1) (i := 66) (rfl) (spl_skip (k := 64) (i := 2) (m.D.len) (spl_inh (inferInstance : Spl m.B.cells 2 [.int .i64 x] (BookM.cells { m.B with Gen := x })))))))
instance (m : L18Act) : Seg m.cells 108 16 (m.B.Own.cells) := seg_skip (k := 1) (i := 107) (rfl) (seg_skip (k := 1) (i := 106) (rfl) (seg_skip (k := 38) (i := 68) (m.N.len) (seg_skip (k := 1) (i := 67) (rfl) (seg_skip (k := 64) (i := 3) (m.D.len) (seg_inh (inferInstance : Seg m.B.cells 3 16 (m.B.Own.cells)))))))
instance (m : L18Act) (x : AB 16) : Spl m.cells 108 (x.cells) (L18Act.cells { m with B := { m.B with Own := x } }) := spl_skip (k := 1) (i := 107) (rfl) (spl_skip (k := 1) (i := 106) (rfl) (spl_skip (k := 38) (i := 68) (m.N.len) (spl_skip (k := 1) (i := 67) (rfl) (spl_skip (k := 64) (i := 3) (m.D.len) (spl_inh (inferInstance : Spl m.B.cells 3 (x.cells) (BookM.cells { m.B with Own := x })))))))
instance (m : L18Act) : Seg m.cells 124 5 (m.C.cells) := seg_skip (k := 1) (i := 123) (rfl) (seg_skip (k := 1) (i := 122) (rfl) (seg_skip (k := 38) (i := 84) (m.N.len) (seg_skip (k := 1) (i := 83) (rfl) (seg_skip (k := 64) (i := 19) (m.D.len) (seg_skip (k := 19) (i := 0) (m.B.len) (seg_head (m.C.len)))))))
instance (m : L18Act) (x : ClockM) : Spl m.cells 124 (x.cells) (L18Act.cells { m with C := x }) := spl_skip (k := 1) (i := 123) (rfl) (spl_skip (k := 1) (i := 122) (rfl) (spl_skip (k := 38) (i := 84) (m.N.len) (spl_skip (k := 1) (i := 83) (rfl) (spl_skip (k := 64) (i := 19) (m.D.len) (spl_skip (k := 19) (i := 0) (m.B.len) (spl_head (m.C.len.trans x.len.symm)))))))
instance (m : L18Act) : Seg m.cells 124 1 [.int .i64 m.C.Ppm] := seg_skip (k := 1) (i := 123) (rfl) (seg_skip (k := 1) (i := 122) (rfl) (seg_skip (k := 38) (i := 84) (m.N.len) (seg_skip (k := 1) (i := 83) (rfl) (seg_skip (k := 64) (i := 19) (m.D.len) (seg_skip (k := 19) (i := 0) (m.B.len) (seg_inh (inferInstance : Seg m.C.cells 0 1 [.int .i64 m.C.Ppm])))))))
instance (m : L18Act) (x : Int) : Spl m.cells 124 [.int .i64 x] (L18Act.cells { m with C := { m.C with Ppm := x } }) := spl_skip (k := 1) (i := 123) (rfl) (spl_skip (k := 1) (i := 122) (rfl) (spl_skip (k := 38) (i := 84) (m.N.len) (spl_skip (k := 1) (i := 83) (rfl) (spl_skip (k := 64) (i := 19) (m.D.len) (spl_skip (k := 19) (i := 0) (m.B.len) (spl_inh (inferInstance : Spl m.C.cells 0 [.int .i64 x] (ClockM.cells { m.C with Ppm := x }))))))))
instance (m : L18Act) : Seg m.cells 125 1 [.bool m.C.On] := seg_skip (k := 1) (i := 124) (rfl) (seg_skip (k := 1) (i := 123) (rfl) (seg_skip (k := 38) (i := 85) (m.N.len) (seg_skip (k := 1) (i := 84) (rfl) (seg_skip (k := 64) (i := 20) (m.D.len) (seg_skip (k := 19) (i := 1) (m.B.len) (seg_inh (inferInstance : Seg m.C.cells 1 1 [.bool m.C.On])))))))
instance (m : L18Act) (x : Bool) : Spl m.cells 125 [.bool x] (L18Act.cells { m with C := { m.C with On := x } }) := spl_skip (k := 1) (i := 124) (rfl) (spl_skip (k := 1) (i := 123) (rfl) (spl_skip (k := 38) (i := 85) (m.N.len) (spl_skip (k := 1) (i := 84) (rfl) (spl_skip (k := 64) (i := 20) (m.D.len) (spl_skip (k := 19) (i := 1) (m.B.len) (spl_inh (inferInstance : Spl m.C.cells 1 [.bool x] (ClockM.cells { m.C with On := x }))))))))
instance (m : L18Act) : Seg m.cells 126 1 [.int .i64 m.C.At] := seg_skip (k := 1) (i := 125) (rfl) (seg_skip (k := 1) (i := 124) (rfl) (seg_skip (k := 38) (i := 86) (m.N.len) (seg_skip (k := 1) (i := 85) (rfl) (seg_skip (k := 64) (i := 21) (m.D.len) (seg_skip (k := 19) (i := 2) (m.B.len) (seg_inh (inferInstance : Seg m.C.cells 2 1 [.int .i64 m.C.At])))))))
instance (m : L18Act) (x : Int) : Spl m.cells 126 [.int .i64 x] (L18Act.cells { m with C := { m.C with At := x } }) := spl_skip (k := 1) (i := 125) (rfl) (spl_skip (k := 1) (i := 124) (rfl) (spl_skip (k := 38) (i := 86) (m.N.len) (spl_skip (k := 1) (i := 85) (rfl) (spl_skip (k := 64) (i := 21) (m.D.len) (spl_skip (k := 19) (i := 2) (m.B.len) (spl_inh (inferInstance : Spl m.C.cells 2 [.int .i64 x] (ClockM.cells { m.C with At := x }))))))))
instance (m : L18Act) : Seg m.cells 127 2 (m.C.S.cells) := seg_skip (k := 1) (i := 126) (rfl) (seg_skip (k := 1) (i := 125) (rfl) (seg_skip (k := 38) (i := 87) (m.N.len) (seg_skip (k := 1) (i := 86) (rfl) (seg_skip (k := 64) (i := 22) (m.D.len) (seg_skip (k := 19) (i := 3) (m.B.len) (seg_inh (inferInstance : Seg m.C.cells 3 2 (m.C.S.cells))))))))
instance (m : L18Act) (x : SpanM) : Spl m.cells 127 (x.cells) (L18Act.cells { m with C := { m.C with S := x } }) := spl_skip (k := 1) (i := 126) (rfl) (spl_skip (k := 1) (i := 125) (rfl) (spl_skip (k := 38) (i := 87) (m.N.len) (spl_skip (k := 1) (i := 86) (rfl) (spl_skip (k := 64) (i := 22) (m.D.len) (spl_skip (k := 19) (i := 3) (m.B.len) (spl_inh (inferInstance : Spl m.C.cells 3 (x.cells) (ClockM.cells { m.C with S := x }))))))))
instance (m : L18Act) : Seg m.cells 127 1 [.int .i64 m.C.S.Lo] := seg_skip (k := 1) (i := 126) (rfl) (seg_skip (k := 1) (i := 125) (rfl) (seg_skip (k := 38) (i := 87) (m.N.len) (seg_skip (k := 1) (i := 86) (rfl) (seg_skip (k := 64) (i := 22) (m.D.len) (seg_skip (k := 19) (i := 3) (m.B.len) (seg_inh (inferInstance : Seg m.C.cells 3 1 [.int .i64 m.C.S.Lo])))))))
instance (m : L18Act) (x : Int) : Spl m.cells 127 [.int .i64 x] (L18Act.cells { m with C := { m.C with S := { m.C.S with Lo := x } } }) := spl_skip (k := 1) (i := 126) (rfl) (spl_skip (k := 1) (i := 125) (rfl) (spl_skip (k := 38) (i := 87) (m.N.len) (spl_skip (k := 1) (i := 86) (rfl) (spl_skip (k := 64) (i := 22) (m.D.len) (spl_skip (k := 19) (i := 3) (m.B.len) (spl_inh (inferInstance : Spl m.C.cells 3 [.int .i64 x] (ClockM.cells { m.C with S := { m.C.S with Lo := x } }))))))))
instance (m : L18Act) : Seg m.cells 128 1 [.int .i64 m.C.S.Hi] := seg_skip (k := 1) (i := 127) (rfl) (seg_skip (k := 1) (i := 126) (rfl) (seg_skip (k := 38) (i := 88) (m.N.len) (seg_skip (k := 1) (i := 87) (rfl) (seg_skip (k := 64) (i := 23) (m.D.len) (seg_skip (k := 19) (i := 4) (m.B.len) (seg_inh (inferInstance : Seg m.C.cells 4 1 [.int .i64 m.C.S.Hi])))))))
instance (m : L18Act) (x : Int) : Spl m.cells 128 [.int .i64 x] (L18Act.cells { m with C := { m.C with S := { m.C.S with Hi := x } } }) := spl_skip (k := 1) (i := 127) (rfl) (spl_skip (k := 1) (i := 126) (rfl) (spl_skip (k := 38) (i := 88) (m.N.len) (spl_skip (k := 1) (i := 87) (rfl) (spl_skip (k := 64) (i := 23) (m.D.len) (spl_skip (k := 19) (i := 4) (m.B.len) (spl_inh (inferInstance : Spl m.C.cells 4 [.int .i64 x] (ClockM.cells { m.C with S := { m.C.S with Hi := x } }))))))))

structure StoreM where
  b : SV
  sure : Int
  room : Int
  fuse : Int
  down : Bool
def StoreM.zero : StoreM := ⟨SV.nil, 0, 0, 0, false⟩
def StoreM.cells (m : StoreM) : List Value := [SV.v m.b] ++ ([.int .i64 m.sure] ++ ([.int .i64 m.room] ++ ([.int .i64 m.fuse] ++ ([.bool m.down] ++ []))))
theorem StoreM.len (m : StoreM) : m.cells.length = 5 := len_app (rfl) (len_app (rfl) (len_app (rfl) (len_app (rfl) (len_app (rfl) (rfl)))))
theorem StoreM.ones (m : StoreM) : Ones m.cells := ones_append (ones_cons rfl ones_nil) (ones_append (ones_cons rfl ones_nil) (ones_append (ones_cons rfl ones_nil) (ones_append (ones_cons rfl ones_nil) (ones_append (ones_cons rfl ones_nil) (ones_nil)))))
def StoreM.v (m : StoreM) : Value := .agg m.cells.toArray
instance (m : StoreM) : VC m.v m.cells := ⟨rfl⟩
instance (m : StoreM) : Len m.cells 5 := ⟨m.len⟩
instance (m : StoreM) : OnesC m.cells := ⟨m.ones⟩
instance (m : StoreM) : Seg m.cells 0 5 m.cells := ⟨by rw [List.drop_zero, List.take_of_length_le (Nat.le_of_eq m.len)], Nat.le_of_eq (by rw [m.len])⟩
instance (m m' : StoreM) : Spl m.cells 0 m'.cells m'.cells := spl_all (m.len.trans m'.len.symm)
instance (m : StoreM) : Seg m.cells 0 1 [SV.v m.b] := seg_head (rfl)
instance (m : StoreM) (x : SV) : Spl m.cells 0 [SV.v x] (StoreM.cells { m with b := x }) := spl_head rfl
instance (m : StoreM) : Seg m.cells 1 1 [.int .i64 m.sure] := seg_skip (k := 1) (i := 0) (rfl) (seg_head (rfl))
instance (m : StoreM) (x : Int) : Spl m.cells 1 [.int .i64 x] (StoreM.cells { m with sure := x }) := spl_skip (k := 1) (i := 0) (rfl) (spl_head rfl)
instance (m : StoreM) : Seg m.cells 2 1 [.int .i64 m.room] := seg_skip (k := 1) (i := 1) (rfl) (seg_skip (k := 1) (i := 0) (rfl) (seg_head (rfl)))
instance (m : StoreM) (x : Int) : Spl m.cells 2 [.int .i64 x] (StoreM.cells { m with room := x }) := spl_skip (k := 1) (i := 1) (rfl) (spl_skip (k := 1) (i := 0) (rfl) (spl_head rfl))
instance (m : StoreM) : Seg m.cells 3 1 [.int .i64 m.fuse] := seg_skip (k := 1) (i := 2) (rfl) (seg_skip (k := 1) (i := 1) (rfl) (seg_skip (k := 1) (i := 0) (rfl) (seg_head (rfl))))
instance (m : StoreM) (x : Int) : Spl m.cells 3 [.int .i64 x] (StoreM.cells { m with fuse := x }) := spl_skip (k := 1) (i := 2) (rfl) (spl_skip (k := 1) (i := 1) (rfl) (spl_skip (k := 1) (i := 0) (rfl) (spl_head rfl)))
instance (m : StoreM) : Seg m.cells 4 1 [.bool m.down] := seg_skip (k := 1) (i := 3) (rfl) (seg_skip (k := 1) (i := 2) (rfl) (seg_skip (k := 1) (i := 1) (rfl) (seg_skip (k := 1) (i := 0) (rfl) (seg_head (rfl)))))
instance (m : StoreM) (x : Bool) : Spl m.cells 4 [.bool x] (StoreM.cells { m with down := x }) := spl_skip (k := 1) (i := 3) (rfl) (spl_skip (k := 1) (i := 2) (rfl) (spl_skip (k := 1) (i := 1) (rfl) (spl_skip (k := 1) (i := 0) (rfl) (spl_head rfl))))

structure JournalM where
  s : Option Addr
  l : SV
  broken : Bool
def JournalM.zero : JournalM := ⟨none, SV.nil, false⟩
def JournalM.cells (m : JournalM) : List Value := [.pointer m.s] ++ ([SV.v m.l] ++ ([.bool m.broken] ++ []))
theorem JournalM.len (m : JournalM) : m.cells.length = 3 := len_app (rfl) (len_app (rfl) (len_app (rfl) (rfl)))
theorem JournalM.ones (m : JournalM) : Ones m.cells := ones_append (ones_cons rfl ones_nil) (ones_append (ones_cons rfl ones_nil) (ones_append (ones_cons rfl ones_nil) (ones_nil)))
def JournalM.v (m : JournalM) : Value := .agg m.cells.toArray
instance (m : JournalM) : VC m.v m.cells := ⟨rfl⟩
instance (m : JournalM) : Len m.cells 3 := ⟨m.len⟩
instance (m : JournalM) : OnesC m.cells := ⟨m.ones⟩
instance (m : JournalM) : Seg m.cells 0 3 m.cells := ⟨by rw [List.drop_zero, List.take_of_length_le (Nat.le_of_eq m.len)], Nat.le_of_eq (by rw [m.len])⟩
instance (m m' : JournalM) : Spl m.cells 0 m'.cells m'.cells := spl_all (m.len.trans m'.len.symm)
instance (m : JournalM) : Seg m.cells 0 1 [.pointer m.s] := seg_head (rfl)
instance (m : JournalM) (x : Option Addr) : Spl m.cells 0 [.pointer x] (JournalM.cells { m with s := x }) := spl_head rfl
instance (m : JournalM) : Seg m.cells 1 1 [SV.v m.l] := seg_skip (k := 1) (i := 0) (rfl) (seg_head (rfl))
instance (m : JournalM) (x : SV) : Spl m.cells 1 [SV.v x] (JournalM.cells { m with l := x }) := spl_skip (k := 1) (i := 0) (rfl) (spl_head rfl)
instance (m : JournalM) : Seg m.cells 2 1 [.bool m.broken] := seg_skip (k := 1) (i := 1) (rfl) (seg_skip (k := 1) (i := 0) (rfl) (seg_head (rfl)))
instance (m : JournalM) (x : Bool) : Spl m.cells 2 [.bool x] (JournalM.cells { m with broken := x }) := spl_skip (k := 1) (i := 1) (rfl) (spl_skip (k := 1) (i := 0) (rfl) (spl_head rfl))

structure EntryM where
  Name : ByteArray
  Key : AB 16
def EntryM.zero : EntryM := ⟨ByteArray.empty, AB.zero 16⟩
def EntryM.cells (m : EntryM) : List Value := [.string m.Name] ++ (m.Key.cells ++ [])
theorem EntryM.len (m : EntryM) : m.cells.length = 17 := len_app (rfl) (len_app (m.Key.len) (rfl))
theorem EntryM.ones (m : EntryM) : Ones m.cells := ones_append (ones_cons rfl ones_nil) (ones_append (m.Key.ones) (ones_nil))
def EntryM.v (m : EntryM) : Value := .agg m.cells.toArray
instance (m : EntryM) : VC m.v m.cells := ⟨rfl⟩
instance (m : EntryM) : Len m.cells 17 := ⟨m.len⟩
instance (m : EntryM) : OnesC m.cells := ⟨m.ones⟩
instance (m : EntryM) : Seg m.cells 0 17 m.cells := ⟨by rw [List.drop_zero, List.take_of_length_le (Nat.le_of_eq m.len)], Nat.le_of_eq (by rw [m.len])⟩
instance (m m' : EntryM) : Spl m.cells 0 m'.cells m'.cells := spl_all (m.len.trans m'.len.symm)
instance (m : EntryM) : Seg m.cells 0 1 [.string m.Name] := seg_head (rfl)
instance (m : EntryM) (x : ByteArray) : Spl m.cells 0 [.string x] (EntryM.cells { m with Name := x }) := spl_head rfl
instance (m : EntryM) : Seg m.cells 1 16 (m.Key.cells) := seg_skip (k := 1) (i := 0) (rfl) (seg_head (m.Key.len))
instance (m : EntryM) (x : AB 16) : Spl m.cells 1 (x.cells) (EntryM.cells { m with Key := x }) := spl_skip (k := 1) (i := 0) (rfl) (spl_head (m.Key.len.trans x.len.symm))

structure AskedM where
  a : ByteArray
  na : SV
  t : SV
  ka : AB 16
  kb : AB 16
def AskedM.zero : AskedM := ⟨ByteArray.empty, SV.nil, SV.nil, AB.zero 16, AB.zero 16⟩
def AskedM.cells (m : AskedM) : List Value := [.string m.a] ++ ([SV.v m.na] ++ ([SV.v m.t] ++ (m.ka.cells ++ (m.kb.cells ++ []))))
theorem AskedM.len (m : AskedM) : m.cells.length = 35 := len_app (rfl) (len_app (rfl) (len_app (rfl) (len_app (m.ka.len) (len_app (m.kb.len) (rfl)))))
theorem AskedM.ones (m : AskedM) : Ones m.cells := ones_append (ones_cons rfl ones_nil) (ones_append (ones_cons rfl ones_nil) (ones_append (ones_cons rfl ones_nil) (ones_append (m.ka.ones) (ones_append (m.kb.ones) (ones_nil)))))
def AskedM.v (m : AskedM) : Value := .agg m.cells.toArray
instance (m : AskedM) : VC m.v m.cells := ⟨rfl⟩
instance (m : AskedM) : Len m.cells 35 := ⟨m.len⟩
instance (m : AskedM) : OnesC m.cells := ⟨m.ones⟩
instance (m : AskedM) : Seg m.cells 0 35 m.cells := ⟨by rw [List.drop_zero, List.take_of_length_le (Nat.le_of_eq m.len)], Nat.le_of_eq (by rw [m.len])⟩
instance (m m' : AskedM) : Spl m.cells 0 m'.cells m'.cells := spl_all (m.len.trans m'.len.symm)
instance (m : AskedM) : Seg m.cells 0 1 [.string m.a] := seg_head (rfl)
instance (m : AskedM) (x : ByteArray) : Spl m.cells 0 [.string x] (AskedM.cells { m with a := x }) := spl_head rfl
instance (m : AskedM) : Seg m.cells 1 1 [SV.v m.na] := seg_skip (k := 1) (i := 0) (rfl) (seg_head (rfl))
instance (m : AskedM) (x : SV) : Spl m.cells 1 [SV.v x] (AskedM.cells { m with na := x }) := spl_skip (k := 1) (i := 0) (rfl) (spl_head rfl)
instance (m : AskedM) : Seg m.cells 2 1 [SV.v m.t] := seg_skip (k := 1) (i := 1) (rfl) (seg_skip (k := 1) (i := 0) (rfl) (seg_head (rfl)))
instance (m : AskedM) (x : SV) : Spl m.cells 2 [SV.v x] (AskedM.cells { m with t := x }) := spl_skip (k := 1) (i := 1) (rfl) (spl_skip (k := 1) (i := 0) (rfl) (spl_head rfl))
instance (m : AskedM) : Seg m.cells 3 16 (m.ka.cells) := seg_skip (k := 1) (i := 2) (rfl) (seg_skip (k := 1) (i := 1) (rfl) (seg_skip (k := 1) (i := 0) (rfl) (seg_head (m.ka.len))))
instance (m : AskedM) (x : AB 16) : Spl m.cells 3 (x.cells) (AskedM.cells { m with ka := x }) := spl_skip (k := 1) (i := 2) (rfl) (spl_skip (k := 1) (i := 1) (rfl) (spl_skip (k := 1) (i := 0) (rfl) (spl_head (m.ka.len.trans x.len.symm))))
instance (m : AskedM) : Seg m.cells 19 16 (m.kb.cells) := seg_skip (k := 1) (i := 18) (rfl) (seg_skip (k := 1) (i := 17) (rfl) (seg_skip (k := 1) (i := 16) (rfl) (seg_skip (k := 16) (i := 0) (m.ka.len) (seg_head (m.kb.len)))))
instance (m : AskedM) (x : AB 16) : Spl m.cells 19 (x.cells) (AskedM.cells { m with kb := x }) := spl_skip (k := 1) (i := 18) (rfl) (spl_skip (k := 1) (i := 17) (rfl) (spl_skip (k := 1) (i := 16) (rfl) (spl_skip (k := 16) (i := 0) (m.ka.len) (spl_head (m.kb.len.trans x.len.symm)))))

structure KeepM where
  Journal : Option Addr
  b : BookM
def KeepM.zero : KeepM := ⟨none, BookM.zero⟩
def KeepM.cells (m : KeepM) : List Value := [.pointer m.Journal] ++ (m.b.cells ++ [])
theorem KeepM.len (m : KeepM) : m.cells.length = 20 := len_app (rfl) (len_app (m.b.len) (rfl))
theorem KeepM.ones (m : KeepM) : Ones m.cells := ones_append (ones_cons rfl ones_nil) (ones_append (m.b.ones) (ones_nil))
def KeepM.v (m : KeepM) : Value := .agg m.cells.toArray
instance (m : KeepM) : VC m.v m.cells := ⟨rfl⟩
instance (m : KeepM) : Len m.cells 20 := ⟨m.len⟩
instance (m : KeepM) : OnesC m.cells := ⟨m.ones⟩
instance (m : KeepM) : Seg m.cells 0 20 m.cells := ⟨by rw [List.drop_zero, List.take_of_length_le (Nat.le_of_eq m.len)], Nat.le_of_eq (by rw [m.len])⟩
instance (m m' : KeepM) : Spl m.cells 0 m'.cells m'.cells := spl_all (m.len.trans m'.len.symm)
instance (m : KeepM) : Seg m.cells 0 1 [.pointer m.Journal] := seg_head (rfl)
instance (m : KeepM) (x : Option Addr) : Spl m.cells 0 [.pointer x] (KeepM.cells { m with Journal := x }) := spl_head rfl
instance (m : KeepM) : Seg m.cells 1 19 (m.b.cells) := seg_skip (k := 1) (i := 0) (rfl) (seg_head (m.b.len))
instance (m : KeepM) (x : BookM) : Spl m.cells 1 (x.cells) (KeepM.cells { m with b := x }) := spl_skip (k := 1) (i := 0) (rfl) (spl_head (m.b.len.trans x.len.symm))
instance (m : KeepM) : Seg m.cells 1 1 [SV.v m.b.L] := seg_skip (k := 1) (i := 0) (rfl) (seg_inh (inferInstance : Seg m.b.cells 0 1 [SV.v m.b.L]))
instance (m : KeepM) (x : SV) : Spl m.cells 1 [SV.v x] (KeepM.cells { m with b := { m.b with L := x } }) := spl_skip (k := 1) (i := 0) (rfl) (spl_inh (inferInstance : Spl m.b.cells 0 [SV.v x] (BookM.cells { m.b with L := x })))
instance (m : KeepM) : Seg m.cells 2 1 [SV.v m.b.Revoked] := seg_skip (k := 1) (i := 1) (rfl) (seg_inh (inferInstance : Seg m.b.cells 1 1 [SV.v m.b.Revoked]))
instance (m : KeepM) (x : SV) : Spl m.cells 2 [SV.v x] (KeepM.cells { m with b := { m.b with Revoked := x } }) := spl_skip (k := 1) (i := 1) (rfl) (spl_inh (inferInstance : Spl m.b.cells 1 [SV.v x] (BookM.cells { m.b with Revoked := x })))
instance (m : KeepM) : Seg m.cells 3 1 [.int .i64 m.b.Gen] := seg_skip (k := 1) (i := 2) (rfl) (seg_inh (inferInstance : Seg m.b.cells 2 1 [.int .i64 m.b.Gen]))
instance (m : KeepM) (x : Int) : Spl m.cells 3 [.int .i64 x] (KeepM.cells { m with b := { m.b with Gen := x } }) := spl_skip (k := 1) (i := 2) (rfl) (spl_inh (inferInstance : Spl m.b.cells 2 [.int .i64 x] (BookM.cells { m.b with Gen := x })))
instance (m : KeepM) : Seg m.cells 4 16 (m.b.Own.cells) := seg_skip (k := 1) (i := 3) (rfl) (seg_inh (inferInstance : Seg m.b.cells 3 16 (m.b.Own.cells)))
instance (m : KeepM) (x : AB 16) : Spl m.cells 4 (x.cells) (KeepM.cells { m with b := { m.b with Own := x } }) := spl_skip (k := 1) (i := 3) (rfl) (spl_inh (inferInstance : Spl m.b.cells 3 (x.cells) (BookM.cells { m.b with Own := x })))

structure RJournalM where
  S : Option Addr
  L : SV
  Broken : Bool
def RJournalM.zero : RJournalM := ⟨none, SV.nil, false⟩
def RJournalM.cells (m : RJournalM) : List Value := [.pointer m.S] ++ ([SV.v m.L] ++ ([.bool m.Broken] ++ []))
theorem RJournalM.len (m : RJournalM) : m.cells.length = 3 := len_app (rfl) (len_app (rfl) (len_app (rfl) (rfl)))
theorem RJournalM.ones (m : RJournalM) : Ones m.cells := ones_append (ones_cons rfl ones_nil) (ones_append (ones_cons rfl ones_nil) (ones_append (ones_cons rfl ones_nil) (ones_nil)))
def RJournalM.v (m : RJournalM) : Value := .agg m.cells.toArray
instance (m : RJournalM) : VC m.v m.cells := ⟨rfl⟩
instance (m : RJournalM) : Len m.cells 3 := ⟨m.len⟩
instance (m : RJournalM) : OnesC m.cells := ⟨m.ones⟩
instance (m : RJournalM) : Seg m.cells 0 3 m.cells := ⟨by rw [List.drop_zero, List.take_of_length_le (Nat.le_of_eq m.len)], Nat.le_of_eq (by rw [m.len])⟩
instance (m m' : RJournalM) : Spl m.cells 0 m'.cells m'.cells := spl_all (m.len.trans m'.len.symm)
instance (m : RJournalM) : Seg m.cells 0 1 [.pointer m.S] := seg_head (rfl)
instance (m : RJournalM) (x : Option Addr) : Spl m.cells 0 [.pointer x] (RJournalM.cells { m with S := x }) := spl_head rfl
instance (m : RJournalM) : Seg m.cells 1 1 [SV.v m.L] := seg_skip (k := 1) (i := 0) (rfl) (seg_head (rfl))
instance (m : RJournalM) (x : SV) : Spl m.cells 1 [SV.v x] (RJournalM.cells { m with L := x }) := spl_skip (k := 1) (i := 0) (rfl) (spl_head rfl)
instance (m : RJournalM) : Seg m.cells 2 1 [.bool m.Broken] := seg_skip (k := 1) (i := 1) (rfl) (seg_skip (k := 1) (i := 0) (rfl) (seg_head (rfl)))
instance (m : RJournalM) (x : Bool) : Spl m.cells 2 [.bool x] (RJournalM.cells { m with Broken := x }) := spl_skip (k := 1) (i := 1) (rfl) (spl_skip (k := 1) (i := 0) (rfl) (spl_head rfl))

structure GuestM where
  name : ByteArray
  key : AB 16
  waits : Option Nat
  tickets : Option Nat
def GuestM.zero : GuestM := ⟨ByteArray.empty, AB.zero 16, none, none⟩
def GuestM.cells (m : GuestM) : List Value := [.string m.name] ++ (m.key.cells ++ ([.map m.waits] ++ ([.map m.tickets] ++ [])))
theorem GuestM.len (m : GuestM) : m.cells.length = 19 := len_app (rfl) (len_app (m.key.len) (len_app (rfl) (len_app (rfl) (rfl))))
theorem GuestM.ones (m : GuestM) : Ones m.cells := ones_append (ones_cons rfl ones_nil) (ones_append (m.key.ones) (ones_append (ones_cons rfl ones_nil) (ones_append (ones_cons rfl ones_nil) (ones_nil))))
def GuestM.v (m : GuestM) : Value := .agg m.cells.toArray
instance (m : GuestM) : VC m.v m.cells := ⟨rfl⟩
instance (m : GuestM) : Len m.cells 19 := ⟨m.len⟩
instance (m : GuestM) : OnesC m.cells := ⟨m.ones⟩
instance (m : GuestM) : Seg m.cells 0 19 m.cells := ⟨by rw [List.drop_zero, List.take_of_length_le (Nat.le_of_eq m.len)], Nat.le_of_eq (by rw [m.len])⟩
instance (m m' : GuestM) : Spl m.cells 0 m'.cells m'.cells := spl_all (m.len.trans m'.len.symm)
instance (m : GuestM) : Seg m.cells 0 1 [.string m.name] := seg_head (rfl)
instance (m : GuestM) (x : ByteArray) : Spl m.cells 0 [.string x] (GuestM.cells { m with name := x }) := spl_head rfl
instance (m : GuestM) : Seg m.cells 1 16 (m.key.cells) := seg_skip (k := 1) (i := 0) (rfl) (seg_head (m.key.len))
instance (m : GuestM) (x : AB 16) : Spl m.cells 1 (x.cells) (GuestM.cells { m with key := x }) := spl_skip (k := 1) (i := 0) (rfl) (spl_head (m.key.len.trans x.len.symm))
instance (m : GuestM) : Seg m.cells 17 1 [.map m.waits] := seg_skip (k := 1) (i := 16) (rfl) (seg_skip (k := 16) (i := 0) (m.key.len) (seg_head (rfl)))
instance (m : GuestM) (x : Option Nat) : Spl m.cells 17 [.map x] (GuestM.cells { m with waits := x }) := spl_skip (k := 1) (i := 16) (rfl) (spl_skip (k := 16) (i := 0) (m.key.len) (spl_head rfl))
instance (m : GuestM) : Seg m.cells 18 1 [.map m.tickets] := seg_skip (k := 1) (i := 17) (rfl) (seg_skip (k := 16) (i := 1) (m.key.len) (seg_skip (k := 1) (i := 0) (rfl) (seg_head (rfl))))
instance (m : GuestM) (x : Option Nat) : Spl m.cells 18 [.map x] (GuestM.cells { m with tickets := x }) := spl_skip (k := 1) (i := 17) (rfl) (spl_skip (k := 16) (i := 1) (m.key.len) (spl_skip (k := 1) (i := 0) (rfl) (spl_head rfl)))

structure GWaitM where
  protocol : Int
  phase : Int
  n : AB 16
  y : AB 16
  key : AB 16
  there : Bool
  ticket : SV
def GWaitM.zero : GWaitM := ⟨0, 0, AB.zero 16, AB.zero 16, AB.zero 16, false, SV.nil⟩
def GWaitM.cells (m : GWaitM) : List Value := [.int .i64 m.protocol] ++ ([.int .i64 m.phase] ++ (m.n.cells ++ (m.y.cells ++ (m.key.cells ++ ([.bool m.there] ++ ([SV.v m.ticket] ++ []))))))
theorem GWaitM.len (m : GWaitM) : m.cells.length = 52 := len_app (rfl) (len_app (rfl) (len_app (m.n.len) (len_app (m.y.len) (len_app (m.key.len) (len_app (rfl) (len_app (rfl) (rfl)))))))
theorem GWaitM.ones (m : GWaitM) : Ones m.cells := ones_append (ones_cons rfl ones_nil) (ones_append (ones_cons rfl ones_nil) (ones_append (m.n.ones) (ones_append (m.y.ones) (ones_append (m.key.ones) (ones_append (ones_cons rfl ones_nil) (ones_append (ones_cons rfl ones_nil) (ones_nil)))))))
def GWaitM.v (m : GWaitM) : Value := .agg m.cells.toArray
instance (m : GWaitM) : VC m.v m.cells := ⟨rfl⟩
instance (m : GWaitM) : Len m.cells 52 := ⟨m.len⟩
instance (m : GWaitM) : OnesC m.cells := ⟨m.ones⟩
instance (m : GWaitM) : Seg m.cells 0 52 m.cells := ⟨by rw [List.drop_zero, List.take_of_length_le (Nat.le_of_eq m.len)], Nat.le_of_eq (by rw [m.len])⟩
instance (m m' : GWaitM) : Spl m.cells 0 m'.cells m'.cells := spl_all (m.len.trans m'.len.symm)
instance (m : GWaitM) : Seg m.cells 0 1 [.int .i64 m.protocol] := seg_head (rfl)
instance (m : GWaitM) (x : Int) : Spl m.cells 0 [.int .i64 x] (GWaitM.cells { m with protocol := x }) := spl_head rfl
instance (m : GWaitM) : Seg m.cells 1 1 [.int .i64 m.phase] := seg_skip (k := 1) (i := 0) (rfl) (seg_head (rfl))
instance (m : GWaitM) (x : Int) : Spl m.cells 1 [.int .i64 x] (GWaitM.cells { m with phase := x }) := spl_skip (k := 1) (i := 0) (rfl) (spl_head rfl)
instance (m : GWaitM) : Seg m.cells 2 16 (m.n.cells) := seg_skip (k := 1) (i := 1) (rfl) (seg_skip (k := 1) (i := 0) (rfl) (seg_head (m.n.len)))
instance (m : GWaitM) (x : AB 16) : Spl m.cells 2 (x.cells) (GWaitM.cells { m with n := x }) := spl_skip (k := 1) (i := 1) (rfl) (spl_skip (k := 1) (i := 0) (rfl) (spl_head (m.n.len.trans x.len.symm)))
instance (m : GWaitM) : Seg m.cells 18 16 (m.y.cells) := seg_skip (k := 1) (i := 17) (rfl) (seg_skip (k := 1) (i := 16) (rfl) (seg_skip (k := 16) (i := 0) (m.n.len) (seg_head (m.y.len))))
instance (m : GWaitM) (x : AB 16) : Spl m.cells 18 (x.cells) (GWaitM.cells { m with y := x }) := spl_skip (k := 1) (i := 17) (rfl) (spl_skip (k := 1) (i := 16) (rfl) (spl_skip (k := 16) (i := 0) (m.n.len) (spl_head (m.y.len.trans x.len.symm))))
instance (m : GWaitM) : Seg m.cells 34 16 (m.key.cells) := seg_skip (k := 1) (i := 33) (rfl) (seg_skip (k := 1) (i := 32) (rfl) (seg_skip (k := 16) (i := 16) (m.n.len) (seg_skip (k := 16) (i := 0) (m.y.len) (seg_head (m.key.len)))))
instance (m : GWaitM) (x : AB 16) : Spl m.cells 34 (x.cells) (GWaitM.cells { m with key := x }) := spl_skip (k := 1) (i := 33) (rfl) (spl_skip (k := 1) (i := 32) (rfl) (spl_skip (k := 16) (i := 16) (m.n.len) (spl_skip (k := 16) (i := 0) (m.y.len) (spl_head (m.key.len.trans x.len.symm)))))
instance (m : GWaitM) : Seg m.cells 50 1 [.bool m.there] := seg_skip (k := 1) (i := 49) (rfl) (seg_skip (k := 1) (i := 48) (rfl) (seg_skip (k := 16) (i := 32) (m.n.len) (seg_skip (k := 16) (i := 16) (m.y.len) (seg_skip (k := 16) (i := 0) (m.key.len) (seg_head (rfl))))))
instance (m : GWaitM) (x : Bool) : Spl m.cells 50 [.bool x] (GWaitM.cells { m with there := x }) := spl_skip (k := 1) (i := 49) (rfl) (spl_skip (k := 1) (i := 48) (rfl) (spl_skip (k := 16) (i := 32) (m.n.len) (spl_skip (k := 16) (i := 16) (m.y.len) (spl_skip (k := 16) (i := 0) (m.key.len) (spl_head rfl)))))
instance (m : GWaitM) : Seg m.cells 51 1 [SV.v m.ticket] := seg_skip (k := 1) (i := 50) (rfl) (seg_skip (k := 1) (i := 49) (rfl) (seg_skip (k := 16) (i := 33) (m.n.len) (seg_skip (k := 16) (i := 17) (m.y.len) (seg_skip (k := 16) (i := 1) (m.key.len) (seg_skip (k := 1) (i := 0) (rfl) (seg_head (rfl)))))))
instance (m : GWaitM) (x : SV) : Spl m.cells 51 [SV.v x] (GWaitM.cells { m with ticket := x }) := spl_skip (k := 1) (i := 50) (rfl) (spl_skip (k := 1) (i := 49) (rfl) (spl_skip (k := 16) (i := 33) (m.n.len) (spl_skip (k := 16) (i := 17) (m.y.len) (spl_skip (k := 16) (i := 1) (m.key.len) (spl_skip (k := 1) (i := 0) (rfl) (spl_head rfl))))))

structure GTickM where
  protocol : Int
  b : SV
  key : AB 16
def GTickM.zero : GTickM := ⟨0, SV.nil, AB.zero 16⟩
def GTickM.cells (m : GTickM) : List Value := [.int .i64 m.protocol] ++ ([SV.v m.b] ++ (m.key.cells ++ []))
theorem GTickM.len (m : GTickM) : m.cells.length = 18 := len_app (rfl) (len_app (rfl) (len_app (m.key.len) (rfl)))
theorem GTickM.ones (m : GTickM) : Ones m.cells := ones_append (ones_cons rfl ones_nil) (ones_append (ones_cons rfl ones_nil) (ones_append (m.key.ones) (ones_nil)))
def GTickM.v (m : GTickM) : Value := .agg m.cells.toArray
instance (m : GTickM) : VC m.v m.cells := ⟨rfl⟩
instance (m : GTickM) : Len m.cells 18 := ⟨m.len⟩
instance (m : GTickM) : OnesC m.cells := ⟨m.ones⟩
instance (m : GTickM) : Seg m.cells 0 18 m.cells := ⟨by rw [List.drop_zero, List.take_of_length_le (Nat.le_of_eq m.len)], Nat.le_of_eq (by rw [m.len])⟩
instance (m m' : GTickM) : Spl m.cells 0 m'.cells m'.cells := spl_all (m.len.trans m'.len.symm)
instance (m : GTickM) : Seg m.cells 0 1 [.int .i64 m.protocol] := seg_head (rfl)
instance (m : GTickM) (x : Int) : Spl m.cells 0 [.int .i64 x] (GTickM.cells { m with protocol := x }) := spl_head rfl
instance (m : GTickM) : Seg m.cells 1 1 [SV.v m.b] := seg_skip (k := 1) (i := 0) (rfl) (seg_head (rfl))
instance (m : GTickM) (x : SV) : Spl m.cells 1 [SV.v x] (GTickM.cells { m with b := x }) := spl_skip (k := 1) (i := 0) (rfl) (spl_head rfl)
instance (m : GTickM) : Seg m.cells 2 16 (m.key.cells) := seg_skip (k := 1) (i := 1) (rfl) (seg_skip (k := 1) (i := 0) (rfl) (seg_head (m.key.len)))
instance (m : GTickM) (x : AB 16) : Spl m.cells 2 (x.cells) (GTickM.cells { m with key := x }) := spl_skip (k := 1) (i := 1) (rfl) (spl_skip (k := 1) (i := 0) (rfl) (spl_head (m.key.len.trans x.len.symm)))

structure TakenM where
  to : ByteArray
  n : NoteM
  events : SV
def TakenM.zero : TakenM := ⟨ByteArray.empty, NoteM.zero, SV.nil⟩
def TakenM.cells (m : TakenM) : List Value := [.string m.to] ++ (m.n.cells ++ ([SV.v m.events] ++ []))
theorem TakenM.len (m : TakenM) : m.cells.length = 40 := len_app (rfl) (len_app (m.n.len) (len_app (rfl) (rfl)))
theorem TakenM.ones (m : TakenM) : Ones m.cells := ones_append (ones_cons rfl ones_nil) (ones_append (m.n.ones) (ones_append (ones_cons rfl ones_nil) (ones_nil)))
def TakenM.v (m : TakenM) : Value := .agg m.cells.toArray
instance (m : TakenM) : VC m.v m.cells := ⟨rfl⟩
instance (m : TakenM) : Len m.cells 40 := ⟨m.len⟩
instance (m : TakenM) : OnesC m.cells := ⟨m.ones⟩
instance (m : TakenM) : Seg m.cells 0 40 m.cells := ⟨by rw [List.drop_zero, List.take_of_length_le (Nat.le_of_eq m.len)], Nat.le_of_eq (by rw [m.len])⟩
instance (m m' : TakenM) : Spl m.cells 0 m'.cells m'.cells := spl_all (m.len.trans m'.len.symm)
instance (m : TakenM) : Seg m.cells 0 1 [.string m.to] := seg_head (rfl)
instance (m : TakenM) (x : ByteArray) : Spl m.cells 0 [.string x] (TakenM.cells { m with to := x }) := spl_head rfl
instance (m : TakenM) : Seg m.cells 1 38 (m.n.cells) := seg_skip (k := 1) (i := 0) (rfl) (seg_head (m.n.len))
instance (m : TakenM) (x : NoteM) : Spl m.cells 1 (x.cells) (TakenM.cells { m with n := x }) := spl_skip (k := 1) (i := 0) (rfl) (spl_head (m.n.len.trans x.len.symm))
instance (m : TakenM) : Seg m.cells 1 1 [.int .i64 m.n.Kind] := seg_skip (k := 1) (i := 0) (rfl) (seg_inh (inferInstance : Seg m.n.cells 0 1 [.int .i64 m.n.Kind]))
instance (m : TakenM) (x : Int) : Spl m.cells 1 [.int .i64 x] (TakenM.cells { m with n := { m.n with Kind := x } }) := spl_skip (k := 1) (i := 0) (rfl) (spl_inh (inferInstance : Spl m.n.cells 0 [.int .i64 x] (NoteM.cells { m.n with Kind := x })))
instance (m : TakenM) : Seg m.cells 2 1 [.string m.n.A] := seg_skip (k := 1) (i := 1) (rfl) (seg_inh (inferInstance : Seg m.n.cells 1 1 [.string m.n.A]))
instance (m : TakenM) (x : ByteArray) : Spl m.cells 2 [.string x] (TakenM.cells { m with n := { m.n with A := x } }) := spl_skip (k := 1) (i := 1) (rfl) (spl_inh (inferInstance : Spl m.n.cells 1 [.string x] (NoteM.cells { m.n with A := x })))
instance (m : TakenM) : Seg m.cells 3 1 [.string m.n.B] := seg_skip (k := 1) (i := 2) (rfl) (seg_inh (inferInstance : Seg m.n.cells 2 1 [.string m.n.B]))
instance (m : TakenM) (x : ByteArray) : Spl m.cells 3 [.string x] (TakenM.cells { m with n := { m.n with B := x } }) := spl_skip (k := 1) (i := 2) (rfl) (spl_inh (inferInstance : Spl m.n.cells 2 [.string x] (NoteM.cells { m.n with B := x })))
instance (m : TakenM) : Seg m.cells 4 16 (m.n.X.cells) := seg_skip (k := 1) (i := 3) (rfl) (seg_inh (inferInstance : Seg m.n.cells 3 16 (m.n.X.cells)))
instance (m : TakenM) (x : AB 16) : Spl m.cells 4 (x.cells) (TakenM.cells { m with n := { m.n with X := x } }) := spl_skip (k := 1) (i := 3) (rfl) (spl_inh (inferInstance : Spl m.n.cells 3 (x.cells) (NoteM.cells { m.n with X := x })))
instance (m : TakenM) : Seg m.cells 20 16 (m.n.Y.cells) := seg_skip (k := 1) (i := 19) (rfl) (seg_inh (inferInstance : Seg m.n.cells 19 16 (m.n.Y.cells)))
instance (m : TakenM) (x : AB 16) : Spl m.cells 20 (x.cells) (TakenM.cells { m with n := { m.n with Y := x } }) := spl_skip (k := 1) (i := 19) (rfl) (spl_inh (inferInstance : Spl m.n.cells 19 (x.cells) (NoteM.cells { m.n with Y := x })))
instance (m : TakenM) : Seg m.cells 36 1 [SV.v m.n.P] := seg_skip (k := 1) (i := 35) (rfl) (seg_inh (inferInstance : Seg m.n.cells 35 1 [SV.v m.n.P]))
instance (m : TakenM) (x : SV) : Spl m.cells 36 [SV.v x] (TakenM.cells { m with n := { m.n with P := x } }) := spl_skip (k := 1) (i := 35) (rfl) (spl_inh (inferInstance : Spl m.n.cells 35 [SV.v x] (NoteM.cells { m.n with P := x })))
instance (m : TakenM) : Seg m.cells 37 1 [SV.v m.n.Q] := seg_skip (k := 1) (i := 36) (rfl) (seg_inh (inferInstance : Seg m.n.cells 36 1 [SV.v m.n.Q]))
instance (m : TakenM) (x : SV) : Spl m.cells 37 [SV.v x] (TakenM.cells { m with n := { m.n with Q := x } }) := spl_skip (k := 1) (i := 36) (rfl) (spl_inh (inferInstance : Spl m.n.cells 36 [SV.v x] (NoteM.cells { m.n with Q := x })))
instance (m : TakenM) : Seg m.cells 38 1 [SV.v m.n.R] := seg_skip (k := 1) (i := 37) (rfl) (seg_inh (inferInstance : Seg m.n.cells 37 1 [SV.v m.n.R]))
instance (m : TakenM) (x : SV) : Spl m.cells 38 [SV.v x] (TakenM.cells { m with n := { m.n with R := x } }) := spl_skip (k := 1) (i := 37) (rfl) (spl_inh (inferInstance : Spl m.n.cells 37 [SV.v x] (NoteM.cells { m.n with R := x })))
instance (m : TakenM) : Seg m.cells 39 1 [SV.v m.events] := seg_skip (k := 1) (i := 38) (rfl) (seg_skip (k := 38) (i := 0) (m.n.len) (seg_head (rfl)))
instance (m : TakenM) (x : SV) : Spl m.cells 39 [SV.v x] (TakenM.cells { m with events := x }) := spl_skip (k := 1) (i := 38) (rfl) (spl_skip (k := 38) (i := 0) (m.n.len) (spl_head rfl))

structure HostM where
  name : ByteArray
  key : AB 16
  life : Int
  b : BookM
  c : ClockM
  pending : Option Addr
  waits : Option Addr
def HostM.zero : HostM := ⟨ByteArray.empty, AB.zero 16, 0, BookM.zero, ClockM.zero, none, none⟩
def HostM.cells (m : HostM) : List Value := [.string m.name] ++ (m.key.cells ++ ([.int .i64 m.life] ++ (m.b.cells ++ (m.c.cells ++ ([.pointer m.pending] ++ ([.pointer m.waits] ++ []))))))
theorem HostM.len (m : HostM) : m.cells.length = 44 := len_app (rfl) (len_app (m.key.len) (len_app (rfl) (len_app (m.b.len) (len_app (m.c.len) (len_app (rfl) (len_app (rfl) (rfl)))))))
theorem HostM.ones (m : HostM) : Ones m.cells := ones_append (ones_cons rfl ones_nil) (ones_append (m.key.ones) (ones_append (ones_cons rfl ones_nil) (ones_append (m.b.ones) (ones_append (m.c.ones) (ones_append (ones_cons rfl ones_nil) (ones_append (ones_cons rfl ones_nil) (ones_nil)))))))
def HostM.v (m : HostM) : Value := .agg m.cells.toArray
instance (m : HostM) : VC m.v m.cells := ⟨rfl⟩
instance (m : HostM) : Len m.cells 44 := ⟨m.len⟩
instance (m : HostM) : OnesC m.cells := ⟨m.ones⟩
instance (m : HostM) : Seg m.cells 0 44 m.cells := ⟨by rw [List.drop_zero, List.take_of_length_le (Nat.le_of_eq m.len)], Nat.le_of_eq (by rw [m.len])⟩
instance (m m' : HostM) : Spl m.cells 0 m'.cells m'.cells := spl_all (m.len.trans m'.len.symm)
instance (m : HostM) : Seg m.cells 0 1 [.string m.name] := seg_head (rfl)
instance (m : HostM) (x : ByteArray) : Spl m.cells 0 [.string x] (HostM.cells { m with name := x }) := spl_head rfl
instance (m : HostM) : Seg m.cells 1 16 (m.key.cells) := seg_skip (k := 1) (i := 0) (rfl) (seg_head (m.key.len))
instance (m : HostM) (x : AB 16) : Spl m.cells 1 (x.cells) (HostM.cells { m with key := x }) := spl_skip (k := 1) (i := 0) (rfl) (spl_head (m.key.len.trans x.len.symm))
instance (m : HostM) : Seg m.cells 17 1 [.int .i64 m.life] := seg_skip (k := 1) (i := 16) (rfl) (seg_skip (k := 16) (i := 0) (m.key.len) (seg_head (rfl)))
instance (m : HostM) (x : Int) : Spl m.cells 17 [.int .i64 x] (HostM.cells { m with life := x }) := spl_skip (k := 1) (i := 16) (rfl) (spl_skip (k := 16) (i := 0) (m.key.len) (spl_head rfl))
instance (m : HostM) : Seg m.cells 18 19 (m.b.cells) := seg_skip (k := 1) (i := 17) (rfl) (seg_skip (k := 16) (i := 1) (m.key.len) (seg_skip (k := 1) (i := 0) (rfl) (seg_head (m.b.len))))
instance (m : HostM) (x : BookM) : Spl m.cells 18 (x.cells) (HostM.cells { m with b := x }) := spl_skip (k := 1) (i := 17) (rfl) (spl_skip (k := 16) (i := 1) (m.key.len) (spl_skip (k := 1) (i := 0) (rfl) (spl_head (m.b.len.trans x.len.symm))))
instance (m : HostM) : Seg m.cells 18 1 [SV.v m.b.L] := seg_skip (k := 1) (i := 17) (rfl) (seg_skip (k := 16) (i := 1) (m.key.len) (seg_skip (k := 1) (i := 0) (rfl) (seg_inh (inferInstance : Seg m.b.cells 0 1 [SV.v m.b.L]))))
instance (m : HostM) (x : SV) : Spl m.cells 18 [SV.v x] (HostM.cells { m with b := { m.b with L := x } }) := spl_skip (k := 1) (i := 17) (rfl) (spl_skip (k := 16) (i := 1) (m.key.len) (spl_skip (k := 1) (i := 0) (rfl) (spl_inh (inferInstance : Spl m.b.cells 0 [SV.v x] (BookM.cells { m.b with L := x })))))
instance (m : HostM) : Seg m.cells 19 1 [SV.v m.b.Revoked] := seg_skip (k := 1) (i := 18) (rfl) (seg_skip (k := 16) (i := 2) (m.key.len) (seg_skip (k := 1) (i := 1) (rfl) (seg_inh (inferInstance : Seg m.b.cells 1 1 [SV.v m.b.Revoked]))))
instance (m : HostM) (x : SV) : Spl m.cells 19 [SV.v x] (HostM.cells { m with b := { m.b with Revoked := x } }) := spl_skip (k := 1) (i := 18) (rfl) (spl_skip (k := 16) (i := 2) (m.key.len) (spl_skip (k := 1) (i := 1) (rfl) (spl_inh (inferInstance : Spl m.b.cells 1 [SV.v x] (BookM.cells { m.b with Revoked := x })))))
instance (m : HostM) : Seg m.cells 20 1 [.int .i64 m.b.Gen] := seg_skip (k := 1) (i := 19) (rfl) (seg_skip (k := 16) (i := 3) (m.key.len) (seg_skip (k := 1) (i := 2) (rfl) (seg_inh (inferInstance : Seg m.b.cells 2 1 [.int .i64 m.b.Gen]))))
instance (m : HostM) (x : Int) : Spl m.cells 20 [.int .i64 x] (HostM.cells { m with b := { m.b with Gen := x } }) := spl_skip (k := 1) (i := 19) (rfl) (spl_skip (k := 16) (i := 3) (m.key.len) (spl_skip (k := 1) (i := 2) (rfl) (spl_inh (inferInstance : Spl m.b.cells 2 [.int .i64 x] (BookM.cells { m.b with Gen := x })))))
instance (m : HostM) : Seg m.cells 21 16 (m.b.Own.cells) := seg_skip (k := 1) (i := 20) (rfl) (seg_skip (k := 16) (i := 4) (m.key.len) (seg_skip (k := 1) (i := 3) (rfl) (seg_inh (inferInstance : Seg m.b.cells 3 16 (m.b.Own.cells)))))
instance (m : HostM) (x : AB 16) : Spl m.cells 21 (x.cells) (HostM.cells { m with b := { m.b with Own := x } }) := spl_skip (k := 1) (i := 20) (rfl) (spl_skip (k := 16) (i := 4) (m.key.len) (spl_skip (k := 1) (i := 3) (rfl) (spl_inh (inferInstance : Spl m.b.cells 3 (x.cells) (BookM.cells { m.b with Own := x })))))
instance (m : HostM) : Seg m.cells 37 5 (m.c.cells) := seg_skip (k := 1) (i := 36) (rfl) (seg_skip (k := 16) (i := 20) (m.key.len) (seg_skip (k := 1) (i := 19) (rfl) (seg_skip (k := 19) (i := 0) (m.b.len) (seg_head (m.c.len)))))
instance (m : HostM) (x : ClockM) : Spl m.cells 37 (x.cells) (HostM.cells { m with c := x }) := spl_skip (k := 1) (i := 36) (rfl) (spl_skip (k := 16) (i := 20) (m.key.len) (spl_skip (k := 1) (i := 19) (rfl) (spl_skip (k := 19) (i := 0) (m.b.len) (spl_head (m.c.len.trans x.len.symm)))))
instance (m : HostM) : Seg m.cells 37 1 [.int .i64 m.c.Ppm] := seg_skip (k := 1) (i := 36) (rfl) (seg_skip (k := 16) (i := 20) (m.key.len) (seg_skip (k := 1) (i := 19) (rfl) (seg_skip (k := 19) (i := 0) (m.b.len) (seg_inh (inferInstance : Seg m.c.cells 0 1 [.int .i64 m.c.Ppm])))))
instance (m : HostM) (x : Int) : Spl m.cells 37 [.int .i64 x] (HostM.cells { m with c := { m.c with Ppm := x } }) := spl_skip (k := 1) (i := 36) (rfl) (spl_skip (k := 16) (i := 20) (m.key.len) (spl_skip (k := 1) (i := 19) (rfl) (spl_skip (k := 19) (i := 0) (m.b.len) (spl_inh (inferInstance : Spl m.c.cells 0 [.int .i64 x] (ClockM.cells { m.c with Ppm := x }))))))
instance (m : HostM) : Seg m.cells 38 1 [.bool m.c.On] := seg_skip (k := 1) (i := 37) (rfl) (seg_skip (k := 16) (i := 21) (m.key.len) (seg_skip (k := 1) (i := 20) (rfl) (seg_skip (k := 19) (i := 1) (m.b.len) (seg_inh (inferInstance : Seg m.c.cells 1 1 [.bool m.c.On])))))
instance (m : HostM) (x : Bool) : Spl m.cells 38 [.bool x] (HostM.cells { m with c := { m.c with On := x } }) := spl_skip (k := 1) (i := 37) (rfl) (spl_skip (k := 16) (i := 21) (m.key.len) (spl_skip (k := 1) (i := 20) (rfl) (spl_skip (k := 19) (i := 1) (m.b.len) (spl_inh (inferInstance : Spl m.c.cells 1 [.bool x] (ClockM.cells { m.c with On := x }))))))
instance (m : HostM) : Seg m.cells 39 1 [.int .i64 m.c.At] := seg_skip (k := 1) (i := 38) (rfl) (seg_skip (k := 16) (i := 22) (m.key.len) (seg_skip (k := 1) (i := 21) (rfl) (seg_skip (k := 19) (i := 2) (m.b.len) (seg_inh (inferInstance : Seg m.c.cells 2 1 [.int .i64 m.c.At])))))
instance (m : HostM) (x : Int) : Spl m.cells 39 [.int .i64 x] (HostM.cells { m with c := { m.c with At := x } }) := spl_skip (k := 1) (i := 38) (rfl) (spl_skip (k := 16) (i := 22) (m.key.len) (spl_skip (k := 1) (i := 21) (rfl) (spl_skip (k := 19) (i := 2) (m.b.len) (spl_inh (inferInstance : Spl m.c.cells 2 [.int .i64 x] (ClockM.cells { m.c with At := x }))))))
instance (m : HostM) : Seg m.cells 40 2 (m.c.S.cells) := seg_skip (k := 1) (i := 39) (rfl) (seg_skip (k := 16) (i := 23) (m.key.len) (seg_skip (k := 1) (i := 22) (rfl) (seg_skip (k := 19) (i := 3) (m.b.len) (seg_inh (inferInstance : Seg m.c.cells 3 2 (m.c.S.cells))))))
instance (m : HostM) (x : SpanM) : Spl m.cells 40 (x.cells) (HostM.cells { m with c := { m.c with S := x } }) := spl_skip (k := 1) (i := 39) (rfl) (spl_skip (k := 16) (i := 23) (m.key.len) (spl_skip (k := 1) (i := 22) (rfl) (spl_skip (k := 19) (i := 3) (m.b.len) (spl_inh (inferInstance : Spl m.c.cells 3 (x.cells) (ClockM.cells { m.c with S := x }))))))
instance (m : HostM) : Seg m.cells 40 1 [.int .i64 m.c.S.Lo] := seg_skip (k := 1) (i := 39) (rfl) (seg_skip (k := 16) (i := 23) (m.key.len) (seg_skip (k := 1) (i := 22) (rfl) (seg_skip (k := 19) (i := 3) (m.b.len) (seg_inh (inferInstance : Seg m.c.cells 3 1 [.int .i64 m.c.S.Lo])))))
instance (m : HostM) (x : Int) : Spl m.cells 40 [.int .i64 x] (HostM.cells { m with c := { m.c with S := { m.c.S with Lo := x } } }) := spl_skip (k := 1) (i := 39) (rfl) (spl_skip (k := 16) (i := 23) (m.key.len) (spl_skip (k := 1) (i := 22) (rfl) (spl_skip (k := 19) (i := 3) (m.b.len) (spl_inh (inferInstance : Spl m.c.cells 3 [.int .i64 x] (ClockM.cells { m.c with S := { m.c.S with Lo := x } }))))))
instance (m : HostM) : Seg m.cells 41 1 [.int .i64 m.c.S.Hi] := seg_skip (k := 1) (i := 40) (rfl) (seg_skip (k := 16) (i := 24) (m.key.len) (seg_skip (k := 1) (i := 23) (rfl) (seg_skip (k := 19) (i := 4) (m.b.len) (seg_inh (inferInstance : Seg m.c.cells 4 1 [.int .i64 m.c.S.Hi])))))
instance (m : HostM) (x : Int) : Spl m.cells 41 [.int .i64 x] (HostM.cells { m with c := { m.c with S := { m.c.S with Hi := x } } }) := spl_skip (k := 1) (i := 40) (rfl) (spl_skip (k := 16) (i := 24) (m.key.len) (spl_skip (k := 1) (i := 23) (rfl) (spl_skip (k := 19) (i := 4) (m.b.len) (spl_inh (inferInstance : Spl m.c.cells 4 [.int .i64 x] (ClockM.cells { m.c with S := { m.c.S with Hi := x } }))))))
instance (m : HostM) : Seg m.cells 42 1 [.pointer m.pending] := seg_skip (k := 1) (i := 41) (rfl) (seg_skip (k := 16) (i := 25) (m.key.len) (seg_skip (k := 1) (i := 24) (rfl) (seg_skip (k := 19) (i := 5) (m.b.len) (seg_skip (k := 5) (i := 0) (m.c.len) (seg_head (rfl))))))
instance (m : HostM) (x : Option Addr) : Spl m.cells 42 [.pointer x] (HostM.cells { m with pending := x }) := spl_skip (k := 1) (i := 41) (rfl) (spl_skip (k := 16) (i := 25) (m.key.len) (spl_skip (k := 1) (i := 24) (rfl) (spl_skip (k := 19) (i := 5) (m.b.len) (spl_skip (k := 5) (i := 0) (m.c.len) (spl_head rfl)))))
instance (m : HostM) : Seg m.cells 43 1 [.pointer m.waits] := seg_skip (k := 1) (i := 42) (rfl) (seg_skip (k := 16) (i := 26) (m.key.len) (seg_skip (k := 1) (i := 25) (rfl) (seg_skip (k := 19) (i := 6) (m.b.len) (seg_skip (k := 5) (i := 1) (m.c.len) (seg_skip (k := 1) (i := 0) (rfl) (seg_head (rfl)))))))
instance (m : HostM) (x : Option Addr) : Spl m.cells 43 [.pointer x] (HostM.cells { m with waits := x }) := spl_skip (k := 1) (i := 42) (rfl) (spl_skip (k := 16) (i := 26) (m.key.len) (spl_skip (k := 1) (i := 25) (rfl) (spl_skip (k := 19) (i := 6) (m.b.len) (spl_skip (k := 5) (i := 1) (m.c.len) (spl_skip (k := 1) (i := 0) (rfl) (spl_head rfl))))))

structure PendM where
  a : ByteArray
  n : AB 16
  protocol : Int
def PendM.zero : PendM := ⟨ByteArray.empty, AB.zero 16, 0⟩
def PendM.cells (m : PendM) : List Value := [.string m.a] ++ (m.n.cells ++ ([.int .i64 m.protocol] ++ []))
theorem PendM.len (m : PendM) : m.cells.length = 18 := len_app (rfl) (len_app (m.n.len) (len_app (rfl) (rfl)))
theorem PendM.ones (m : PendM) : Ones m.cells := ones_append (ones_cons rfl ones_nil) (ones_append (m.n.ones) (ones_append (ones_cons rfl ones_nil) (ones_nil)))
def PendM.v (m : PendM) : Value := .agg m.cells.toArray
instance (m : PendM) : VC m.v m.cells := ⟨rfl⟩
instance (m : PendM) : Len m.cells 18 := ⟨m.len⟩
instance (m : PendM) : OnesC m.cells := ⟨m.ones⟩
instance (m : PendM) : Seg m.cells 0 18 m.cells := ⟨by rw [List.drop_zero, List.take_of_length_le (Nat.le_of_eq m.len)], Nat.le_of_eq (by rw [m.len])⟩
instance (m m' : PendM) : Spl m.cells 0 m'.cells m'.cells := spl_all (m.len.trans m'.len.symm)
instance (m : PendM) : Seg m.cells 0 1 [.string m.a] := seg_head (rfl)
instance (m : PendM) (x : ByteArray) : Spl m.cells 0 [.string x] (PendM.cells { m with a := x }) := spl_head rfl
instance (m : PendM) : Seg m.cells 1 16 (m.n.cells) := seg_skip (k := 1) (i := 0) (rfl) (seg_head (m.n.len))
instance (m : PendM) (x : AB 16) : Spl m.cells 1 (x.cells) (PendM.cells { m with n := x }) := spl_skip (k := 1) (i := 0) (rfl) (spl_head (m.n.len.trans x.len.symm))
instance (m : PendM) : Seg m.cells 17 1 [.int .i64 m.protocol] := seg_skip (k := 1) (i := 16) (rfl) (seg_skip (k := 16) (i := 0) (m.n.len) (seg_head (rfl)))
instance (m : PendM) (x : Int) : Spl m.cells 17 [.int .i64 x] (PendM.cells { m with protocol := x }) := spl_skip (k := 1) (i := 16) (rfl) (spl_skip (k := 16) (i := 0) (m.n.len) (spl_head rfl))

structure PlaceM where
  a : ByteArray
  protocol : Int
  phase : Int
def PlaceM.zero : PlaceM := ⟨ByteArray.empty, 0, 0⟩
def PlaceM.cells (m : PlaceM) : List Value := [.string m.a] ++ ([.int .i64 m.protocol] ++ ([.int .i64 m.phase] ++ []))
theorem PlaceM.len (m : PlaceM) : m.cells.length = 3 := len_app (rfl) (len_app (rfl) (len_app (rfl) (rfl)))
theorem PlaceM.ones (m : PlaceM) : Ones m.cells := ones_append (ones_cons rfl ones_nil) (ones_append (ones_cons rfl ones_nil) (ones_append (ones_cons rfl ones_nil) (ones_nil)))
def PlaceM.v (m : PlaceM) : Value := .agg m.cells.toArray
instance (m : PlaceM) : VC m.v m.cells := ⟨rfl⟩
instance (m : PlaceM) : Len m.cells 3 := ⟨m.len⟩
instance (m : PlaceM) : OnesC m.cells := ⟨m.ones⟩
instance (m : PlaceM) : Seg m.cells 0 3 m.cells := ⟨by rw [List.drop_zero, List.take_of_length_le (Nat.le_of_eq m.len)], Nat.le_of_eq (by rw [m.len])⟩
instance (m m' : PlaceM) : Spl m.cells 0 m'.cells m'.cells := spl_all (m.len.trans m'.len.symm)
instance (m : PlaceM) : Seg m.cells 0 1 [.string m.a] := seg_head (rfl)
instance (m : PlaceM) (x : ByteArray) : Spl m.cells 0 [.string x] (PlaceM.cells { m with a := x }) := spl_head rfl
instance (m : PlaceM) : Seg m.cells 1 1 [.int .i64 m.protocol] := seg_skip (k := 1) (i := 0) (rfl) (seg_head (rfl))
instance (m : PlaceM) (x : Int) : Spl m.cells 1 [.int .i64 x] (PlaceM.cells { m with protocol := x }) := spl_skip (k := 1) (i := 0) (rfl) (spl_head rfl)
instance (m : PlaceM) : Seg m.cells 2 1 [.int .i64 m.phase] := seg_skip (k := 1) (i := 1) (rfl) (seg_skip (k := 1) (i := 0) (rfl) (seg_head (rfl)))
instance (m : PlaceM) (x : Int) : Spl m.cells 2 [.int .i64 x] (PlaceM.cells { m with phase := x }) := spl_skip (k := 1) (i := 1) (rfl) (spl_skip (k := 1) (i := 0) (rfl) (spl_head rfl))

structure HWaitM where
  n : AB 16
  mine : AB 16
  key : AB 16
def HWaitM.zero : HWaitM := ⟨AB.zero 16, AB.zero 16, AB.zero 16⟩
def HWaitM.cells (m : HWaitM) : List Value := m.n.cells ++ (m.mine.cells ++ (m.key.cells ++ []))
theorem HWaitM.len (m : HWaitM) : m.cells.length = 48 := len_app (m.n.len) (len_app (m.mine.len) (len_app (m.key.len) (rfl)))
theorem HWaitM.ones (m : HWaitM) : Ones m.cells := ones_append (m.n.ones) (ones_append (m.mine.ones) (ones_append (m.key.ones) (ones_nil)))
def HWaitM.v (m : HWaitM) : Value := .agg m.cells.toArray
instance (m : HWaitM) : VC m.v m.cells := ⟨rfl⟩
instance (m : HWaitM) : Len m.cells 48 := ⟨m.len⟩
instance (m : HWaitM) : OnesC m.cells := ⟨m.ones⟩
instance (m : HWaitM) : Seg m.cells 0 48 m.cells := ⟨by rw [List.drop_zero, List.take_of_length_le (Nat.le_of_eq m.len)], Nat.le_of_eq (by rw [m.len])⟩
instance (m m' : HWaitM) : Spl m.cells 0 m'.cells m'.cells := spl_all (m.len.trans m'.len.symm)
instance (m : HWaitM) : Seg m.cells 0 16 (m.n.cells) := seg_head (m.n.len)
instance (m : HWaitM) (x : AB 16) : Spl m.cells 0 (x.cells) (HWaitM.cells { m with n := x }) := spl_head (m.n.len.trans x.len.symm)
instance (m : HWaitM) : Seg m.cells 16 16 (m.mine.cells) := seg_skip (k := 16) (i := 0) (m.n.len) (seg_head (m.mine.len))
instance (m : HWaitM) (x : AB 16) : Spl m.cells 16 (x.cells) (HWaitM.cells { m with mine := x }) := spl_skip (k := 16) (i := 0) (m.n.len) (spl_head (m.mine.len.trans x.len.symm))
instance (m : HWaitM) : Seg m.cells 32 16 (m.key.cells) := seg_skip (k := 16) (i := 16) (m.n.len) (seg_skip (k := 16) (i := 0) (m.mine.len) (seg_head (m.key.len)))
instance (m : HWaitM) (x : AB 16) : Spl m.cells 32 (x.cells) (HWaitM.cells { m with key := x }) := spl_skip (k := 16) (i := 16) (m.n.len) (spl_skip (k := 16) (i := 0) (m.mine.len) (spl_head (m.key.len.trans x.len.symm)))

structure HTakenM where
  to : ByteArray
  n : NoteM
  events : SV
def HTakenM.zero : HTakenM := ⟨ByteArray.empty, NoteM.zero, SV.nil⟩
def HTakenM.cells (m : HTakenM) : List Value := [.string m.to] ++ (m.n.cells ++ ([SV.v m.events] ++ []))
theorem HTakenM.len (m : HTakenM) : m.cells.length = 40 := len_app (rfl) (len_app (m.n.len) (len_app (rfl) (rfl)))
theorem HTakenM.ones (m : HTakenM) : Ones m.cells := ones_append (ones_cons rfl ones_nil) (ones_append (m.n.ones) (ones_append (ones_cons rfl ones_nil) (ones_nil)))
def HTakenM.v (m : HTakenM) : Value := .agg m.cells.toArray
instance (m : HTakenM) : VC m.v m.cells := ⟨rfl⟩
instance (m : HTakenM) : Len m.cells 40 := ⟨m.len⟩
instance (m : HTakenM) : OnesC m.cells := ⟨m.ones⟩
instance (m : HTakenM) : Seg m.cells 0 40 m.cells := ⟨by rw [List.drop_zero, List.take_of_length_le (Nat.le_of_eq m.len)], Nat.le_of_eq (by rw [m.len])⟩
instance (m m' : HTakenM) : Spl m.cells 0 m'.cells m'.cells := spl_all (m.len.trans m'.len.symm)
instance (m : HTakenM) : Seg m.cells 0 1 [.string m.to] := seg_head (rfl)
instance (m : HTakenM) (x : ByteArray) : Spl m.cells 0 [.string x] (HTakenM.cells { m with to := x }) := spl_head rfl
instance (m : HTakenM) : Seg m.cells 1 38 (m.n.cells) := seg_skip (k := 1) (i := 0) (rfl) (seg_head (m.n.len))
instance (m : HTakenM) (x : NoteM) : Spl m.cells 1 (x.cells) (HTakenM.cells { m with n := x }) := spl_skip (k := 1) (i := 0) (rfl) (spl_head (m.n.len.trans x.len.symm))
instance (m : HTakenM) : Seg m.cells 1 1 [.int .i64 m.n.Kind] := seg_skip (k := 1) (i := 0) (rfl) (seg_inh (inferInstance : Seg m.n.cells 0 1 [.int .i64 m.n.Kind]))
instance (m : HTakenM) (x : Int) : Spl m.cells 1 [.int .i64 x] (HTakenM.cells { m with n := { m.n with Kind := x } }) := spl_skip (k := 1) (i := 0) (rfl) (spl_inh (inferInstance : Spl m.n.cells 0 [.int .i64 x] (NoteM.cells { m.n with Kind := x })))
instance (m : HTakenM) : Seg m.cells 2 1 [.string m.n.A] := seg_skip (k := 1) (i := 1) (rfl) (seg_inh (inferInstance : Seg m.n.cells 1 1 [.string m.n.A]))
instance (m : HTakenM) (x : ByteArray) : Spl m.cells 2 [.string x] (HTakenM.cells { m with n := { m.n with A := x } }) := spl_skip (k := 1) (i := 1) (rfl) (spl_inh (inferInstance : Spl m.n.cells 1 [.string x] (NoteM.cells { m.n with A := x })))
instance (m : HTakenM) : Seg m.cells 3 1 [.string m.n.B] := seg_skip (k := 1) (i := 2) (rfl) (seg_inh (inferInstance : Seg m.n.cells 2 1 [.string m.n.B]))
instance (m : HTakenM) (x : ByteArray) : Spl m.cells 3 [.string x] (HTakenM.cells { m with n := { m.n with B := x } }) := spl_skip (k := 1) (i := 2) (rfl) (spl_inh (inferInstance : Spl m.n.cells 2 [.string x] (NoteM.cells { m.n with B := x })))
instance (m : HTakenM) : Seg m.cells 4 16 (m.n.X.cells) := seg_skip (k := 1) (i := 3) (rfl) (seg_inh (inferInstance : Seg m.n.cells 3 16 (m.n.X.cells)))
instance (m : HTakenM) (x : AB 16) : Spl m.cells 4 (x.cells) (HTakenM.cells { m with n := { m.n with X := x } }) := spl_skip (k := 1) (i := 3) (rfl) (spl_inh (inferInstance : Spl m.n.cells 3 (x.cells) (NoteM.cells { m.n with X := x })))
instance (m : HTakenM) : Seg m.cells 20 16 (m.n.Y.cells) := seg_skip (k := 1) (i := 19) (rfl) (seg_inh (inferInstance : Seg m.n.cells 19 16 (m.n.Y.cells)))
instance (m : HTakenM) (x : AB 16) : Spl m.cells 20 (x.cells) (HTakenM.cells { m with n := { m.n with Y := x } }) := spl_skip (k := 1) (i := 19) (rfl) (spl_inh (inferInstance : Spl m.n.cells 19 (x.cells) (NoteM.cells { m.n with Y := x })))
instance (m : HTakenM) : Seg m.cells 36 1 [SV.v m.n.P] := seg_skip (k := 1) (i := 35) (rfl) (seg_inh (inferInstance : Seg m.n.cells 35 1 [SV.v m.n.P]))
instance (m : HTakenM) (x : SV) : Spl m.cells 36 [SV.v x] (HTakenM.cells { m with n := { m.n with P := x } }) := spl_skip (k := 1) (i := 35) (rfl) (spl_inh (inferInstance : Spl m.n.cells 35 [SV.v x] (NoteM.cells { m.n with P := x })))
instance (m : HTakenM) : Seg m.cells 37 1 [SV.v m.n.Q] := seg_skip (k := 1) (i := 36) (rfl) (seg_inh (inferInstance : Seg m.n.cells 36 1 [SV.v m.n.Q]))
instance (m : HTakenM) (x : SV) : Spl m.cells 37 [SV.v x] (HTakenM.cells { m with n := { m.n with Q := x } }) := spl_skip (k := 1) (i := 36) (rfl) (spl_inh (inferInstance : Spl m.n.cells 36 [SV.v x] (NoteM.cells { m.n with Q := x })))
instance (m : HTakenM) : Seg m.cells 38 1 [SV.v m.n.R] := seg_skip (k := 1) (i := 37) (rfl) (seg_inh (inferInstance : Seg m.n.cells 37 1 [SV.v m.n.R]))
instance (m : HTakenM) (x : SV) : Spl m.cells 38 [SV.v x] (HTakenM.cells { m with n := { m.n with R := x } }) := spl_skip (k := 1) (i := 37) (rfl) (spl_inh (inferInstance : Spl m.n.cells 37 [SV.v x] (NoteM.cells { m.n with R := x })))
instance (m : HTakenM) : Seg m.cells 39 1 [SV.v m.events] := seg_skip (k := 1) (i := 38) (rfl) (seg_skip (k := 38) (i := 0) (m.n.len) (seg_head (rfl)))
instance (m : HTakenM) (x : SV) : Spl m.cells 39 [SV.v x] (HTakenM.cells { m with events := x }) := spl_skip (k := 1) (i := 38) (rfl) (spl_skip (k := 38) (i := 0) (m.n.len) (spl_head rfl))

structure PartM where
  get : Value
  set : Value
def PartM.zero : PartM := ⟨.nilFunc, .nilFunc⟩
def PartM.cells (m : PartM) : List Value := [m.get] ++ ([m.set] ++ [])
theorem PartM.len (m : PartM) : m.cells.length = 2 := len_app (rfl) (len_app (rfl) (rfl))
def PartM.v (m : PartM) : Value := .agg m.cells.toArray
instance (m : PartM) : VC m.v m.cells := ⟨rfl⟩
instance (m : PartM) : Len m.cells 2 := ⟨m.len⟩
instance (m : PartM) : Seg m.cells 0 2 m.cells := ⟨by rw [List.drop_zero, List.take_of_length_le (Nat.le_of_eq m.len)], Nat.le_of_eq (by rw [m.len])⟩
instance (m m' : PartM) : Spl m.cells 0 m'.cells m'.cells := spl_all (m.len.trans m'.len.symm)
instance (m : PartM) : Seg m.cells 0 1 [m.get] := seg_head (rfl)
instance (m : PartM) (x : Value) : Spl m.cells 0 [x] (PartM.cells { m with get := x }) := spl_head rfl
instance (m : PartM) : Seg m.cells 1 1 [m.set] := seg_skip (k := 1) (i := 0) (rfl) (seg_head (rfl))
instance (m : PartM) (x : Value) : Spl m.cells 1 [x] (PartM.cells { m with set := x }) := spl_skip (k := 1) (i := 0) (rfl) (spl_head rfl)

structure TableM where
  room : Int
  keys : SV
  of : Option Nat
def TableM.zero : TableM := ⟨0, SV.nil, none⟩
def TableM.cells (m : TableM) : List Value := [.int .i64 m.room] ++ ([SV.v m.keys] ++ ([.map m.of] ++ []))
theorem TableM.len (m : TableM) : m.cells.length = 3 := len_app (rfl) (len_app (rfl) (len_app (rfl) (rfl)))
theorem TableM.ones (m : TableM) : Ones m.cells := ones_append (ones_cons rfl ones_nil) (ones_append (ones_cons rfl ones_nil) (ones_append (ones_cons rfl ones_nil) (ones_nil)))
def TableM.v (m : TableM) : Value := .agg m.cells.toArray
instance (m : TableM) : VC m.v m.cells := ⟨rfl⟩
instance (m : TableM) : Len m.cells 3 := ⟨m.len⟩
instance (m : TableM) : OnesC m.cells := ⟨m.ones⟩
instance (m : TableM) : Seg m.cells 0 3 m.cells := ⟨by rw [List.drop_zero, List.take_of_length_le (Nat.le_of_eq m.len)], Nat.le_of_eq (by rw [m.len])⟩
instance (m m' : TableM) : Spl m.cells 0 m'.cells m'.cells := spl_all (m.len.trans m'.len.symm)
instance (m : TableM) : Seg m.cells 0 1 [.int .i64 m.room] := seg_head (rfl)
instance (m : TableM) (x : Int) : Spl m.cells 0 [.int .i64 x] (TableM.cells { m with room := x }) := spl_head rfl
instance (m : TableM) : Seg m.cells 1 1 [SV.v m.keys] := seg_skip (k := 1) (i := 0) (rfl) (seg_head (rfl))
instance (m : TableM) (x : SV) : Spl m.cells 1 [SV.v x] (TableM.cells { m with keys := x }) := spl_skip (k := 1) (i := 0) (rfl) (spl_head rfl)
instance (m : TableM) : Seg m.cells 2 1 [.map m.of] := seg_skip (k := 1) (i := 1) (rfl) (seg_skip (k := 1) (i := 0) (rfl) (seg_head (rfl)))
instance (m : TableM) (x : Option Nat) : Spl m.cells 2 [.map x] (TableM.cells { m with of := x }) := spl_skip (k := 1) (i := 1) (rfl) (spl_skip (k := 1) (i := 0) (rfl) (spl_head rfl))

structure TableMx where
  room : Int
  keys : SV
  of : Option Nat
def TableMx.zero : TableMx := ⟨0, SV.nil, none⟩
def TableMx.cells (m : TableMx) : List Value := [.int .i64 m.room] ++ ([SV.v m.keys] ++ ([.map m.of] ++ []))
theorem TableMx.len (m : TableMx) : m.cells.length = 3 := len_app (rfl) (len_app (rfl) (len_app (rfl) (rfl)))
theorem TableMx.ones (m : TableMx) : Ones m.cells := ones_append (ones_cons rfl ones_nil) (ones_append (ones_cons rfl ones_nil) (ones_append (ones_cons rfl ones_nil) (ones_nil)))
def TableMx.v (m : TableMx) : Value := .agg m.cells.toArray
instance (m : TableMx) : VC m.v m.cells := ⟨rfl⟩
instance (m : TableMx) : Len m.cells 3 := ⟨m.len⟩
instance (m : TableMx) : OnesC m.cells := ⟨m.ones⟩
instance (m : TableMx) : Seg m.cells 0 3 m.cells := ⟨by rw [List.drop_zero, List.take_of_length_le (Nat.le_of_eq m.len)], Nat.le_of_eq (by rw [m.len])⟩
instance (m m' : TableMx) : Spl m.cells 0 m'.cells m'.cells := spl_all (m.len.trans m'.len.symm)
instance (m : TableMx) : Seg m.cells 0 1 [.int .i64 m.room] := seg_head (rfl)
instance (m : TableMx) (x : Int) : Spl m.cells 0 [.int .i64 x] (TableMx.cells { m with room := x }) := spl_head rfl
instance (m : TableMx) : Seg m.cells 1 1 [SV.v m.keys] := seg_skip (k := 1) (i := 0) (rfl) (seg_head (rfl))
instance (m : TableMx) (x : SV) : Spl m.cells 1 [SV.v x] (TableMx.cells { m with keys := x }) := spl_skip (k := 1) (i := 0) (rfl) (spl_head rfl)
instance (m : TableMx) : Seg m.cells 2 1 [.map m.of] := seg_skip (k := 1) (i := 1) (rfl) (seg_skip (k := 1) (i := 0) (rfl) (seg_head (rfl)))
instance (m : TableMx) (x : Option Nat) : Spl m.cells 2 [.map x] (TableMx.cells { m with of := x }) := spl_skip (k := 1) (i := 1) (rfl) (spl_skip (k := 1) (i := 0) (rfl) (spl_head rfl))

structure HTickM where
  a : ByteArray
  key : AB 16
  stamp : Int
  protocol : Int
def HTickM.zero : HTickM := ⟨ByteArray.empty, AB.zero 16, 0, 0⟩
def HTickM.cells (m : HTickM) : List Value := [.string m.a] ++ (m.key.cells ++ ([.int .i64 m.stamp] ++ ([.int .i64 m.protocol] ++ [])))
theorem HTickM.len (m : HTickM) : m.cells.length = 19 := len_app (rfl) (len_app (m.key.len) (len_app (rfl) (len_app (rfl) (rfl))))
theorem HTickM.ones (m : HTickM) : Ones m.cells := ones_append (ones_cons rfl ones_nil) (ones_append (m.key.ones) (ones_append (ones_cons rfl ones_nil) (ones_append (ones_cons rfl ones_nil) (ones_nil))))
def HTickM.v (m : HTickM) : Value := .agg m.cells.toArray
instance (m : HTickM) : VC m.v m.cells := ⟨rfl⟩
instance (m : HTickM) : Len m.cells 19 := ⟨m.len⟩
instance (m : HTickM) : OnesC m.cells := ⟨m.ones⟩
instance (m : HTickM) : Seg m.cells 0 19 m.cells := ⟨by rw [List.drop_zero, List.take_of_length_le (Nat.le_of_eq m.len)], Nat.le_of_eq (by rw [m.len])⟩
instance (m m' : HTickM) : Spl m.cells 0 m'.cells m'.cells := spl_all (m.len.trans m'.len.symm)
instance (m : HTickM) : Seg m.cells 0 1 [.string m.a] := seg_head (rfl)
instance (m : HTickM) (x : ByteArray) : Spl m.cells 0 [.string x] (HTickM.cells { m with a := x }) := spl_head rfl
instance (m : HTickM) : Seg m.cells 1 16 (m.key.cells) := seg_skip (k := 1) (i := 0) (rfl) (seg_head (m.key.len))
instance (m : HTickM) (x : AB 16) : Spl m.cells 1 (x.cells) (HTickM.cells { m with key := x }) := spl_skip (k := 1) (i := 0) (rfl) (spl_head (m.key.len.trans x.len.symm))
instance (m : HTickM) : Seg m.cells 17 1 [.int .i64 m.stamp] := seg_skip (k := 1) (i := 16) (rfl) (seg_skip (k := 16) (i := 0) (m.key.len) (seg_head (rfl)))
instance (m : HTickM) (x : Int) : Spl m.cells 17 [.int .i64 x] (HTickM.cells { m with stamp := x }) := spl_skip (k := 1) (i := 16) (rfl) (spl_skip (k := 16) (i := 0) (m.key.len) (spl_head rfl))
instance (m : HTickM) : Seg m.cells 18 1 [.int .i64 m.protocol] := seg_skip (k := 1) (i := 17) (rfl) (seg_skip (k := 16) (i := 1) (m.key.len) (seg_skip (k := 1) (i := 0) (rfl) (seg_head (rfl))))
instance (m : HTickM) (x : Int) : Spl m.cells 18 [.int .i64 x] (HTickM.cells { m with protocol := x }) := spl_skip (k := 1) (i := 17) (rfl) (spl_skip (k := 16) (i := 1) (m.key.len) (spl_skip (k := 1) (i := 0) (rfl) (spl_head rfl)))

structure HashM where
  s : AU 8
  rest : SV
  many : Int
def HashM.zero : HashM := ⟨AU.zero 8, SV.nil, 0⟩
def HashM.cells (m : HashM) : List Value := m.s.cells ++ ([SV.v m.rest] ++ ([.int .u64 m.many] ++ []))
theorem HashM.len (m : HashM) : m.cells.length = 10 := len_app (m.s.len) (len_app (rfl) (len_app (rfl) (rfl)))
theorem HashM.ones (m : HashM) : Ones m.cells := ones_append (m.s.ones) (ones_append (ones_cons rfl ones_nil) (ones_append (ones_cons rfl ones_nil) (ones_nil)))
def HashM.v (m : HashM) : Value := .agg m.cells.toArray
instance (m : HashM) : VC m.v m.cells := ⟨rfl⟩
instance (m : HashM) : Len m.cells 10 := ⟨m.len⟩
instance (m : HashM) : OnesC m.cells := ⟨m.ones⟩
instance (m : HashM) : Seg m.cells 0 10 m.cells := ⟨by rw [List.drop_zero, List.take_of_length_le (Nat.le_of_eq m.len)], Nat.le_of_eq (by rw [m.len])⟩
instance (m m' : HashM) : Spl m.cells 0 m'.cells m'.cells := spl_all (m.len.trans m'.len.symm)
instance (m : HashM) : Seg m.cells 0 8 (m.s.cells) := seg_head (m.s.len)
instance (m : HashM) (x : AU 8) : Spl m.cells 0 (x.cells) (HashM.cells { m with s := x }) := spl_head (m.s.len.trans x.len.symm)
instance (m : HashM) : Seg m.cells 8 1 [SV.v m.rest] := seg_skip (k := 8) (i := 0) (m.s.len) (seg_head (rfl))
instance (m : HashM) (x : SV) : Spl m.cells 8 [SV.v x] (HashM.cells { m with rest := x }) := spl_skip (k := 8) (i := 0) (m.s.len) (spl_head rfl)
instance (m : HashM) : Seg m.cells 9 1 [.int .u64 m.many] := seg_skip (k := 8) (i := 1) (m.s.len) (seg_skip (k := 1) (i := 0) (rfl) (seg_head (rfl)))
instance (m : HashM) (x : Int) : Spl m.cells 9 [.int .u64 x] (HashM.cells { m with many := x }) := spl_skip (k := 8) (i := 1) (m.s.len) (spl_skip (k := 1) (i := 0) (rfl) (spl_head rfl))

structure Arr2NoteM where
  e0 : NoteM
  e1 : NoteM
def Arr2NoteM.zero : Arr2NoteM := ⟨NoteM.zero, NoteM.zero⟩
def Arr2NoteM.cells (m : Arr2NoteM) : List Value := m.e0.cells ++ (m.e1.cells ++ [])
theorem Arr2NoteM.len (m : Arr2NoteM) : m.cells.length = 76 := len_app (m.e0.len) (len_app (m.e1.len) (rfl))
theorem Arr2NoteM.ones (m : Arr2NoteM) : Ones m.cells := ones_append (m.e0.ones) (ones_append (m.e1.ones) (ones_nil))
def Arr2NoteM.v (m : Arr2NoteM) : Value := .agg m.cells.toArray
instance (m : Arr2NoteM) : VC m.v m.cells := ⟨rfl⟩
instance (m : Arr2NoteM) : Len m.cells 76 := ⟨m.len⟩
instance (m : Arr2NoteM) : OnesC m.cells := ⟨m.ones⟩
instance (m : Arr2NoteM) : Seg m.cells 0 76 m.cells := ⟨by rw [List.drop_zero, List.take_of_length_le (Nat.le_of_eq m.len)], Nat.le_of_eq (by rw [m.len])⟩
instance (m m' : Arr2NoteM) : Spl m.cells 0 m'.cells m'.cells := spl_all (m.len.trans m'.len.symm)
instance (m : Arr2NoteM) : Seg m.cells 0 38 (m.e0.cells) := seg_head (m.e0.len)
instance (m : Arr2NoteM) (x : NoteM) : Spl m.cells 0 (x.cells) (Arr2NoteM.cells { m with e0 := x }) := spl_head (m.e0.len.trans x.len.symm)
instance (m : Arr2NoteM) : Seg m.cells 0 1 [.int .i64 m.e0.Kind] := seg_inh (inferInstance : Seg m.e0.cells 0 1 [.int .i64 m.e0.Kind])
instance (m : Arr2NoteM) (x : Int) : Spl m.cells 0 [.int .i64 x] (Arr2NoteM.cells { m with e0 := { m.e0 with Kind := x } }) := spl_inh (inferInstance : Spl m.e0.cells 0 [.int .i64 x] (NoteM.cells { m.e0 with Kind := x }))
instance (m : Arr2NoteM) : Seg m.cells 1 1 [.string m.e0.A] := seg_inh (inferInstance : Seg m.e0.cells 1 1 [.string m.e0.A])
instance (m : Arr2NoteM) (x : ByteArray) : Spl m.cells 1 [.string x] (Arr2NoteM.cells { m with e0 := { m.e0 with A := x } }) := spl_inh (inferInstance : Spl m.e0.cells 1 [.string x] (NoteM.cells { m.e0 with A := x }))
instance (m : Arr2NoteM) : Seg m.cells 2 1 [.string m.e0.B] := seg_inh (inferInstance : Seg m.e0.cells 2 1 [.string m.e0.B])
instance (m : Arr2NoteM) (x : ByteArray) : Spl m.cells 2 [.string x] (Arr2NoteM.cells { m with e0 := { m.e0 with B := x } }) := spl_inh (inferInstance : Spl m.e0.cells 2 [.string x] (NoteM.cells { m.e0 with B := x }))
instance (m : Arr2NoteM) : Seg m.cells 3 16 (m.e0.X.cells) := seg_inh (inferInstance : Seg m.e0.cells 3 16 (m.e0.X.cells))
instance (m : Arr2NoteM) (x : AB 16) : Spl m.cells 3 (x.cells) (Arr2NoteM.cells { m with e0 := { m.e0 with X := x } }) := spl_inh (inferInstance : Spl m.e0.cells 3 (x.cells) (NoteM.cells { m.e0 with X := x }))
instance (m : Arr2NoteM) : Seg m.cells 19 16 (m.e0.Y.cells) := seg_inh (inferInstance : Seg m.e0.cells 19 16 (m.e0.Y.cells))
instance (m : Arr2NoteM) (x : AB 16) : Spl m.cells 19 (x.cells) (Arr2NoteM.cells { m with e0 := { m.e0 with Y := x } }) := spl_inh (inferInstance : Spl m.e0.cells 19 (x.cells) (NoteM.cells { m.e0 with Y := x }))
instance (m : Arr2NoteM) : Seg m.cells 35 1 [SV.v m.e0.P] := seg_inh (inferInstance : Seg m.e0.cells 35 1 [SV.v m.e0.P])
instance (m : Arr2NoteM) (x : SV) : Spl m.cells 35 [SV.v x] (Arr2NoteM.cells { m with e0 := { m.e0 with P := x } }) := spl_inh (inferInstance : Spl m.e0.cells 35 [SV.v x] (NoteM.cells { m.e0 with P := x }))
instance (m : Arr2NoteM) : Seg m.cells 36 1 [SV.v m.e0.Q] := seg_inh (inferInstance : Seg m.e0.cells 36 1 [SV.v m.e0.Q])
instance (m : Arr2NoteM) (x : SV) : Spl m.cells 36 [SV.v x] (Arr2NoteM.cells { m with e0 := { m.e0 with Q := x } }) := spl_inh (inferInstance : Spl m.e0.cells 36 [SV.v x] (NoteM.cells { m.e0 with Q := x }))
instance (m : Arr2NoteM) : Seg m.cells 37 1 [SV.v m.e0.R] := seg_inh (inferInstance : Seg m.e0.cells 37 1 [SV.v m.e0.R])
instance (m : Arr2NoteM) (x : SV) : Spl m.cells 37 [SV.v x] (Arr2NoteM.cells { m with e0 := { m.e0 with R := x } }) := spl_inh (inferInstance : Spl m.e0.cells 37 [SV.v x] (NoteM.cells { m.e0 with R := x }))
instance (m : Arr2NoteM) : Seg m.cells 38 38 (m.e1.cells) := seg_skip (k := 38) (i := 0) (m.e0.len) (seg_head (m.e1.len))
instance (m : Arr2NoteM) (x : NoteM) : Spl m.cells 38 (x.cells) (Arr2NoteM.cells { m with e1 := x }) := spl_skip (k := 38) (i := 0) (m.e0.len) (spl_head (m.e1.len.trans x.len.symm))
instance (m : Arr2NoteM) : Seg m.cells 38 1 [.int .i64 m.e1.Kind] := seg_skip (k := 38) (i := 0) (m.e0.len) (seg_inh (inferInstance : Seg m.e1.cells 0 1 [.int .i64 m.e1.Kind]))
instance (m : Arr2NoteM) (x : Int) : Spl m.cells 38 [.int .i64 x] (Arr2NoteM.cells { m with e1 := { m.e1 with Kind := x } }) := spl_skip (k := 38) (i := 0) (m.e0.len) (spl_inh (inferInstance : Spl m.e1.cells 0 [.int .i64 x] (NoteM.cells { m.e1 with Kind := x })))
instance (m : Arr2NoteM) : Seg m.cells 39 1 [.string m.e1.A] := seg_skip (k := 38) (i := 1) (m.e0.len) (seg_inh (inferInstance : Seg m.e1.cells 1 1 [.string m.e1.A]))
instance (m : Arr2NoteM) (x : ByteArray) : Spl m.cells 39 [.string x] (Arr2NoteM.cells { m with e1 := { m.e1 with A := x } }) := spl_skip (k := 38) (i := 1) (m.e0.len) (spl_inh (inferInstance : Spl m.e1.cells 1 [.string x] (NoteM.cells { m.e1 with A := x })))
instance (m : Arr2NoteM) : Seg m.cells 40 1 [.string m.e1.B] := seg_skip (k := 38) (i := 2) (m.e0.len) (seg_inh (inferInstance : Seg m.e1.cells 2 1 [.string m.e1.B]))
instance (m : Arr2NoteM) (x : ByteArray) : Spl m.cells 40 [.string x] (Arr2NoteM.cells { m with e1 := { m.e1 with B := x } }) := spl_skip (k := 38) (i := 2) (m.e0.len) (spl_inh (inferInstance : Spl m.e1.cells 2 [.string x] (NoteM.cells { m.e1 with B := x })))
instance (m : Arr2NoteM) : Seg m.cells 41 16 (m.e1.X.cells) := seg_skip (k := 38) (i := 3) (m.e0.len) (seg_inh (inferInstance : Seg m.e1.cells 3 16 (m.e1.X.cells)))
instance (m : Arr2NoteM) (x : AB 16) : Spl m.cells 41 (x.cells) (Arr2NoteM.cells { m with e1 := { m.e1 with X := x } }) := spl_skip (k := 38) (i := 3) (m.e0.len) (spl_inh (inferInstance : Spl m.e1.cells 3 (x.cells) (NoteM.cells { m.e1 with X := x })))
instance (m : Arr2NoteM) : Seg m.cells 57 16 (m.e1.Y.cells) := seg_skip (k := 38) (i := 19) (m.e0.len) (seg_inh (inferInstance : Seg m.e1.cells 19 16 (m.e1.Y.cells)))
instance (m : Arr2NoteM) (x : AB 16) : Spl m.cells 57 (x.cells) (Arr2NoteM.cells { m with e1 := { m.e1 with Y := x } }) := spl_skip (k := 38) (i := 19) (m.e0.len) (spl_inh (inferInstance : Spl m.e1.cells 19 (x.cells) (NoteM.cells { m.e1 with Y := x })))
instance (m : Arr2NoteM) : Seg m.cells 73 1 [SV.v m.e1.P] := seg_skip (k := 38) (i := 35) (m.e0.len) (seg_inh (inferInstance : Seg m.e1.cells 35 1 [SV.v m.e1.P]))
instance (m : Arr2NoteM) (x : SV) : Spl m.cells 73 [SV.v x] (Arr2NoteM.cells { m with e1 := { m.e1 with P := x } }) := spl_skip (k := 38) (i := 35) (m.e0.len) (spl_inh (inferInstance : Spl m.e1.cells 35 [SV.v x] (NoteM.cells { m.e1 with P := x })))
instance (m : Arr2NoteM) : Seg m.cells 74 1 [SV.v m.e1.Q] := seg_skip (k := 38) (i := 36) (m.e0.len) (seg_inh (inferInstance : Seg m.e1.cells 36 1 [SV.v m.e1.Q]))
instance (m : Arr2NoteM) (x : SV) : Spl m.cells 74 [SV.v x] (Arr2NoteM.cells { m with e1 := { m.e1 with Q := x } }) := spl_skip (k := 38) (i := 36) (m.e0.len) (spl_inh (inferInstance : Spl m.e1.cells 36 [SV.v x] (NoteM.cells { m.e1 with Q := x })))
instance (m : Arr2NoteM) : Seg m.cells 75 1 [SV.v m.e1.R] := seg_skip (k := 38) (i := 37) (m.e0.len) (seg_inh (inferInstance : Seg m.e1.cells 37 1 [SV.v m.e1.R]))
instance (m : Arr2NoteM) (x : SV) : Spl m.cells 75 [SV.v x] (Arr2NoteM.cells { m with e1 := { m.e1 with R := x } }) := spl_skip (k := 38) (i := 37) (m.e0.len) (spl_inh (inferInstance : Spl m.e1.cells 37 [SV.v x] (NoteM.cells { m.e1 with R := x })))

structure Arr2Int where
  e0 : Int
  e1 : Int
def Arr2Int.zero : Arr2Int := ⟨0, 0⟩
def Arr2Int.cells (m : Arr2Int) : List Value := [.int .i64 m.e0] ++ ([.int .i64 m.e1] ++ [])
theorem Arr2Int.len (m : Arr2Int) : m.cells.length = 2 := len_app (rfl) (len_app (rfl) (rfl))
theorem Arr2Int.ones (m : Arr2Int) : Ones m.cells := ones_append (ones_cons rfl ones_nil) (ones_append (ones_cons rfl ones_nil) (ones_nil))
def Arr2Int.v (m : Arr2Int) : Value := .agg m.cells.toArray
instance (m : Arr2Int) : VC m.v m.cells := ⟨rfl⟩
instance (m : Arr2Int) : Len m.cells 2 := ⟨m.len⟩
instance (m : Arr2Int) : OnesC m.cells := ⟨m.ones⟩
instance (m : Arr2Int) : Seg m.cells 0 2 m.cells := ⟨by rw [List.drop_zero, List.take_of_length_le (Nat.le_of_eq m.len)], Nat.le_of_eq (by rw [m.len])⟩
instance (m m' : Arr2Int) : Spl m.cells 0 m'.cells m'.cells := spl_all (m.len.trans m'.len.symm)
instance (m : Arr2Int) : Seg m.cells 0 1 [.int .i64 m.e0] := seg_head (rfl)
instance (m : Arr2Int) (x : Int) : Spl m.cells 0 [.int .i64 x] (Arr2Int.cells { m with e0 := x }) := spl_head rfl
instance (m : Arr2Int) : Seg m.cells 1 1 [.int .i64 m.e1] := seg_skip (k := 1) (i := 0) (rfl) (seg_head (rfl))
instance (m : Arr2Int) (x : Int) : Spl m.cells 1 [.int .i64 x] (Arr2Int.cells { m with e1 := x }) := spl_skip (k := 1) (i := 0) (rfl) (spl_head rfl)

structure Arr3Word where
  e0 : AB 16
  e1 : AB 16
  e2 : AB 16
def Arr3Word.zero : Arr3Word := ⟨AB.zero 16, AB.zero 16, AB.zero 16⟩
def Arr3Word.cells (m : Arr3Word) : List Value := m.e0.cells ++ (m.e1.cells ++ (m.e2.cells ++ []))
theorem Arr3Word.len (m : Arr3Word) : m.cells.length = 48 := len_app (m.e0.len) (len_app (m.e1.len) (len_app (m.e2.len) (rfl)))
theorem Arr3Word.ones (m : Arr3Word) : Ones m.cells := ones_append (m.e0.ones) (ones_append (m.e1.ones) (ones_append (m.e2.ones) (ones_nil)))
def Arr3Word.v (m : Arr3Word) : Value := .agg m.cells.toArray
instance (m : Arr3Word) : VC m.v m.cells := ⟨rfl⟩
instance (m : Arr3Word) : Len m.cells 48 := ⟨m.len⟩
instance (m : Arr3Word) : OnesC m.cells := ⟨m.ones⟩
instance (m : Arr3Word) : Seg m.cells 0 48 m.cells := ⟨by rw [List.drop_zero, List.take_of_length_le (Nat.le_of_eq m.len)], Nat.le_of_eq (by rw [m.len])⟩
instance (m m' : Arr3Word) : Spl m.cells 0 m'.cells m'.cells := spl_all (m.len.trans m'.len.symm)
instance (m : Arr3Word) : Seg m.cells 0 16 (m.e0.cells) := seg_head (m.e0.len)
instance (m : Arr3Word) (x : AB 16) : Spl m.cells 0 (x.cells) (Arr3Word.cells { m with e0 := x }) := spl_head (m.e0.len.trans x.len.symm)
instance (m : Arr3Word) : Seg m.cells 16 16 (m.e1.cells) := seg_skip (k := 16) (i := 0) (m.e0.len) (seg_head (m.e1.len))
instance (m : Arr3Word) (x : AB 16) : Spl m.cells 16 (x.cells) (Arr3Word.cells { m with e1 := x }) := spl_skip (k := 16) (i := 0) (m.e0.len) (spl_head (m.e1.len.trans x.len.symm))
instance (m : Arr3Word) : Seg m.cells 32 16 (m.e2.cells) := seg_skip (k := 16) (i := 16) (m.e0.len) (seg_skip (k := 16) (i := 0) (m.e1.len) (seg_head (m.e2.len)))
instance (m : Arr3Word) (x : AB 16) : Spl m.cells 32 (x.cells) (Arr3Word.cells { m with e2 := x }) := spl_skip (k := 16) (i := 16) (m.e0.len) (spl_skip (k := 16) (i := 0) (m.e1.len) (spl_head (m.e2.len.trans x.len.symm)))

structure Arr2Word where
  e0 : AB 16
  e1 : AB 16
def Arr2Word.zero : Arr2Word := ⟨AB.zero 16, AB.zero 16⟩
def Arr2Word.cells (m : Arr2Word) : List Value := m.e0.cells ++ (m.e1.cells ++ [])
theorem Arr2Word.len (m : Arr2Word) : m.cells.length = 32 := len_app (m.e0.len) (len_app (m.e1.len) (rfl))
theorem Arr2Word.ones (m : Arr2Word) : Ones m.cells := ones_append (m.e0.ones) (ones_append (m.e1.ones) (ones_nil))
def Arr2Word.v (m : Arr2Word) : Value := .agg m.cells.toArray
instance (m : Arr2Word) : VC m.v m.cells := ⟨rfl⟩
instance (m : Arr2Word) : Len m.cells 32 := ⟨m.len⟩
instance (m : Arr2Word) : OnesC m.cells := ⟨m.ones⟩
instance (m : Arr2Word) : Seg m.cells 0 32 m.cells := ⟨by rw [List.drop_zero, List.take_of_length_le (Nat.le_of_eq m.len)], Nat.le_of_eq (by rw [m.len])⟩
instance (m m' : Arr2Word) : Spl m.cells 0 m'.cells m'.cells := spl_all (m.len.trans m'.len.symm)
instance (m : Arr2Word) : Seg m.cells 0 16 (m.e0.cells) := seg_head (m.e0.len)
instance (m : Arr2Word) (x : AB 16) : Spl m.cells 0 (x.cells) (Arr2Word.cells { m with e0 := x }) := spl_head (m.e0.len.trans x.len.symm)
instance (m : Arr2Word) : Seg m.cells 16 16 (m.e1.cells) := seg_skip (k := 16) (i := 0) (m.e0.len) (seg_head (m.e1.len))
instance (m : Arr2Word) (x : AB 16) : Spl m.cells 16 (x.cells) (Arr2Word.cells { m with e1 := x }) := spl_skip (k := 16) (i := 0) (m.e0.len) (spl_head (m.e1.len.trans x.len.symm))

/-! ### Loads and stores at blocks whose row is known -/
theorem Cells.of {h : PH} {L : OL} {b o n : Nat} {cs vs : List Value} {T : TypeId} {fr : Nat × Nat} (a : At h L b (.cells cs.toArray T fr)) [S : Seg cs o n vs] : Cells h L b o vs := by
  have hl : vs.length = n := by rw [← S.eq]; simp; have := S.le; omega
  refine ⟨cs.toArray, T, fr, fun _ => a, by have := S.le; simp; omega, ?_⟩
  rw [hl]; exact S.eq
section
variable {P : Program} {f : Fr} {h : PH} {L : OL} {ty : TypeId} {x y : Operand}
theorem Yld.ld1 {t : TypeId} [TI P t false 1] {b o : Nat} {v : Value} {cs : List Value} {T : TypeId} {fr : Nat × Nat} (hx : evo f x = .pointer (some ⟨b, o, none⟩)) (a : At h L b (.cells cs.toArray T fr)) [Seg cs o 1 [v]] :
    Yld P f h L (.load t x) ty v := Yld.load1 hx (Cells.of (n := 1) a)
theorem Yld.ldN {t : TypeId} {sz : Nat} [TI P t true sz] {b o : Nat} {vs cs : List Value} {T : TypeId} {fr : Nat × Nat} (hx : evo f x = .pointer (some ⟨b, o, none⟩)) (a : At h L b (.cells cs.toArray T fr)) [S : Seg cs o sz vs] :
    Yld P f h L (.load t x) ty (.agg vs.toArray) := Yld.loadN hx (Cells.of (n := sz) a) (by rw [← S.eq]; simp; have := S.le; omega)
theorem Chn.bx {E : Env} {Q : Value → PH → OL → Prop} {t : TypeId} {v : Value} {cs : List Value} (hx : evo f x = v) [c : VC v cs]
    (q : ∀ b, Q (.pointer (some ⟨b, 0, none⟩)) h ((b, .cells cs.toArray t) :: L)) : Chn P f E h L (.box t x) ty Q := Chn.box hx c.eq q
theorem Chn.st {E : Env} {Q : Value → PH → OL → Prop} {t : TypeId} {agg : Bool} {sz : Nat} [TI P t agg sz] {b o : Nat} {v : Value} {vs cs cs' : List Value} {T' : TypeId} {L' : OL}
    (hx : evo f x = .pointer (some ⟨b, o, none⟩)) (hy : evo f y = v) [c : VC v vs] [l : Len vs sz] [n : OnesC vs]
    (p : Put L b (.cells cs.toArray T') (.cells cs'.toArray T') L') [S : Spl cs o vs cs'] (q : Q undef h L') : Chn P f E h L (.store t x y) ty Q := by
  have e := S.eq
  subst e
  exact Chn.store hx hy c.eq l.eq n.eq p (by have := S.le; rw [l.eq] at this; exact this) q
end

end Go.Bz
