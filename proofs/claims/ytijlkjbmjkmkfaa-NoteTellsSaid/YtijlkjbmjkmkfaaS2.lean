/- Arrays of bytes: literals, made of slices, held against each other. Conditions: those that each theorem names. -/
import Derived.Test.YtijlkjbmjkmkfaaS1
import Derived.Laws.StructEq
import Derived.ChangeKeysEq
namespace Go.Bz

def AB.of {n : Nat} (l : List UInt8) (h : l.length = n) : AB n := ⟨l, h⟩

section
variable {P : Program} {f : Fr} {h : PH} {L : OL} {E : Env} {ty : TypeId} {x y : Operand} {Q : Value → PH → OL → Prop}
theorem Sl.arrPtr {h1 : PH} {L1 : OL} {t e : TypeId} {len : Nat} [T : TAr P t len e] {sz n : Nat} {v : Value} {vs : List Value} (s : Sl h1 L1 sz v n vs) (hx : evo f x = v) (hp : 0 < len) (hl : len ≤ n) :
    Yld P f h L (.sliceToArrayPointer t x) ty (elp v 0) := by
  rcases s.2 with ⟨a0, rfl, rfl⟩ | ⟨b, o, cap, rfl, _⟩
  · omega
  · intro w _
    simp [execOp, hx, Instr.arrayAt, run_underlying T.u, Nat.not_lt.2 hl, elp]
theorem Yld.buildA {t e : TypeId} {len : Nat} [T : TAr P t len e] {agg : Bool} {sz : Nat} [I : TI P e agg sz] {z : Value} {zc : List Value} [Z : TZc P t z zc] {parts : Array (Nat × Operand)} {out : List Value}
    (F : Fills f (fun i : Nat => some (i * sz, sz)) zc parts.toList out) : Yld P f h L (.build t parts) ty (.agg out.toArray) := by
  intro w _
  haveI := Z.tz
  have hf := fill_of F
  have e : (parts.map fun p => (p.1, evo f p.2)).toList = parts.toList.map fun p => (p.1, evo f p.2) := by simp
  rw [← e] at hf
  simp only [execOp, Instr.build, Sem.run_bind, run_zeroValue, Result.andThen_ok, run_underlying T.u, run_sizeOf, Z.c, hf]
  rfl
theorem run_part1 {t : TypeId} [T : TI P t false 1] {xs : Array Value} {off : Nat} {v : Value} (hx : xs[off]? = some v) (w : World) : (part t xs off).run P w = .ok v w := by
  unfold part
  simp [run_isAgg, hx]
theorem eqItems_bytes {e : TypeId} [T : TIn P e .u8] [I : TI P e false 1] (d : Nat) (a b : List UInt8) (w : World) : ∀ (is : List Nat), (∀ i ∈ is, i < a.length ∧ i < b.length) →
    (Op.eqItems (d + 1) e 1 (bc a).toArray (bc b).toArray is).run P w = .ok (is.all fun i => a.getD i 0 == b.getD i 0) w
  | [], _ => rfl
  | i :: is, h => by
    obtain ⟨h1, h2⟩ := h i (by simp)
    have e1 : (bc a).toArray[i * 1]? = some (.int .u8 ((a.getD i 0).toNat : Int)) := by rw [Nat.mul_one, List.getElem?_toArray]; exact bc_get h1
    have e2 : (bc b).toArray[i * 1]? = some (.int .u8 ((b.getD i 0).toNat : Int)) := by rw [Nat.mul_one, List.getElem?_toArray]; exact bc_get h2
    have ih := eqItems_bytes (e := e) d a b w is fun j hj => h j (by simp [hj])
    have e3 : (Op.equalIn (d + 1) e (.int .u8 ((a.getD i 0).toNat : Int)) (.int .u8 ((b.getD i 0).toNat : Int))).run P w = .ok (((a.getD i 0).toNat : Int) == ((b.getD i 0).toNat : Int)) w := run_equalIn_int w d e .u8 .u8 _ _ T.u
    have e4 : (((a.getD i 0).toNat : Int) == ((b.getD i 0).toNat : Int)) = (a.getD i 0 == b.getD i 0) := by
      rw [Bool.eq_iff_iff]
      simp only [beq_iff_eq]
      exact ⟨fun h => UInt8.toNat_inj.1 (by omega), fun h => by rw [h]⟩
    simp only [Op.eqItems, Sem.run_bind, run_part1 (P := P) (t := e) e1, run_part1 (P := P) (t := e) e2, Result.andThen_ok, e3, e4, List.all_cons]
    cases a.getD i 0 == b.getD i 0
    · rfl
    · simp [ih]
theorem all_eq (a b : List UInt8) (n : Nat) (ha : a.length = n) (hb : b.length = n) : ((List.range n).all fun i => a.getD i 0 == b.getD i 0) = decide (a = b) := by
  rw [Bool.eq_iff_iff, decide_eq_true_iff, List.all_eq_true]
  constructor
  · intro h
    apply List.ext_getElem (by omega)
    intro i h1 h2
    have := h i (by simp; omega)
    rw [getD_lt h1, getD_lt h2] at this
    simpa using this
  · rintro rfl i _; simp
theorem cellsOf_of {t : TypeId} {agg : Bool} {sz : Nat} [I : TI P t agg sz] : P.cellsOf t = sz := by
  have h1 : (sizeOf t).run P { (default : World) with heap := #[] } = .ok sz _ := run_sizeOf _
  unfold Program.cellsOf
  cases e : P.info? t with
  | none => simp [sizeOf, typeInfo, e] at h1
  | some j => simpa [sizeOf, typeInfo, e] using h1
class TEq (P : Program) (t : TypeId) : Prop where
  m : P.eqGuardType P.depth t = false
theorem run_equal_AB {t e : TypeId} {n : Nat} [T : TAr P t n e] [U : TIn P e .u8] [I : TI P e false 1] (a b : AB n) (w : World) : (Op.equal t a.v b.v).run P w = .ok (decide (a.1 = b.1)) w := by
  unfold Op.equal AB.v AB.cells
  rw [show Op.maxDepth = 9998 + 1 + 1 from rfl]
  have hi : ∃ i, P.info? e = some i := by
    cases e' : P.info? e with
    | some i => exact ⟨i, rfl⟩
    | none => have := U.u; simp [Program.underlying, e'] at this
  obtain ⟨i, hi⟩ := hi
  rw [run_equalIn_array w _ _ _ T.u hi, cellsOf_of (P := P) (t := e) (sz := 1), eqItems_bytes 9998 a.1 b.1 w _ (by intro j hj; rw [a.2, b.2]; simpa using hj), all_eq a.1 b.1 n a.2 b.2]
theorem Yld.eqlAB {t yt e : TypeId} {n : Nat} [T : TAr P t n e] [U : TIn P e .u8] [I : TI P e false 1] [G : TEq P t] {a b : AB n} (hx : evo f x = a.v) (hy : evo f y = b.v) :
    Yld P f h L (.binOp .eql t x y yt) ty (.bool (decide (a.1 = b.1))) := by
  intro w _
  have h1 := run_eql (P := P) (t := t) (x := a.v) (y := b.v) (w := w) rfl (run_equal_AB a b w)
  have h2 := run_eqGuard_agg (P := P) w .eql t x y a.cells.toArray b.cells.toArray G.m
  simp only [execOp, hx, hy]
  unfold AB.v at h1 ⊢
  simp only [Sem.run_bind, h2, Result.andThen_ok, h1]
  rfl
theorem Yld.neqAB {t yt e : TypeId} {n : Nat} [T : TAr P t n e] [U : TIn P e .u8] [I : TI P e false 1] [G : TEq P t] {a b : AB n} (hx : evo f x = a.v) (hy : evo f y = b.v) :
    Yld P f h L (.binOp .neq t x y yt) ty (.bool (!decide (a.1 = b.1))) := by
  intro w _
  have h1 := run_neq (P := P) (t := t) (x := a.v) (y := b.v) (w := w) rfl (run_equal_AB a b w)
  have h2 := run_eqGuard_agg (P := P) w .neq t x y a.cells.toArray b.cells.toArray G.m
  simp only [execOp, hx, hy]
  unfold AB.v at h1 ⊢
  simp only [Sem.run_bind, h2, Result.andThen_ok, h1]
  rfl
end
/-! ### Guards on what was not run -/
section
variable {P : Program} {n : Nat} {ops : Array Oper} {E : Env} {K : SP} {rest : List Oper} {f : Fr} {h : PH} {L : OL} {h0 : PH} {L0 : OL} {late : List Nat} {π : List (Nat × Nat)}
theorem WO.noU {d : Nat} {op : Op} {ty : TypeId} {pos : String} {af : Array Edge} {j : Nat} {t : Bool} {dj : Nat}
    (hj : (ops[j]?).bind (·.dst) = some dj) (hn : dj < n) (hv : f dj = undef) (hd : d < n)
    (k : WO P n ops E K rest (upd f d undef) h L) : WO P n ops E K (⟨some d, op, ty, pos, af, some (j, t)⟩ :: rest) f h L := by
  intro w s Q hQ a hr
  unfold wpList
  rw [if_neg (by cases t <;> simp [Region.wanted, hr.yielded hj hn, hv, undef])]
  exact k w s Q hQ _ (hr.put hd _)
theorem WPl.noU {i k : Nat} {d : Nat} {op : Op} {ty : TypeId} {pos : String} {af : Array Edge} {j dj : Nat} {t : Bool} (ho : ops[i]? = some ⟨some d, op, ty, pos, af, some (j, t)⟩) (hk : k = 1 ∨ k = 2)
    (hj : (ops[j]?).bind (·.dst) = some dj) (hv : f dj = undef)
    (c : WPl P n ops E K h0 L0 late π (upd f d undef) h L) (hd : d < n := by decide) (hn : dj < n := by decide) : WPl P n ops E K h0 L0 late ((i, k) :: π) f h L :=
  WPl.gen ho rfl hd hk (fun a hr _ _ => .inr ⟨by cases t <;> simp [Region.wanted, hr.yielded hj hn, hv, undef], rfl⟩) c
end
end Go.Bz
