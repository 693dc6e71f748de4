/-
  What each operation of the language comes to over the symbolic heap. Conditions: those that each theorem names.
-/
import Derived.Test.YtijlkjbmjkmkfaaB1
namespace Go.Bz

/-! ### Facts about types, found by their numbers -/
def isAggD : TypeDesc → Bool | .struct _ | .array _ _ => true | _ => false
class TI (P : Program) (t : TypeId) (agg : outParam Bool) (sz : outParam Nat) : Prop where
  ag : ∃ d, P.underlying t = some d ∧ isAggD d = agg
  sz : ∃ i, P.info? t = some i ∧ i.size = sz
class TZ (P : Program) (t : TypeId) (z : outParam Value) : Prop where
  z : ∃ i, P.info? t = some i ∧ i.zero = some z
class TSl (P : Program) (t : TypeId) (e : outParam TypeId) : Prop where
  u : P.underlying t = some (.slice e)
class TAr (P : Program) (t : TypeId) (len : outParam Nat) (e : outParam TypeId) : Prop where
  u : P.underlying t = some (.array len e)
class TIn (P : Program) (t : TypeId) (k : outParam IntKind) : Prop where
  u : P.underlying t = some (.int k)
class TStr (P : Program) (t : TypeId) : Prop where
  u : P.underlying t = some .string
class TBo (P : Program) (t : TypeId) : Prop where
  u : P.underlying t = some .bool
class TPt (P : Program) (t : TypeId) (e : outParam TypeId) : Prop where
  u : P.underlying t = some (.pointer e)
class TMp (P : Program) (t : TypeId) (k e : outParam TypeId) : Prop where
  u : P.underlying t = some (.map k e)
/-- Field i of a struct type lies at off, takes sz cells (not none). -/
class TF (P : Program) (t : TypeId) (i : Nat) (off : outParam Nat) (sz : outParam Nat) : Prop where
  f : ∃ fs fd j, P.underlying t = some (.struct fs) ∧ fs[i]? = some fd ∧ fd.offset = off ∧ P.info? fd.type = some j ∧ j.size = sz ∧ sz ≠ 0
class TBy (P : Program) (t : TypeId) (by_ : outParam Nat) : Prop where
  b : ∃ i, P.info? t = some i ∧ i.bytes = by_

section
variable {P : Program}
theorem run_isAgg {t : TypeId} {agg : Bool} {sz : Nat} [T : TI P t agg sz] (w : World) : (isAgg t).run P w = .ok agg w := by
  obtain ⟨d, hd, e⟩ := T.ag
  unfold isAgg
  rw [Sem.run_bind, run_underlying hd w]
  subst e
  cases d <;> rfl
theorem run_sizeOf {t : TypeId} {agg : Bool} {sz : Nat} [T : TI P t agg sz] (w : World) : (sizeOf t).run P w = .ok sz w := by
  obtain ⟨i, hi, e⟩ := T.sz
  simp [sizeOf, typeInfo, hi, e]
theorem run_zeroValue {t : TypeId} {z : Value} [T : TZ P t z] (w : World) : (zeroValue t).run P w = .ok z w := by
  obtain ⟨i, hi, e⟩ := T.z
  simp [zeroValue, typeInfo, hi, e]
end

/-! ### Reading -/
structure Rd (h : PH) (L : OL) (w : World) : Prop where
  sub : ∀ b o, h b = some o → w.heap[b]? = some o
  own : ∀ e ∈ L, w.heap[e.1]? = some e.2
theorem Sat.rd {E : Env} {h : PH} {L : OL} {w : World} (s : Sat E h L w) : Rd h L w := ⟨s.sub, s.own⟩
theorem Rd.at {h : PH} {L : OL} {w : World} (s : Rd h L w) {b : Nat} {o : Obj} (a : At h L b o) : w.heap[b]? = some o := a.elim (s.sub b o) (s.own (b, o))
theorem Cells.rd {h : PH} {L : OL} {w : World} (s : Rd h L w) {b o : Nat} {vs : List Value} (c : Cells h L b o vs) :
    ∀ j v, vs[j]? = some v → w.cell? ((⟨b, o, none⟩ : Addr).add j) = some v := by
  obtain ⟨cs, T, fr, ha, hl, he⟩ := c
  intro j v hv
  have hg := s.at (ha fun e => by rw [e] at hv; simp at hv)
  rw [Addr.add_lit, cell_of_row w b (o + j) cs T fr hg]
  rw [← he, List.getElem?_take] at hv
  split at hv
  · rw [List.getElem?_drop] at hv; simpa using hv
  · cases hv

/-- The operation leaves the world alone and yields v. -/
def Yld (P : Program) (f : Fr) (h : PH) (L : OL) (op : Op) (ty : TypeId) (v : Value) : Prop :=
  ∀ w, Rd h L w → (execOp (evo f) ⟨none, op, ty, "", #[], none⟩).run P w = .ok (.value v) w
/-- The operation goes on to a value and a heap for which Q holds. -/
def Chn (P : Program) (f : Fr) (E : Env) (h : PH) (L : OL) (op : Op) (ty : TypeId) (Q : Value → PH → OL → Prop) : Prop :=
  ∀ w, Sat E h L w →
    (∃ v w' h' L', (execOp (evo f) ⟨none, op, ty, "", #[], none⟩).run P w = .ok (.value v) w' ∧ Sat E h' L' w' ∧ Q v h' L') ∨
    (∃ w' h' L', (execOp (evo f) ⟨none, op, ty, "", #[], none⟩).run P w = .ok .skip w' ∧ Sat E h' L' w' ∧ Q undef h' L') ∨
    (∃ k args, (execOp (evo f) ⟨none, op, ty, "", #[], none⟩).run P w = .ok (.enter k args) w ∧
      Calls P k args w fun e w' => ∃ v h' L', e = .returned v ∧ Sat E h' L' w' ∧ Q v h' L')

theorem execOp_bare (ρ : Operand → Value) (d : Option Nat) (op : Op) (ty : TypeId) (pos : String) (af : Array Edge) (g : Option (Nat × Bool)) :
    execOp ρ ⟨d, op, ty, pos, af, g⟩ = execOp ρ ⟨none, op, ty, "", #[], none⟩ := by cases op <;> rfl

def updo (f : Fr) (d : Option Nat) (v : Value) : Fr := match d with | some d => upd f d v | none => f

theorem Rel.puto {n : Nat} {a : Act} {f : Fr} (h : Rel n a f) {d : Option Nat} (hd : d.all (· < n) = true) (v : Value) : Rel n (a.put d v) (updo f d v) := by
  cases d with
  | none => exact h
  | some d => exact h.put (by simpa using hd) v

section
variable {P : Program} {n : Nat} {ops : Array Oper} {E : Env} {K : SP} {rest : List Oper} {f : Fr} {h : PH} {L : OL}

theorem WO.nil (k : K f h L) : WO P n ops E K [] f h L := fun _ s => WL.nil ⟨h, L, s, k⟩

theorem WO.chn {d : Option Nat} {op : Op} {ty : TypeId} {pos : String} {af : Array Edge} (hd : d.all (· < n) = true)
    (c : Chn P f E h L op ty fun v h' L' => WO P n ops E K rest (updo f d v) h' L') : WO P n ops E K (⟨d, op, ty, pos, af, none⟩ :: rest) f h L := by
  intro w s Q hQ a hr
  refine wpList_run (by simp [Region.wanted]) ?_
  unfold Oper.wp
  rw [hr.eval, execOp_bare]
  rcases c w s with ⟨v, w', h', L', hrun, s', k⟩ | ⟨w', h', L', hrun, s', k⟩ | ⟨kf, args, hrun, hc⟩
  · rw [hrun]; exact k w' s' Q hQ _ (hr.puto hd v)
  · rw [hrun]; exact k w' s' Q hQ _ (hr.puto hd undef)
  · rw [hrun]
    refine Calls.mono hc fun e w' ⟨v, h', L', he, s', k⟩ => ?_
    subst he
    exact k w' s' Q hQ _ (hr.puto hd v)

theorem Yld.chn {op : Op} {ty : TypeId} {v : Value} {Q : Value → PH → OL → Prop} (y : Yld P f h L op ty v) (q : Q v h L) : Chn P f E h L op ty Q :=
  fun w s => .inl ⟨v, w, h, L, y w s.rd, s, q⟩

theorem WO.yld {d : Nat} {op : Op} {ty : TypeId} {pos : String} {af : Array Edge} {v : Value} (y : Yld P f h L op ty v)
    (k : WO P n ops E K rest (upd f d v) h L) (hd : d < n := by decide) : WO P n ops E K (⟨some d, op, ty, pos, af, none⟩ :: rest) f h L :=
  WO.chn (by simpa using hd) (y.chn k)

theorem WO.yes {dst : Option Nat} {op : Op} {ty : TypeId} {pos : String} {af : Array Edge} {j : Nat} {t : Bool} {dj : Nat}
    (hj : (ops[j]?).bind (·.dst) = some dj) (hn : dj < n) (hv : f dj = .bool t)
    (k : WO P n ops E K (⟨dst, op, ty, pos, af, none⟩ :: rest) f h L) : WO P n ops E K (⟨dst, op, ty, pos, af, some (j, t)⟩ :: rest) f h L :=
  fun w s => WL.guard_yes hj hn hv (k w s)
theorem WO.no {d : Nat} {op : Op} {ty : TypeId} {pos : String} {af : Array Edge} {j : Nat} {t : Bool} {dj : Nat}
    (hj : (ops[j]?).bind (·.dst) = some dj) (hn : dj < n) (hv : f dj = .bool (!t)) (hd : d < n)
    (k : WO P n ops E K rest (upd f d undef) h L) : WO P n ops E K (⟨some d, op, ty, pos, af, some (j, t)⟩ :: rest) f h L :=
  fun w s => WL.guard_no hj hn hv hd (k w s)
end

/-! ### Operations that leave the world alone -/
section
variable {P : Program} {f : Fr} {h : PH} {L : OL} {ty : TypeId} {x y : Operand}

theorem Yld.move {v : Value} (hx : evo f x = v) : Yld P f h L (.move x) ty v := fun _ _ => by simp [execOp, hx]
theorem Yld.assign {v : Value} (hx : evo f x = v) : Yld P f h L (.assign x) ty v := fun _ _ => by simp [execOp, hx]
theorem Yld.pick {c : Operand} {t : Bool} {v u : Value} (hc : evo f c = .bool t) (hx : evo f x = v) (hy : evo f y = u) : Yld P f h L (.pick c x y) ty (if t then v else u) :=
  fun _ _ => by cases t <;> simp [execOp, hc, hx, hy, asBool]
theorem Yld.pick_t {c : Operand} {v : Value} (hc : evo f c = .bool true) (hx : evo f x = v) : Yld P f h L (.pick c x y) ty v :=
  fun _ _ => by simp [execOp, hc, hx, asBool]
theorem Yld.pick_f {c : Operand} {v : Value} (hc : evo f c = .bool false) (hx : evo f y = v) : Yld P f h L (.pick c x y) ty v :=
  fun _ _ => by simp [execOp, hc, hx, asBool]
theorem Yld.extract {vs : Array Value} {i : Nat} {v : Value} (hx : evo f x = .tuple vs) (hv : vs[i]? = some v) : Yld P f h L (.extract x i) ty v :=
  fun _ _ => by simp [execOp, hx, Instr.extract, hv]
theorem Yld.not {t : TypeId} {b : Bool} (hx : evo f x = .bool b) : Yld P f h L (.unOp .not t x) ty (.bool !b) :=
  fun _ _ => by simp [execOp, hx, Op.unary]
theorem Yld.nilCheck {a : Addr} (hx : evo f x = .pointer (some a)) : Yld P f h L (.nilCheck x) ty (.pointer (some a)) :=
  fun _ _ => by simp [execOp, hx]
theorem Yld.makeFunc {fn : Fn} {first cap : Array Operand} {vs us : Array Value} (h1 : first.map (evo f) = vs) (h2 : cap.map (evo f) = us) : Yld P f h L (.makeFunc fn first cap) ty (.func fn vs us) :=
  fun _ _ => by simp only [execOp, h1, h2, Instr.makeFunc]; rfl

theorem Yld.arith {op : BinOp} {t yt : TypeId} {k : IntKind} {a b : Int} {v : Value} (hx : evo f x = .int k a) (hy : evo f y = .int k b)
    (hop : (op = .add ∧ v = .int k (k.wrap (a + b))) ∨ (op = .sub ∧ v = .int k (k.wrap (a - b))) ∨ (op = .mul ∧ v = .int k (k.wrap (a * b)))) : Yld P f h L (.binOp op t x y yt) ty v := by
  intro w _
  rcases hop with ⟨rfl, rfl⟩ | ⟨rfl, rfl⟩ | ⟨rfl, rfl⟩ <;>
    simp [execOp, hx, hy, eqGuard_at_int, binOp, Op.intArith]
theorem Yld.add {t yt : TypeId} {k : IntKind} {a b : Int} (hx : evo f x = .int k a) (hy : evo f y = .int k b) : Yld P f h L (.binOp .add t x y yt) ty (.int k (k.wrap (a + b))) :=
  Yld.arith hx hy (.inl ⟨rfl, rfl⟩)
theorem Yld.sub {t yt : TypeId} {k : IntKind} {a b : Int} (hx : evo f x = .int k a) (hy : evo f y = .int k b) : Yld P f h L (.binOp .sub t x y yt) ty (.int k (k.wrap (a - b))) :=
  Yld.arith hx hy (.inr (.inl ⟨rfl, rfl⟩))
theorem Yld.mul {t yt : TypeId} {k : IntKind} {a b : Int} (hx : evo f x = .int k a) (hy : evo f y = .int k b) : Yld P f h L (.binOp .mul t x y yt) ty (.int k (k.wrap (a * b))) :=
  Yld.arith hx hy (.inr (.inr ⟨rfl, rfl⟩))
theorem Yld.quo {t yt : TypeId} {k : IntKind} {a b : Int} (hx : evo f x = .int k a) (hy : evo f y = .int k b) (hb : b ≠ 0) : Yld P f h L (.binOp .quo t x y yt) ty (.int k (k.wrap (a.tdiv b))) :=
  fun _ _ => by simp [execOp, hx, hy, eqGuard_at_int, binOp, Op.intDiv, hb]
theorem Yld.rem {t yt : TypeId} {k : IntKind} {a b : Int} (hx : evo f x = .int k a) (hy : evo f y = .int k b) (hb : b ≠ 0) : Yld P f h L (.binOp .rem t x y yt) ty (.int k (a.tmod b)) :=
  fun _ _ => by simp [execOp, hx, hy, eqGuard_at_int, binOp, Op.intDiv, hb]
theorem Yld.bits {op : BinOp} {t yt : TypeId} {k : IntKind} {a b : Int} {r : BitVec k.bits} (hx : evo f x = .int k a) (hy : evo f y = .int k b)
    (hop : (op = .and ∧ r = BitVec.ofInt k.bits a &&& BitVec.ofInt k.bits b) ∨ (op = .or ∧ r = BitVec.ofInt k.bits a ||| BitVec.ofInt k.bits b) ∨ (op = .xor ∧ r = BitVec.ofInt k.bits a ^^^ BitVec.ofInt k.bits b)) :
    Yld P f h L (.binOp op t x y yt) ty (.int k (k.wrap r.toNat)) := by
  intro w _
  rcases hop with ⟨rfl, rfl⟩ | ⟨rfl, rfl⟩ | ⟨rfl, rfl⟩ <;>
    simp [execOp, hx, hy, eqGuard_at_int, binOp, Op.intBits]
theorem Yld.shl {t yt : TypeId} {k k2 : IntKind} {a b : Int} (hx : evo f x = .int k a) (hy : evo f y = .int k2 b) (hb : 0 ≤ b) : Yld P f h L (.binOp .shl t x y yt) ty (.int k (k.wrap (a * 2 ^ (min b.toNat k.bits)))) :=
  fun _ _ => by simp [execOp, hx, hy, eqGuard_at_int, binOp, Op.shift, Int.not_lt.2 hb]
theorem Yld.shr {t yt : TypeId} {k k2 : IntKind} {a b : Int} (hx : evo f x = .int k a) (hy : evo f y = .int k2 b) (hb : 0 ≤ b) : Yld P f h L (.binOp .shr t x y yt) ty (.int k (a.fdiv (2 ^ (min b.toNat k.bits)))) :=
  fun _ _ => by simp [execOp, hx, hy, eqGuard_at_int, binOp, Op.shift, Int.not_lt.2 hb]
theorem Yld.eqlI {t yt : TypeId} {k : IntKind} {a b : Int} (hx : evo f x = .int k a) (hy : evo f y = .int k b) : Yld P f h L (.binOp .eql t x y yt) ty (.bool (decide (a = b))) :=
  fun _ _ => by simp only [execOp, hx, hy]; simp [eqGuard_at_int, binOp, Op.intCmp]; exact Bool.beq_eq_decide_eq a b
theorem Yld.neqI {t yt : TypeId} {k : IntKind} {a b : Int} (hx : evo f x = .int k a) (hy : evo f y = .int k b) : Yld P f h L (.binOp .neq t x y yt) ty (.bool (!decide (a = b))) :=
  fun _ _ => by simp only [execOp, hx, hy]; simp [eqGuard_at_int, binOp, Op.intCmp]; rw [bne, Bool.beq_eq_decide_eq a b]
theorem Yld.lss {t yt : TypeId} {k : IntKind} {a b : Int} (hx : evo f x = .int k a) (hy : evo f y = .int k b) : Yld P f h L (.binOp .lss t x y yt) ty (.bool (decide (a < b))) :=
  fun _ _ => by simp only [execOp, hx, hy]; simp [eqGuard_at_int, binOp, Op.intCmp]
theorem Yld.leq {t yt : TypeId} {k : IntKind} {a b : Int} (hx : evo f x = .int k a) (hy : evo f y = .int k b) : Yld P f h L (.binOp .leq t x y yt) ty (.bool (decide (a ≤ b))) :=
  fun _ _ => by simp only [execOp, hx, hy]; simp [eqGuard_at_int, binOp, Op.intCmp]
theorem Yld.gtr {t yt : TypeId} {k : IntKind} {a b : Int} (hx : evo f x = .int k a) (hy : evo f y = .int k b) : Yld P f h L (.binOp .gtr t x y yt) ty (.bool (decide (b < a))) :=
  fun _ _ => by simp only [execOp, hx, hy]; simp [eqGuard_at_int, binOp, Op.intCmp]
theorem Yld.geq {t yt : TypeId} {k : IntKind} {a b : Int} (hx : evo f x = .int k a) (hy : evo f y = .int k b) : Yld P f h L (.binOp .geq t x y yt) ty (.bool (decide (b ≤ a))) :=
  fun _ _ => by simp only [execOp, hx, hy]; simp [eqGuard_at_int, binOp, Op.intCmp]
theorem Yld.conv {s t : TypeId} {ks k : IntKind} [A : TIn P s ks] [T : TIn P t k] {k' : IntKind} {a : Int} (hx : evo f x = .int k' a) : Yld P f h L (.convert s t x) ty (.int k (k.wrap a)) :=
  fun w _ => by simp [execOp, hx, convert, run_underlying A.u, run_underlying T.u, Conv.intToInt]
theorem Yld.lenS {t : TypeId} {e : TypeId} [T : TSl P t e] {a : Option Addr} {m c : Nat} (hx : evo f x = .slice a m c) : Yld P f h L (.call ⟨.builtin .len, #[x], #[t]⟩) ty (.int .i64 m) :=
  fun w _ => by simp [execOp, hx, resolve, invoke, builtin, Builtin.len_, run_underlying T.u, goInt]
theorem Yld.lenStr {t : TypeId} [T : TStr P t] {s : ByteArray} (hx : evo f x = .string s) : Yld P f h L (.call ⟨.builtin .len, #[x], #[t]⟩) ty (.int .i64 s.size) :=
  fun w _ => by simp [execOp, hx, resolve, invoke, builtin, Builtin.len_, run_underlying T.u, goInt]
theorem bytes_toList (a : ByteArray) : a.toList = a.data.toList := by
  exact ByteArray.toList_eq a
theorem str_beq (a b : ByteArray) : (a.toList == b.toList) = decide (a = b) := by
  rw [Bool.eq_iff_iff]; simp only [bytes_toList, beq_iff_eq, decide_eq_true_eq]
  exact ⟨fun e => ByteArray.ext (Array.toList_inj.1 e), fun e => by rw [e]⟩
theorem Yld.eqlStr {t yt : TypeId} {a b : ByteArray} (hx : evo f x = .string a) (hy : evo f y = .string b) : Yld P f h L (.binOp .eql t x y yt) ty (.bool (decide (a = b))) := by
  intro w _
  simp only [execOp, hx, hy]; simp [eqGuard_at_string, binOp, Op.stringOp, str_beq]
theorem Yld.neqStr {t yt : TypeId} {a b : ByteArray} (hx : evo f x = .string a) (hy : evo f y = .string b) : Yld P f h L (.binOp .neq t x y yt) ty (.bool (!decide (a = b))) := by
  intro w _
  simp only [execOp, hx, hy]; simp [eqGuard_at_string, binOp, Op.stringOp, str_beq]
theorem Yld.fieldAddr {t : TypeId} {i off sz : Nat} [T : TF P t i off sz] {b o : Nat} (hx : evo f x = .pointer (some ⟨b, o, none⟩)) :
    Yld P f h L (.fieldAddr t x i) ty (.pointer (some ⟨b, o + off, none⟩)) := by
  obtain ⟨fs, fd, j, hu, hf, rfl, hj, rfl, hsz⟩ := T.f
  intro w _
  simp [execOp, hx, Instr.fieldAt, run_underlying hu, hf, Instr.sureAddr, fieldPlace, sizeOf, typeInfo, hj, hsz, Addr.add_lit]
theorem Yld.fieldAddrL {t : TypeId} {i off sz : Nat} [T : TF P t i off sz] {b o o' : Nat} (hx : evo f x = .pointer (some ⟨b, o, none⟩)) (e : o + off = o') :
    Yld P f h L (.fieldAddr t x i) ty (.pointer (some ⟨b, o', none⟩)) := by subst e; exact Yld.fieldAddr hx
theorem Yld.bits_and {t yt : TypeId} {k : IntKind} {a b : Int} (hx : evo f x = .int k a) (hy : evo f y = .int k b) : Yld P f h L (.binOp .and t x y yt) ty (.int k (k.wrap (BitVec.ofInt k.bits a &&& BitVec.ofInt k.bits b).toNat)) := Yld.bits hx hy (.inl ⟨rfl, rfl⟩)
theorem Yld.bits_or {t yt : TypeId} {k : IntKind} {a b : Int} (hx : evo f x = .int k a) (hy : evo f y = .int k b) : Yld P f h L (.binOp .or t x y yt) ty (.int k (k.wrap (BitVec.ofInt k.bits a ||| BitVec.ofInt k.bits b).toNat)) := Yld.bits hx hy (.inr (.inl ⟨rfl, rfl⟩))
theorem Yld.bits_xor {t yt : TypeId} {k : IntKind} {a b : Int} (hx : evo f x = .int k a) (hy : evo f y = .int k b) : Yld P f h L (.binOp .xor t x y yt) ty (.int k (k.wrap (BitVec.ofInt k.bits a ^^^ BitVec.ofInt k.bits b).toNat)) := Yld.bits hx hy (.inr (.inr ⟨rfl, rfl⟩))
theorem equalIn_bool {t : TypeId} [T : TBo P t] (d : Nat) (a b : Bool) (w : World) : (Op.equalIn (d + 1) t (.bool a) (.bool b)).run P w = .ok (a == b) w := by
  unfold Op.equalIn
  rw [Sem.run_bind, run_underlying T.u]
  rfl
theorem run_equal {t : TypeId} {x y : Value} {r : Result Bool} {w : World} (h : ∀ d, (Op.equalIn (d + 1) t x y).run P w = r) : (Op.equal t x y).run P w = r := by
  unfold Op.equal
  rw [show Op.maxDepth = 9999 + 1 from rfl]
  exact h _
theorem run_eql {t : TypeId} {x y : Value} {r : Bool} {w : World} (hb : binOp .eql t x y = (do pure (.bool (← Op.equal t x y)))) (h : (Op.equal t x y).run P w = .ok r w) : (binOp .eql t x y).run P w = .ok (.bool r) w := by
  rw [hb, Sem.run_bind, h]; rfl
theorem run_neq {t : TypeId} {x y : Value} {r : Bool} {w : World} (hb : binOp .neq t x y = (do pure (.bool (!(← Op.equal t x y))))) (h : (Op.equal t x y).run P w = .ok r w) : (binOp .neq t x y).run P w = .ok (.bool !r) w := by
  rw [hb, Sem.run_bind, h]; rfl
theorem Yld.eqlB {t yt : TypeId} [T : TBo P t] {a b : Bool} (hx : evo f x = .bool a) (hy : evo f y = .bool b) : Yld P f h L (.binOp .eql t x y yt) ty (.bool (decide (a = b))) := by
  intro w _
  have := run_eql (P := P) (t := t) (x := .bool a) (y := .bool b) (w := w) rfl (run_equal fun d => equalIn_bool d a b w)
  simp only [execOp, hx, hy, eqGuard_at_bool]
  rw [Bool.beq_eq_decide_eq] at this
  simp [this]
theorem Yld.neqB {t yt : TypeId} [T : TBo P t] {a b : Bool} (hx : evo f x = .bool a) (hy : evo f y = .bool b) : Yld P f h L (.binOp .neq t x y yt) ty (.bool (!decide (a = b))) := by
  intro w _
  have := run_neq (P := P) (t := t) (x := .bool a) (y := .bool b) (w := w) rfl (run_equal fun d => equalIn_bool d a b w)
  simp only [execOp, hx, hy, eqGuard_at_bool]
  rw [Bool.beq_eq_decide_eq] at this
  simp [this]
theorem Yld.indexAddrS {t e : TypeId} [T : TSl P t e] {agg : Bool} {sz : Nat} [I : TI P e agg sz] {b o m c : Nat} {i : Int} {k : IntKind} (hx : evo f x = .slice (some ⟨b, o, none⟩) m c) (hy : evo f y = .int k i)
    (h0 : 0 ≤ i) (h1 : i < m) : Yld P f h L (.indexAddr t x y) ty (.pointer (some ⟨b, o + i.toNat * sz, none⟩)) := by
  intro w _
  simp [execOp, hx, hy, Instr.indexAt, asIntOf, run_underlying T.u, run_sizeOf, h0, h1, Addr.add_lit]
theorem Yld.indexAddrA {t e : TypeId} {len : Nat} [T : TAr P t len e] {agg : Bool} {sz : Nat} [I : TI P e agg sz] {b o : Nat} {i : Int} {k : IntKind} (hx : evo f x = .pointer (some ⟨b, o, none⟩)) (hy : evo f y = .int k i)
    (h0 : 0 ≤ i) (h1 : i < len) : Yld P f h L (.indexAddr t x y) ty (.pointer (some ⟨b, o + i.toNat * sz, none⟩)) := by
  intro w _
  simp [execOp, hx, hy, Instr.indexAt, asIntOf, run_underlying T.u, run_sizeOf, h0, h1, Instr.sureAddr, Addr.add_lit]
theorem Yld.indexAddrL {t e : TypeId} {len : Nat} [T : TAr P t len e] {agg : Bool} {sz : Nat} [I : TI P e agg sz] {b o o' : Nat} {i : Int} {k : IntKind} (hx : evo f x = .pointer (some ⟨b, o, none⟩)) (hy : evo f y = .int k i)
    (h0 : 0 ≤ i) (h1 : i < len) (e' : o + i.toNat * sz = o') : Yld P f h L (.indexAddr t x y) ty (.pointer (some ⟨b, o', none⟩)) := by subst e'; exact Yld.indexAddrA hx hy h0 h1
/-- One cell, loaded. -/
theorem Yld.load1 {t : TypeId} [T : TI P t false 1] {b o : Nat} {v : Value} (hx : evo f x = .pointer (some ⟨b, o, none⟩)) (hc : Cells h L b o [v]) : Yld P f h L (.load t x) ty v := by
  intro w s
  have := hc.rd s 0 v rfl
  rw [Addr.add_lit] at this
  simp only [Nat.add_zero] at this
  simp [execOp, hx, Instr.loadAt, Instr.sureAddr, loadVar, run_isAgg, load, Sem.run, this]
/-- A struct or an array, loaded. -/
theorem Yld.loadN {t : TypeId} {sz : Nat} [T : TI P t true sz] {b o : Nat} {vs : List Value} (hx : evo f x = .pointer (some ⟨b, o, none⟩)) (hc : Cells h L b o vs) (hl : vs.length = sz) :
    Yld P f h L (.load t x) ty (.agg vs.toArray) := by
  intro w s
  subst hl
  have := run_loadCells_list (P := P) w ⟨b, o, none⟩ vs (hc.rd s)
  simp [execOp, hx, Instr.loadAt, Instr.sureAddr, loadVar, run_isAgg, run_sizeOf, this]

/-! ### Slices and strings, by what they read as -/
/-- The address of cell k of a slice. -/
def elp (v : Value) (k : Nat) : Value := match v with
  | .slice (some ⟨b, o, _⟩) _ _ => .pointer (some ⟨b, o + k, none⟩)
  | _ => undef
def vcap : Value → Nat | .slice _ _ c => c | _ => 0
def slcut (v : Value) (l e m sz : Nat) : Value := match v with
  | .slice a _ _ => .slice (if m = l then a else a.map (·.add (l * sz))) (e - l) (m - l)
  | v => v

theorem Sl.cap_le {h : PH} {L : OL} {sz n : Nat} {v : Value} {vs : List Value} (s : Sl h L sz v n vs) : n ≤ vcap v ∧ vcap v ≤ maxLen := by
  rcases s.2 with ⟨a0, rfl, rfl⟩ | ⟨b, o, cap, rfl, h1, h2, _⟩
  · exact ⟨Nat.le_refl _, Nat.zero_le _⟩
  · exact ⟨h1, h2⟩
theorem Sl.lenS {h1 : PH} {L1 : OL} {t e : TypeId} [T : TSl P t e] {sz n : Nat} {v : Value} {vs : List Value} (s : Sl h1 L1 sz v n vs) (hx : evo f x = v) :
    Yld P f h L (.call ⟨.builtin .len, #[x], #[t]⟩) ty (.int .i64 n) := by
  obtain ⟨a, cap, rfl⟩ := s.val
  exact Yld.lenS hx
theorem Sl.cut {h : PH} {L : OL} {sz n : Nat} {v : Value} {vs : List Value} (s : Sl h L sz v n vs) (l e m : Nat) (h1 : l ≤ e) (h2 : e ≤ n) (h3 : e ≤ m) (h4 : m ≤ vcap v) :
    Sl h L sz (slcut v l e m sz) (e - l) ((vs.drop (l * sz)).take ((e - l) * sz)) := by
  have hlen : ((vs.drop (l * sz)).take ((e - l) * sz)).length = (e - l) * sz := by
    rw [List.length_take, List.length_drop, s.1, ← Nat.sub_mul]; exact Nat.min_eq_left (Nat.mul_le_mul_right _ (by omega))
  refine ⟨hlen, ?_⟩
  rcases s.2 with ⟨a0, rfl, rfl⟩ | ⟨b, o, cap, rfl, hc1, hc2, hc⟩
  · obtain rfl : e = 0 := by omega
    obtain rfl : l = 0 := by omega
    simp only [vcap] at h4
    obtain rfl : m = 0 := by omega
    exact .inl ⟨_, rfl, rfl⟩
  · simp only [vcap] at h4
    have hcells : Cells h L b (o + l * sz) ((vs.drop (l * sz)).take ((e - l) * sz)) := hc.sub (l * sz) ((e - l) * sz) (by
      rw [s.1, ← Nat.add_mul]; exact Nat.mul_le_mul_right _ (by omega))
    by_cases hm : m = l
    · subst hm
      obtain rfl : e = m := by omega
      refine .inr ⟨b, o, 0, by simp [slcut], by omega, by simp [maxLen], ?_⟩
      have := hc.sub 0 0 (Nat.zero_le _)
      simpa using this
    · exact .inr ⟨b, o + l * sz, m - l, by simp [slcut, hm, Addr.add_lit], by omega, by omega, hcells⟩

theorem sliceBound_ok {v : Value} {k : IntKind} {i : Int} {y : Nat} {c : BoundsCode} (hv : v = .int k i) (h0 : 0 ≤ i) (h1 : i ≤ y) (w : World) :
    (Instr.sliceBound v y c).run P w = .ok i.toNat w := by
  subst hv; simp [Instr.sliceBound, asIntOf, h0, h1]

theorem Sl.slice {h1' : PH} {L1 : OL} {t e : TypeId} [T : TSl P t e] {agg : Bool} {sz : Nat} [I : TI P e agg sz] {n : Nat} {v : Value} {vs : List Value} (s : Sl h1' L1 sz v n vs) (hx : evo f x = v)
    {lo hi mx : Option Operand} (l hh m : Nat)
    (hlo : match lo with | none => l = 0 | some y => ∃ k i, evo f y = .int k i ∧ 0 ≤ i ∧ i.toNat = l)
    (hhi : match hi with | none => hh = n ∧ mx = none | some y => ∃ k i, evo f y = .int k i ∧ 0 ≤ i ∧ i.toNat = hh)
    (hmx : match mx with | none => m = vcap v | some y => ∃ k i, evo f y = .int k i ∧ 0 ≤ i ∧ i.toNat = m)
    (h1 : l ≤ hh) (h2 : hh ≤ m) (h3 : m ≤ vcap v) : Yld P f h L (.slice t x lo hi mx) ty (slcut v l hh m sz) := by
  intro w _
  obtain ⟨a, cap, rfl⟩ := s.val
  simp only [vcap] at h3 hmx
  have hb : (Instr.sliceBounds true n cap (lo.map (evo f)) (hi.map (evo f)) (mx.map (evo f))).run P w = .ok (l, hh, m) w := by
    unfold Instr.sliceBounds
    cases mx with
    | none =>
      subst hmx
      cases hi with
      | none =>
        obtain ⟨rfl, _⟩ := hhi
        cases lo with
        | none => subst hlo; simp
        | some y => obtain ⟨k, i, hy, h0, rfl⟩ := hlo; simp [sliceBound_ok hy h0 (show i ≤ (hh : Int) by omega)]
      | some z =>
        obtain ⟨k2, j, hz, h02, rfl⟩ := hhi
        cases lo with
        | none => subst hlo; simp [sliceBound_ok hz h02 (show j ≤ (m : Int) by omega)]
        | some y => obtain ⟨k, i, hy, h0, rfl⟩ := hlo; simp [sliceBound_ok hz h02 (show j ≤ (m : Int) by omega), sliceBound_ok hy h0 (show i ≤ (j.toNat : Int) by omega)]
    | some u =>
      obtain ⟨k3, q, hu, h03, rfl⟩ := hmx
      cases hi with
      | none => simp at hhi
      | some z =>
        obtain ⟨k2, j, hz, h02, rfl⟩ := hhi
        cases lo with
        | none => subst hlo; simp [sliceBound_ok hu h03 (show q ≤ (cap : Int) by omega), sliceBound_ok hz h02 (show j ≤ (q.toNat : Int) by omega)]
        | some y => obtain ⟨k, i, hy, h0, rfl⟩ := hlo; simp [sliceBound_ok hu h03 (show q ≤ (cap : Int) by omega), sliceBound_ok hz h02 (show j ≤ (q.toNat : Int) by omega), sliceBound_ok hy h0 (show i ≤ (j.toNat : Int) by omega)]
  simp [execOp, hx, Instr.sliceAt, run_underlying T.u, Instr.slice, hb, run_sizeOf, slcut]

theorem Sl.index {h1' : PH} {L1 : OL} {t e : TypeId} [T : TSl P t e] {agg : Bool} {sz : Nat} [I : TI P e agg sz] {n : Nat} {v : Value} {vs : List Value} (s : Sl h1' L1 sz v n vs) (hx : evo f x = v)
    {k : IntKind} {i : Int} (hy : evo f y = .int k i) (h0 : 0 ≤ i) (h1 : i < n) : Yld P f h L (.indexAddr t x y) ty (elp v (i.toNat * sz)) := by
  rcases s.2 with ⟨a0, rfl, rfl⟩ | ⟨b, o, cap, rfl, _⟩
  · omega
  · exact Yld.indexAddrS hx hy h0 h1
theorem Sl.ptr {sz n : Nat} {v : Value} {vs : List Value} (s : Sl h L sz v n vs) (k m : Nat) (us : List Value) (hk : k + m ≤ vs.length) (hm : 0 < m) (he : (vs.drop k).take m = us) :
    ∃ b o, elp v k = .pointer (some ⟨b, o, none⟩) ∧ Cells h L b o us := by
  rcases s.2 with ⟨a0, rfl, rfl⟩ | ⟨b, o, cap, rfl, _, _, hc⟩
  · have := s.1; omega
  · exact ⟨b, o + k, rfl, he ▸ hc.sub k m hk⟩
theorem Sl.load1 {t : TypeId} [T : TI P t false 1] {sz n : Nat} {v : Value} {vs : List Value} (s : Sl h L sz v n vs) {k : Nat} (hx : evo f x = elp v k) {u : Value} (hu : vs[k]? = some u) :
    Yld P f h L (.load t x) ty u := by
  obtain ⟨hk, he⟩ := List.getElem?_eq_some_iff.1 hu
  obtain ⟨b, o, hp, hc⟩ := s.ptr k 1 [u] (by omega) (by omega) (by rw [List.drop_eq_getElem_cons hk, he]; rfl)
  exact Yld.load1 (hx.trans hp) hc
theorem Sl.loadN {t : TypeId} {sz' : Nat} [T : TI P t true sz'] {sz n : Nat} {v : Value} {vs : List Value} (s : Sl h L sz v n vs) {k : Nat} (hx : evo f x = elp v k) {us : List Value}
    (hk : k + sz' ≤ vs.length) (hp : 0 < sz') (hu : (vs.drop k).take sz' = us) : Yld P f h L (.load t x) ty (.agg us.toArray) := by
  obtain ⟨b, o, hp, hc⟩ := s.ptr k sz' us hk hp hu
  exact Yld.loadN (hx.trans hp) hc (by rw [← hu]; simp; omega)
theorem Sl.field {h1' : PH} {L1 : OL} {t : TypeId} {i off sz' : Nat} [T : TF P t i off sz'] {sz n : Nat} {v : Value} {vs : List Value} (s : Sl h1' L1 sz v n vs) {k : Nat} (hx : evo f x = elp v k) (hk : k < vs.length) :
    Yld P f h L (.fieldAddr t x i) ty (elp v (k + off)) := by
  rcases s.2 with ⟨a0, rfl, rfl⟩ | ⟨b, o, cap, rfl, _⟩
  · have := s.1; omega
  · have := Yld.fieldAddr (P := P) (f := f) (h := h) (L := L) (ty := ty) (x := x) (t := t) (i := i) (off := off) (sz := sz') (b := b) (o := o + k) hx
    simpa [elp, Nat.add_assoc] using this
end
end Go.Bz
