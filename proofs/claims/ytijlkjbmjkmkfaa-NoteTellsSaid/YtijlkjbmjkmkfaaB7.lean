/- Going through a string; elements and fields of values. Conditions: those that each theorem names. -/
import Derived.Test.YtijlkjbmjkmkfaaB6
namespace Go.Bz

/-- The field i of a struct type: its type, and its place. -/
class TFt (P : Program) (t : TypeId) (i : Nat) (ft off : outParam Nat) : Prop where
  f : ∃ fs fd, P.underlying t = some (.struct fs) ∧ fs[i]? = some fd ∧ fd.type = ft ∧ fd.offset = off
def fieldT (P : Program) (t : TypeId) (i : Nat) : Option (Nat × Nat) :=
  match P.underlying t with
  | some (.struct fs) => fs[i]?.map fun fd => (fd.type, fd.offset)
  | _ => none
theorem mkTFt {P : Program} {t : TypeId} {i ft off : Nat} (h : fieldT P t i = some (ft, off)) : TFt P t i ft off := by
  unfold fieldT at h
  split at h
  · rename_i fs hu
    cases e : fs[i]? with
    | none => simp [e] at h
    | some fd => simp [e] at h; exact ⟨fs, fd, hu, e, h.1, h.2⟩
  · cases h

section
variable {P : Program} {f : Fr} {h : PH} {L : OL} {E : Env} {ty : TypeId} {x y : Operand} {Q : Value → PH → OL → Prop}
theorem Yld.fld1 {t : TypeId} {i ft off : Nat} [T : TFt P t i ft off] [TI P ft false 1] {cs : List Value} {v : Value} (hx : evo f x = .agg cs.toArray) [S : Seg cs off 1 [v]] : Yld P f h L (.field t x i) ty v := by
  obtain ⟨fs, fd, hu, hf, rfl, rfl⟩ := T.f
  intro w _
  have he := S.eq
  have hc : cs[fd.offset]? = some v := by
    have h1 : ((cs.drop fd.offset).take 1)[0]? = some v := by rw [he]; rfl
    rw [List.getElem?_take, if_pos (by decide), List.getElem?_drop] at h1
    simpa using h1
  have hp : (part fd.type cs.toArray fd.offset).run P w = .ok v w := run_part1 (by rw [List.getElem?_toArray]; exact hc) w
  simp [execOp, hx, Instr.field, run_underlying hu, hf, asAgg, hp]
theorem Yld.idx1 {t e : TypeId} {len : Nat} [T : TAr P t len e] [TI P e false 1] {cs : List Value} {k : IntKind} {i : Int} {v : Value} (hx : evo f x = .agg cs.toArray) (hy : evo f y = .int k i) (h0 : 0 ≤ i) (h1 : i < len)
    (hv : cs[i.toNat]? = some v) : Yld P f h L (.index t x y) ty v := by
  intro w _
  have hp : (part e cs.toArray (i.toNat * 1)).run P w = .ok v w := run_part1 (by rw [Nat.mul_one, List.getElem?_toArray]; exact hv) w
  simp only [Nat.mul_one] at hp
  simp [execOp, hx, hy, Instr.index, run_underlying T.u, asIntOf, h0, h1, run_sizeOf, hp]
theorem Yld.idxStr {t : TypeId} [T : TStr P t] {s : ByteArray} {k : IntKind} {i : Nat} (hx : evo f x = .string s) (hy : evo f y = .int k (i : Int)) (h1 : i < s.size) :
    Yld P f h L (.index t x y) ty (.int .u8 ((s.data.toList.getD i 0).toNat : Int)) := by
  intro w _
  have hs : s[i]? = some (s.data.toList.getD i 0) := by
    have h2 : i < s.data.toList.length := by simpa using h1
    rw [List.getD, List.getElem?_eq_getElem h2]
    simp [ByteArray.getElem_eq_getElem_data, h1]
  simp [execOp, hx, hy, Instr.index, run_underlying T.u, asIntOf, hs]

theorem Chn.rangeStr {t : TypeId} [T : TStr P t] {s : ByteArray} (hx : evo f x = .string s) (q : ∀ b, Q (.pointer (some ⟨b, 0, none⟩)) h ((b, .stringIter s 0) :: L)) : Chn P f E h L (.range t x) ty Q := by
  intro w st
  refine .inl ⟨_, w.alloc (.stringIter s 0), h, _, ?_, st.alloc _, q w.heap.size⟩
  simp [execOp, hx, Instr.range, run_underlying T.u, run_newObj]
theorem Sat.setObj {b : Nat} {o o' : Obj} {L' : OL} {w : World} (s : Sat E h L w) (p : Put L b o o' L') : Sat E h L' { w with heap := w.heap.setIfInBounds b o' } := by
  have hb := s.own _ p.mem
  obtain ⟨hlt, _⟩ := Array.getElem?_eq_some_iff.1 hb
  refine s.put p rfl rfl rfl (by simp) ?_ (fun k hk => ?_)
  · simp [hlt]
  · simp [Array.getElem?_setIfInBounds, Ne.symm hk]
def Obj.noRow : Obj → Bool | .cells _ _ _ => false | _ => true
theorem run_getObj {w : World} {b : Nat} {o : Obj} (hb : w.heap[b]? = some o) (hn : Obj.noRow o = true) : (getObj b).run P w = .ok o w := by
  cases o <;> first | (cases hn; done) | simp [getObj, Sem.run, hb]
theorem run_setObj {w : World} {b : Nat} {o o' : Obj} (hb : w.heap[b]? = some o) (hn : Obj.noRow o = true) : (setObj b o').run P w = .ok () { w with heap := w.heap.setIfInBounds b o' } := by
  cases o <;> first | (cases hn; done) | simp [Go.setObj, Sem.run, hb]
theorem Chn.nextStr {l : List UInt8} {pos b : Nat} {L' : OL} (hx : evo f x = .pointer (some ⟨b, 0, none⟩)) (hp : pos < l.length) (hc : (l.getD pos 0).toNat < 128) (p : Put L b (.stringIter ⟨l.toArray⟩ pos) (.stringIter ⟨l.toArray⟩ (pos + 1)) L')
    (q : Q (.tuple #[.bool true, .int .i64 pos, .int .i32 ((l.getD pos 0).toNat : Int)]) h L') : Chn P f E h L (.next x true) ty Q := by
  intro w st
  have hb := st.own _ p.mem
  refine .inl ⟨_, _, h, L', ?_, st.setObj p, q⟩
  have hd : Utf8.decode ⟨l.toArray⟩ pos = ((l.getD pos 0).toNat, 1) := by
    have e : ((⟨l.toArray⟩ : ByteArray).get! (pos + 0)) = l.getD pos 0 := by simp [ByteArray.get!, List.getD, hp]
    unfold Utf8.decode
    simp only [e]
    rw [if_pos (show (l.getD pos 0).toNat < 0x80 from hc)]
  have hsz : pos < (⟨l.toArray⟩ : ByteArray).size := by simpa [ByteArray.size] using hp
  simp [execOp, hx, Instr.next, run_getObj hb rfl, hsz, hd, run_setObj hb rfl, goInt]
theorem Yld.nextEnd {s : ByteArray} {pos b : Nat} (hx : evo f x = .pointer (some ⟨b, 0, none⟩)) (hp : s.size ≤ pos) (a : At h L b (.stringIter s pos)) : Yld P f h L (.next x true) ty (.tuple #[.bool false]) := by
  intro w st
  have hb := st.at a
  simp [execOp, hx, Instr.next, run_getObj hb rfl, Nat.not_lt.2 hp]
end
end Go.Bz
