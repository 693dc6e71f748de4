/- Slices of arrays that are variables. Conditions: those that each theorem names. -/
import Derived.Test.YtijlkjbmjkmkfaaS4
namespace Go.Bz
section
variable {P : Program} {f : Fr} {h : PH} {L : OL} {E : Env} {ty : TypeId} {x y z : Operand} {Q : Value → PH → OL → Prop}
theorem Yld.sliceA {t e : TypeId} {n : Nat} [T : TAr P t n e] {agg : Bool} {sz : Nat} [I : TI P e agg sz] {b o : Nat} (hx : evo f x = .pointer (some ⟨b, o, none⟩)) (hn : 0 < n) :
    Yld P f h L (.slice t x none none none) ty (.slice (some ⟨b, o, none⟩) n n) := by
  intro w _
  simp [execOp, hx, Instr.sliceAt, run_underlying T.u, Instr.sliceBounds, Instr.sureAddr, run_sizeOf, Addr.add_lit]
theorem Bs.arr {b o n : Nat} {cs : List Value} {T : TypeId} {fr : Nat × Nat} {k : AB n} (hb : h b = some (.cells cs.toArray T fr)) [S : Seg cs o n k.cells] (hn : n ≤ maxLen) : Bs h (.slice (some ⟨b, o, none⟩) n n) k.1 := by
  have hk := k.2
  refine ⟨by rw [bc_len, Nat.mul_one], .inr ⟨b, o, n, by rw [hk], by rw [hk]; exact Nat.le_refl _, hn, ?_⟩⟩
  exact Cells.of (n := n) (.inl hb)
theorem Chn.strLitS {s e : TypeId} [S : TSl P s e] [U : TIn P e .u8] {b n : Nat} {l : List UInt8} {L2 : OL} (hx : evo f x = .slice (some ⟨b, 0, none⟩) n n) (hn : l.length = n) (hm : n ≤ maxLen)
    (hL : L = (b, .cells (bc l).toArray e) :: L2) (q : ∀ (s : SV) h', h.le h' → Bs h' s.v l → Q s.v h' L2) : Chn P f E h L (.convert s s x) ty Q :=
  Chn.strLit hx hn hm hL fun h' le hb => q ⟨some ⟨b, 0, none⟩, n, n⟩ h' le hb
end
end Go.Bz
