/- Slices that are made. Conditions: those that each theorem names. -/
import Derived.Test.YtijlkjbmjkmkfaaS2
namespace Go.Bz

section
variable {P : Program} {f : Fr} {h : PH} {L : OL} {E : Env} {ty : TypeId} {x y : Operand} {Q : Value → PH → OL → Prop}
theorem rep_cells (z : Value) (n : Nat) : ((Array.range n).map (#[z][· % #[z].size]!)) = (List.replicate n z).toArray := by
  apply Array.ext
  · simp
  · intro i h1 h2
    simp [Nat.mod_one]
theorem Chn.makeSlice {t e : TypeId} [T : TSl P t e] [I : TI P e false 1] {z : Value} [Z : TZc P e z [z]] {by_ : Nat} [B : TBy P e by_] {k1 k2 : IntKind} {len cap : Nat}
    (hx : evo f x = .int k1 len) (hy : evo f y = .int k2 cap) (hlc : len ≤ cap) (hb : cap * by_ ≤ 140737488355328) (hm : cap ≤ 140737488355328)
    (q : ∀ s : SV, s.n = len → Acc s 1 (List.replicate len z) (List.replicate (cap - len) z) → Q s.v h (accL s e (List.replicate len z) (List.replicate (cap - len) z) ++ L)) : Chn P f E h L (.makeSlice t x y) ty Q := by
  intro w s
  obtain ⟨i, hi, hisz⟩ := I.sz
  obtain ⟨i', hi', hib⟩ := B.b
  rw [hi] at hi'; cases hi'
  haveI := Z.tz
  have hcat : List.replicate len z ++ List.replicate (cap - len) z = List.replicate cap z := by rw [List.replicate_append_replicate]; congr 1; omega
  have hq := q ⟨some ⟨w.heap.size, 0, none⟩, len, cap⟩ rfl ⟨by simp, .inr ⟨_, rfl, hlc, by simp only [maxLen]; omega, by simp; omega⟩⟩
  refine .inl ⟨.slice (some ⟨w.heap.size, 0, none⟩) len cap, w.alloc (.cells (List.replicate cap z).toArray e), h, _, ?_, s.alloc _, ?_⟩
  · have w1 : IntKind.i64.wrap (len : Int) = len := wrap_i64 (by omega) (by omega)
    have w2 : IntKind.i64.wrap (cap : Int) = cap := wrap_i64 (by omega) (by omega)
    have hc : z.cells = #[z] := Z.c
    have hinf : (typeInfo e).run P w = .ok i w := by simp [typeInfo, hi]
    have ha1 : (asInt (.int k1 (len : Int))).run P w = .ok (len : Int) w := by simp [asInt, asIntOf]
    have ha2 : (asInt (.int k2 (cap : Int))).run P w = .ok (cap : Int) w := by simp [asInt, asIntOf]
    have htl : ¬ ((i.bytes : Int) * (cap : Int) > 2 ^ 48) := by
      rw [hib]
      have : ((by_ : Int) * (cap : Int)) = ((cap * by_ : Nat) : Int) := by rw [Int.natCast_mul]; exact Int.mul_comm _ _
      rw [this]
      have e48 : (2 : Int) ^ 48 = 281474976710656 := by decide
      rw [e48]; omega
    have h1 : ¬ ((cap : Int) < 0) := by omega
    have h2 : ¬ ((len : Int) < 0) := by omega
    have h3 : ¬ ((len : Int) > (cap : Int)) := by omega
    simp only [execOp, hx, hy, Instr.makeSlice, Sem.run_bind, run_underlying T.u, Result.andThen_ok, ha1, ha2, Sem.run_pure, hinf, w1, w2, h1, h2, h3, htl, decide_false, Bool.or_false, Bool.false_eq_true, or_false, if_false, run_askRoom, run_sizeOf, Int.toNat_natCast, Nat.mul_one]
    by_cases h0 : cap = 0
    · subst h0
      have h9 : Array.map (fun _ => (default : Value)) (Array.range 0) = #[] := Array.eq_empty_of_size_eq_zero (by simp)
      simp [newRow, h9]
    · simp only [h0, if_false, Sem.run_bind, run_zeroValue, Result.andThen_ok, Sem.run_pure, hc, rep_cells]
      simp [newRow]
  · simpa [accL, SV.v, hcat] using hq
/-- []byte("..."): the literal, as it stands from then on. -/
theorem Chn.strLit {s e : TypeId} [S : TSl P s e] [U : TIn P e .u8] {b n : Nat} {l : List UInt8} {L2 : OL} (hx : evo f x = .slice (some ⟨b, 0, none⟩) n n) (hn : l.length = n) (hm : n ≤ maxLen)
    (hL : L = (b, .cells (bc l).toArray e) :: L2) (q : ∀ h', h.le h' → Bs h' (.slice (some ⟨b, 0, none⟩) n n) l → Q (.slice (some ⟨b, 0, none⟩) n n) h' L2) : Chn P f E h L (.convert s s x) ty Q := by
  intro w st
  subst hL
  let cs : Array Value := (bc l).toArray
  have hg : w.heap[b]? = some (.cells cs e) := st.own (b, .cells cs e) List.mem_cons_self
  have s2 : Sat E h ((b, .cells cs e (cs.size, cs.size + 1)) :: L2) (w.freeze ⟨b, cs.size, none⟩ 1) := by
    refine st.put (o' := .cells cs e (cs.size, cs.size + 1)) Put.head rfl rfl rfl (by simp [World.freeze]) ?_ ?_
    · simp only [World.freeze, if_neg (show ¬ (1 = 0) by decide)]
      rw [Array.getElem?_modify, if_pos rfl]
      rw [hg]
      simp
    · intro k hk
      simp only [World.freeze, if_neg (show ¬ (1 = 0) by decide)]
      rw [Array.getElem?_modify, if_neg (Ne.symm hk)]
  have hb : h b = none := s2.dis _ (by simp; exact .inl rfl)
  refine .inl ⟨.slice (some ⟨b, 0, none⟩) n n, _, h.add b (.cells cs e (cs.size, cs.size + 1)), L2, ?_, s2.freeze, q _ (PH.le_add hb) ?_⟩
  · have h3 : (shape b).run P w = .ok (some (e, cs.size)) w := by
      show Result.ok (w.shape? b) w = _
      unfold World.shape?
      rw [hg]
    have h4 : (markStringish ⟨b, 0, none⟩).run P w = .ok () (w.freeze ⟨b, cs.size, none⟩ 1) := by
      unfold markStringish
      rw [Sem.run_bind, h3]
      rfl
    simp only [execOp, hx, convert, Sem.run_bind, run_underlying S.u, run_underlying U.u, Result.andThen_ok, beq_self_eq_true, h4, Sem.run_pure]
  · subst hn
    exact ⟨by simp [bc_len], .inr ⟨b, 0, l.length, rfl, Nat.le_refl _, hm, cs, e, _, fun _ => .inl (PH.add_same _ _ _), by simp [bc_len, cs], by rw [bc_len]; simp only [cs, List.drop_zero]; exact List.take_of_length_le (by rw [bc_len]; exact Nat.le_refl _)⟩⟩
end
end Go.Bz
