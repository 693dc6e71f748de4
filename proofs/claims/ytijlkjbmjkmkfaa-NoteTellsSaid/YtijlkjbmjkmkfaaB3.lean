/-
  Operations that make memory or write it, over the symbolic heap; calls. Conditions: those that each theorem names.
-/
import Derived.Test.YtijlkjbmjkmkfaaB2
namespace Go.Bz

/-- A slice's value. -/
structure SV where
  a : Option Addr
  n : Nat
  c : Nat
def SV.v (s : SV) : Value := .slice s.a s.n s.c
def SV.nil : SV := ⟨none, 0, 0⟩
theorem Sl.sv {h : PH} {L : OL} {sz n : Nat} {v : Value} {vs : List Value} (s : Sl h L sz v n vs) : ∃ t : SV, v = t.v ∧ t.n = n := by
  obtain ⟨a, c, rfl⟩ := s.val
  exact ⟨⟨a, n, c⟩, rfl, rfl⟩
theorem Sl.n_eq {h : PH} {L : OL} {sz n : Nat} {t : SV} {vs : List Value} (s : Sl h L sz t.v n vs) : t.n = n := by
  obtain ⟨a, c, e⟩ := s.val
  unfold SV.v at e; cases t; cases e; rfl

/-- The zero value of a type, and its cells. -/
class TZc (P : Program) (t : TypeId) (z : outParam Value) (zc : outParam (List Value)) : Prop where
  tz : TZ P t z
  c : z.cells = zc.toArray
class TFn (P : Program) (k : FuncId) : Prop where
  f : (P.funcs[k]?).map (fun fn => (fn.name == "runtime.NumGoroutine", fn.body.isSome)) = some (false, true)

theorem run_callFunc {P : Program} {k : FuncId} [T : TFn P k] (args : Array Value) (w : World) : (callFunc k args).run P w = .ok (.enter k args) w := by
  have hf := T.f
  cases hq : P.funcs[k]? with
  | none => simp [hq] at hf
  | some fn =>
    simp [hq] at hf
    obtain ⟨hn, hb⟩ := hf
    have hb' : fn.body.isNone = false := by cases h : fn.body <;> simp_all
    have hp : (program).run P w = .ok P w := rfl
    have hn' : (fn.name == "runtime.NumGoroutine") = false := by simpa using hn
    simp only [callFunc, Sem.run_bind, hp, Result.andThen_ok, hq, hn', hb', Bool.false_eq_true, if_false]
    rfl
theorem run_newObj {P : Program} (o : Obj) (w : World) : (newObj o).run P w = .ok w.heap.size (w.alloc o) := rfl

/-- The cells vs laid over cs from o on. -/
def spl (cs : List Value) (o : Nat) (vs : List Value) : List Value := cs.take o ++ (vs ++ cs.drop (o + vs.length))
theorem spl_len {cs : List Value} {o : Nat} {vs : List Value} (h : o + vs.length ≤ cs.length) : (spl cs o vs).length = cs.length := by simp [spl]; omega

/-- All cells of one piece each. -/
def Ones (vs : List Value) : Prop := ∀ v ∈ vs, v.oneCell' = true

section
variable {P : Program} {f : Fr} {E : Env} {h : PH} {L : OL} {ty : TypeId} {Q : Value → PH → OL → Prop}

theorem Chn.alloc {t : TypeId} {z : Value} {zc : List Value} [T : TZc P t z zc] (q : ∀ b, Q (.pointer (some ⟨b, 0, none⟩)) h ((b, .cells zc.toArray t) :: L)) : Chn P f E h L (.alloc t) ty Q := by
  intro w s
  haveI := T.tz
  refine .inl ⟨_, w.alloc (.cells zc.toArray t), h, _, ?_, s.alloc _, q w.heap.size⟩
  simp [execOp, Instr.alloc, run_zeroValue, newVar, newRow, T.c]

theorem Chn.box {t : TypeId} {x : Operand} {v : Value} {cs : List Value} (hx : evo f x = v) (hc : v.cells = cs.toArray)
    (q : ∀ b, Q (.pointer (some ⟨b, 0, none⟩)) h ((b, .cells cs.toArray t) :: L)) : Chn P f E h L (.box t x) ty Q := by
  intro w s
  refine .inl ⟨_, w.alloc (.cells cs.toArray t), h, _, ?_, s.alloc _, q w.heap.size⟩
  simp [execOp, Instr.box, newVar, newRow, hx, hc]

theorem run_storeVar {t : TypeId} {agg : Bool} {sz : Nat} [T : TI P t agg sz] {b o : Nat} {v : Value} {vs : List Value} (hc : v.cells = vs.toArray) (hl : vs.length = sz) (ones : Ones vs)
    {cs : List Value} {T' : TypeId} {w : World} (hg : w.heap[b]? = some (.cells cs.toArray T' (0, 0))) (hfit : o + sz ≤ cs.length) :
    (storeVar t ⟨b, o, none⟩ v).run P w = .ok () (w.setRow b (spl cs o vs).toArray) := by
  have hst := run_storeCells_at P b o T' vs 0 cs.toArray w hg (by simp; omega) ones
  simp only [Nat.add_zero] at hst
  simp [storeVar, run_sizeOf, hc, hl, hst, spl]

theorem Sat.setRow {b : Nat} {cs cs' : List Value} {T : TypeId} {L' : OL} {w : World} (s : Sat E h L w) (p : Put L b (.cells cs.toArray T) (.cells cs'.toArray T) L') : Sat E h L' (w.setRow b cs'.toArray) := by
  have hm : (b, Obj.cells cs.toArray T) ∈ L := by
    obtain ⟨L1, p1, _⟩ := p.take
    exact p1.mem_iff.2 (by simp)
  refine s.put p rfl rfl rfl (by simp [World.setRow]) (setRow_heap w b cs.toArray cs'.toArray T (0, 0) (s.own _ hm)) (fun k hk => setRow_other w b k _ hk)
theorem Put.mem {L L' : OL} {b : Nat} {o o' : Obj} (p : Put L b o o' L') : (b, o) ∈ L := by
  obtain ⟨L1, p1, _⟩ := p.take
  exact p1.mem_iff.2 (by simp)

theorem Chn.store {t : TypeId} {agg : Bool} {sz : Nat} [T : TI P t agg sz] {x y : Operand} {b o : Nat} {v : Value} {vs cs : List Value} {T' : TypeId} {L' : OL}
    (hx : evo f x = .pointer (some ⟨b, o, none⟩)) (hy : evo f y = v) (hc : v.cells = vs.toArray) (hl : vs.length = sz) (ones : Ones vs)
    (p : Put L b (.cells cs.toArray T') (.cells (spl cs o vs).toArray T') L') (hfit : o + sz ≤ cs.length) (q : Q undef h L') : Chn P f E h L (.store t x y) ty Q := by
  intro w s
  refine .inr (.inl ⟨w.setRow b (spl cs o vs).toArray, h, L', ?_, s.setRow p, q⟩)
  have := run_storeVar (P := P) (t := t) hc hl ones (s.own _ p.mem) hfit
  simp [execOp, hx, hy, Instr.storeAt, Instr.sureAddr, this]

theorem Chn.call {k : FuncId} [T : TFn P k] {cargs : Array Operand} {ats : Array TypeId} {x : Operand} {args : Array Value} {L1 L2 : OL} {R : Value → PH → OL → Prop}
    (hx : evo f x = .func (.func k) #[] #[]) (ha : cargs.map (evo f) = args) (c : Ct P k args h L1 R) (hL : L = L1 ++ L2)
    (q : ∀ v h' L', h.le h' → R v h' L' → Q v h' (L' ++ L2)) : Chn P f E h L (.call ⟨.value x, cargs, ats⟩) ty Q := by
  subst hL
  intro w s
  refine .inr (.inr ⟨k, args, ?_, ?_⟩)
  · simp [execOp, resolve, hx, ha, Deferred.ofValue, invoke, run_callFunc]
  · have p : Pre h L1 w := ⟨s.sub, fun e he => s.own e (by simp [he]), by
      have := s.nd; rw [List.map_append, List.nodup_append] at this; exact this.1, fun e he => s.dis e (by simp [he])⟩
    exact (c w p).mono fun e w' ⟨v, h', L', he, s', r⟩ => ⟨v, h', _, he, s.call s', q v h' L' s'.le r⟩

/-- A call of a function value. -/
theorem Chn.callv {k : FuncId} [T : TFn P k] {cargs : Array Operand} {ats : Array TypeId} {x : Operand} {first cap args : Array Value} {L1 L2 : OL} {R : Value → PH → OL → Prop}
    (hx : evo f x = .func (.func k) first cap) (ha : first ++ cargs.map (evo f) ++ cap = args) (c : Ct P k args h L1 R) (hL : L = L1 ++ L2)
    (q : ∀ v h' L', h.le h' → R v h' L' → Q v h' (L' ++ L2)) : Chn P f E h L (.call ⟨.value x, cargs, ats⟩) ty Q := by
  subst hL
  intro w s
  refine .inr (.inr ⟨k, args, ?_, ?_⟩)
  · subst ha
    simp [execOp, resolve, hx, Deferred.ofValue, invoke, run_callFunc]
  · have p : Pre h L1 w := ⟨s.sub, fun e he => s.own e (by simp [he]), by
      have := s.nd; rw [List.map_append, List.nodup_append] at this; exact this.1, fun e he => s.dis e (by simp [he])⟩
    exact (c w p).mono fun e w' ⟨v, h', L', he, s', r⟩ => ⟨v, h', _, he, s.call s', q v h' L' s'.le r⟩

/-! ### Slices that grow -/
def accL (s : SV) (e : TypeId) (xs junk : List Value) : OL := match s.a with | some ad => [(ad.block, .cells (xs ++ junk).toArray e)] | none => []
structure Acc (s : SV) (sz : Nat) (xs junk : List Value) : Prop where
  len : xs.length = s.n * sz
  a : (s = SV.nil ∧ junk = []) ∨ (∃ b, s.a = some ⟨b, 0, none⟩ ∧ s.n ≤ s.c ∧ s.c ≤ maxLen ∧ (xs ++ junk).length = s.c * sz)
theorem Acc.nil (sz : Nat) : Acc SV.nil sz [] [] := ⟨by simp [SV.nil], .inl ⟨rfl, rfl⟩⟩
theorem accL_nil (e : TypeId) (xs junk : List Value) : accL SV.nil e xs junk = [] := rfl
theorem Acc.xs_nil {sz : Nat} {xs junk : List Value} (a : Acc SV.nil sz xs junk) : xs = [] := List.eq_nil_of_length_eq_zero (by have := a.len; simpa [SV.nil] using this)

theorem Sat.dropAcc {s : SV} {e : TypeId} {xs junk : List Value} {L2 : OL} {w : World} (a : Sat E h (accL s e xs junk ++ L2) w) : Sat E h L2 w := a.drop (List.sublist_append_right _ _)

theorem zeroCells_len (z : Array Value) (n : Nat) : (Builtin.zeroCells z n).toList.length = n * z.size := by simp [Builtin.zeroCells]

theorem Chn.append {t e : TypeId} [T : TSl P t e] {agg : Bool} {sz : Nat} [I : TI P e agg sz] {z : Value} {zc : List Value} [Z : TZc P e z zc] {by_ : Nat} [B : TBy P e by_]
    {x y : Operand} {s : SV} {xs junk news : List Value} {v2 : Value} {m : Nat} {L2 : OL} (hx : evo f x = s.v) (ac : Acc s sz xs junk) (hL : L = accL s e xs junk ++ L2)
    (hy : evo f y = v2) (src : Sl h L sz v2 m news) (ones : Ones news) (hzc : zc.length = sz) (hsz : 0 < sz) (hbound : (s.n + m) * by_ ≤ 140737488355328) (hmax : s.n + m ≤ 9223372036854775807)
    (q : ∀ s' junk', s'.n = s.n + m → Acc s' sz (xs ++ news) junk' → Q s'.v h (accL s' e (xs ++ news) junk' ++ L2)) :
    Chn P f E h L (.call ⟨.builtin .append, #[x, y], #[t, t]⟩) ty Q := by
  intro w st
  obtain ⟨i, hi, hisz⟩ := I.sz
  obtain ⟨i', hi', hiz⟩ := Z.tz.z
  obtain ⟨i'', hi'', hib⟩ := B.b
  rw [hi] at hi' hi''; cases hi'; cases hi''
  subst hisz; subst hib
  have hxs := ac.len
  have hml : s.n + m ≤ maxLen := by simp only [maxLen]; omega
  have hzs : z.cells.size = i.size := by rw [Z.c]; simpa using hzc
  -- the run, in a word
  have hexec : ∀ r, (Builtin.append_ #[t, t] ty #[s.v, v2]).run P w = r → (execOp (evo f) ⟨none, .call ⟨.builtin .append, #[x, y], #[t, t]⟩, ty, "", #[], none⟩).run P w = r.andThen fun v w' => .ok (.value v) w' := by
    rintro r rfl
    simp [execOp, resolve, invoke, builtin, hx, hy]
  -- a new row
  have newrow : ∀ old, (Builtin.append_ #[t, t] ty #[s.v, v2]).run P w =
        .ok (.slice (some ⟨w.heap.size, 0, none⟩) (s.n + m) (grownCap w (s.n + m) old e)) (w.drew.alloc (.cells (xs.toArray ++ news.toArray ++ Builtin.zeroCells z.cells (grownCap w (s.n + m) old e - (s.n + m))) e)) →
      ∃ v w' h' L', (execOp (evo f) ⟨none, .call ⟨.builtin .append, #[x, y], #[t, t]⟩, ty, "", #[], none⟩).run P w = .ok (.value v) w' ∧ Sat E h' L' w' ∧ Q v h' L' := by
    intro old hr
    refine ⟨_, _, h, _, by rw [hexec _ hr]; rfl, ?_, q ⟨some ⟨w.heap.size, 0, none⟩, s.n + m, grownCap w (s.n + m) old e⟩ (Builtin.zeroCells z.cells (grownCap w (s.n + m) old e - (s.n + m))).toList rfl ?_⟩
    · have s1 := ((hL ▸ st).dropAcc.drew (w.drawn + 1)).alloc (.cells (xs.toArray ++ news.toArray ++ Builtin.zeroCells z.cells (grownCap w (s.n + m) old e - (s.n + m))) e)
      have e1 : xs.toArray ++ news.toArray ++ Builtin.zeroCells z.cells (grownCap w (s.n + m) old e - (s.n + m)) =
          (xs ++ news ++ (Builtin.zeroCells z.cells (grownCap w (s.n + m) old e - (s.n + m))).toList).toArray := by
        apply Array.ext'
        simp
      rw [e1] at s1 ⊢
      exact s1
    · have hge := grownCap_ge w (s.n + m) old e
      refine ⟨by rw [List.length_append, hxs, src.1]; exact (Nat.add_mul _ _ _).symm, .inr ⟨_, rfl, hge, grownCap_le_maxLen w (s.n + m) old e hml, ?_⟩⟩
      rw [List.length_append, List.length_append, hxs, src.1, zeroCells_len, hzs, ← Nat.add_mul, ← Nat.add_mul]
      congr 1
      show s.n + m + (grownCap w (s.n + m) old e - (s.n + m)) = grownCap w (s.n + m) old e
      omega
  refine .inl ?_
  rcases ac.a with ⟨rfl, rfl⟩ | ⟨b, hb, hnc, hcm, hjl⟩
  · -- from nil
    obtain rfl := ac.xs_nil
    rcases src.2 with ⟨a0, rfl, rfl⟩ | ⟨b2, o2, cap2, rfl, h1, h2, hc2⟩
    · have hn : news = [] := List.eq_nil_of_length_eq_zero (by simpa using src.1)
      subst hn
      refine ⟨SV.nil.v, w, h, _, ?_, hL ▸ st, ?_⟩
      · rw [hexec (.ok SV.nil.v w) (by cases a0 <;> simp [SV.nil, SV.v, Builtin.append_, run_underlying T.u, sizeOf, typeInfo, hi, Builtin.lenOf, Builtin.firstCells, loadCells, loadCellsFrom])]; rfl
      · have := q SV.nil [] rfl (Acc.nil _)
        simpa using this
    · by_cases hm : m = 0
      · subst hm
        have hn : news = [] := List.eq_nil_of_length_eq_zero (by simpa using src.1)
        subst hn
        refine ⟨SV.nil.v, w, h, _, ?_, hL ▸ st, ?_⟩
        · rw [hexec (.ok SV.nil.v w) (by simp [SV.nil, SV.v, Builtin.append_, run_underlying T.u, sizeOf, typeInfo, hi, Builtin.lenOf, Builtin.firstCells, loadCells, loadCellsFrom])]; rfl
        · have := q SV.nil [] rfl (Acc.nil _)
          simpa using this
      · refine newrow 0 ?_
        have hr := run_append_nil (P := P) w t ty e i z T.u hi hiz ⟨b2, o2, none⟩ m cap2 news src.1 (hc2.get st) (by omega) (by simp [SV.nil] at hmax; omega) (by simp only [SV.nil, Nat.zero_add] at hbound; omega)
        simpa [SV.nil, SV.v] using hr
  · obtain ⟨sa, sn, sc⟩ := s
    simp only at hb hnc hcm hjl hxs hbound hmax hml
    subst hb
    have hmem : (b, Obj.cells (xs ++ junk).toArray e) ∈ L := by rw [hL]; simp [accL]
    have hg := st.own _ hmem
    by_cases hroom : sn + m ≤ sc
    · -- in place
      rcases src.2 with ⟨a0, rfl, rfl⟩ | ⟨b2, o2, cap2, rfl, h1, h2, hc2⟩
      · have hn : news = [] := List.eq_nil_of_length_eq_zero (by simpa using src.1)
        subst hn
        refine ⟨.slice (some ⟨b, 0, none⟩) sn sc, w, h, _, ?_, hL ▸ st, ?_⟩
        · rw [hexec (.ok (.slice (some ⟨b, 0, none⟩) sn sc) w) (by
            cases a0 <;> simp [SV.v, Builtin.append_, run_underlying T.u, sizeOf, typeInfo, hi, Builtin.lenOf, Builtin.firstCells, hnc, storeCells, loadCells, loadCellsFrom])]; rfl
        · have := q ⟨some ⟨b, 0, none⟩, sn, sc⟩ junk rfl (by simpa using ac)
          simpa [SV.v] using this
      · have hfit : sn * i.size + news.length ≤ (xs ++ junk).toArray.size := by
          rw [src.1, List.size_toArray, hjl, ← Nat.add_mul]; exact Nat.mul_le_mul_right _ hroom
        have hr := run_append_room (P := P) w t ty e i T.u hi b sn sc (xs ++ junk).toArray hg ⟨b2, o2, none⟩ m cap2 news src.1 (hc2.get st) ones hroom hfit
        have hcells : ((xs ++ junk).toArray.toList.take (sn * i.size) ++ news ++ (xs ++ junk).toArray.toList.drop (sn * i.size + news.length)) = (xs ++ news) ++ junk.drop news.length := by
          simp only [← hxs]
          rw [show ∀ k, (xs ++ junk).drop (xs.length + k) = junk.drop k from fun k => by rw [← List.drop_drop]; simp]
          simp
        refine ⟨_, _, h, _, by rw [hexec _ hr]; rfl, ?_, q ⟨some ⟨b, 0, none⟩, sn + m, sc⟩ (junk.drop news.length) rfl ?_⟩
        · simp only [accL, List.singleton_append, hcells]
          exact Sat.setRow st (by rw [hL]; exact Put.head)
        · refine ⟨by rw [List.length_append, hxs, src.1]; exact (Nat.add_mul _ _ _).symm, .inr ⟨b, rfl, hroom, hcm, ?_⟩⟩
          have : news.length ≤ junk.length := by
            have h3 : xs.length + junk.length = sc * i.size := by simpa using hjl
            have h4 : (sn + m) * i.size ≤ sc * i.size := Nat.mul_le_mul_right _ hroom
            rw [Nat.add_mul] at h4
            have := src.1
            omega
          simp only [List.length_append, List.length_drop] at hjl ⊢
          omega
    · -- a new row
      refine newrow sc ?_
      rcases src.2 with ⟨a0, rfl, rfl⟩ | ⟨b2, o2, cap2, rfl, h1, h2, hc2⟩
      · omega
      · have hold : ∀ j u, xs[j]? = some u → w.cell? ((⟨b, 0, none⟩ : Addr).add j) = some u := by
          intro j u hu
          rw [Addr.add_lit, Nat.zero_add, cell_of_row w b j _ e (0, 0) hg]
          have hj := (List.getElem?_eq_some_iff.1 hu).1
          simp [List.getElem?_append_left hj, hu]
        exact run_append_grow (P := P) w t ty e i z T.u hi hiz ⟨b, 0, none⟩ sn sc xs hxs hold ⟨b2, o2, none⟩ m cap2 news src.1 (hc2.get st) (by omega) (by omega) (growslice_fits (by omega) hbound)
end
end Go.Bz
