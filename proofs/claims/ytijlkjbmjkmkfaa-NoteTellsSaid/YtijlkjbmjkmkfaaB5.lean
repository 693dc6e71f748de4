/-
  Entering a Go function, its results; blocks, cuts, guards. Conditions: those that each theorem names.
-/
import Derived.Test.YtijlkjbmjkmkfaaB4
namespace Go.Bz

def resOne (tmps : Array Value) : ResultVar → Sem Value
  | .tmp t => pure (tmps.getD t undef)
  | .cell a t => do loadVar t (← asAddr (tmps.getD a undef))
def RO (P : Program) (r : ResultVar) (f : Fr) (h : PH) (L : OL) (v : Value) : Prop :=
  ∀ (tmps : Array Value) w, (∀ i, tmps.getD i undef = f i) → Rd h L w → (resOne tmps r).run P w = .ok v w
def RV (P : Program) (rs : Array ResultVar) (f : Fr) (h : PH) (L : OL) (v : Value) : Prop :=
  ∀ (fn : Func) (tmps : Array Value) w, fn.results = rs → (∀ i, tmps.getD i undef = f i) → Rd h L w → (results fn tmps).run P w = .ok v w

section
variable {P : Program} {f : Fr} {h : PH} {L : OL}
theorem RO.tmp {t : Nat} {v : Value} (e : f t = v) : RO P (.tmp t) f h L v := fun tmps w ht _ => by simp only [resOne, ht, e]; rfl
theorem RO.cellN {a t b sz : Nat} [T : TI P t true sz] {vs : List Value} (e : f a = .pointer (some ⟨b, 0, none⟩)) (c : Cells h L b 0 vs) (hl : vs.length = sz) : RO P (.cell a t) f h L (.agg vs.toArray) := by
  intro tmps w ht s
  subst hl
  have := run_loadCells_list (P := P) w ⟨b, 0, none⟩ vs (c.rd s)
  simp only [resOne, ht, e]
  simp [asAddr, loadVar, run_isAgg, run_sizeOf, this]
theorem RO.cell1 {a t b : Nat} [T : TI P t false 1] {v : Value} (e : f a = .pointer (some ⟨b, 0, none⟩)) (c : Cells h L b 0 [v]) : RO P (.cell a t) f h L v := by
  intro tmps w ht s
  have := c.rd s 0 v rfl
  rw [Addr.add_lit] at this
  simp only [Nat.add_zero] at this
  simp only [resOne, ht, e]
  simp [asAddr, loadVar, run_isAgg, load, Sem.run, this]
theorem results_eq (fn : Func) (tmps : Array Value) : results fn tmps = (do let vs ← fn.results.mapM (resOne tmps); pure (if h : vs.size = 1 then vs[0] else .tuple vs)) := by
  unfold results
  congr 1
theorem RV.zero : RV P #[] f h L (.tuple #[]) := fun fn tmps w e _ _ => by rw [results_eq, e]; simp
theorem RV.one {r : ResultVar} {v : Value} (a : RO P r f h L v) : RV P #[r] f h L v := fun fn tmps w e ht s => by rw [results_eq, e]; simp [a tmps w ht s]
theorem RV.two {r1 r2 : ResultVar} {v1 v2 : Value} (a : RO P r1 f h L v1) (b : RO P r2 f h L v2) : RV P #[r1, r2] f h L (.tuple #[v1, v2]) := fun fn tmps w e ht s => by
  rw [results_eq, e]; simp [a tmps w ht s, b tmps w ht s]
theorem RV.three {r1 r2 r3 : ResultVar} {v1 v2 v3 : Value} (a : RO P r1 f h L v1) (b : RO P r2 f h L v2) (c : RO P r3 f h L v3) : RV P #[r1, r2, r3] f h L (.tuple #[v1, v2, v3]) := fun fn tmps w e ht s => by
  rw [results_eq, e]; simp [a tmps w ht s, b tmps w ht s, c tmps w ht s]
theorem RV.four {r1 r2 r3 r4 : ResultVar} {v1 v2 v3 v4 : Value} (a : RO P r1 f h L v1) (b : RO P r2 f h L v2) (c : RO P r3 f h L v3) (d : RO P r4 f h L v4) :
    RV P #[r1, r2, r3, r4] f h L (.tuple #[v1, v2, v3, v4]) := fun fn tmps w e ht s => by
  rw [results_eq, e]; simp [a tmps w ht s, b tmps w ht s, c tmps w ht s, d tmps w ht s]
end

/-- What the end of a function owes. -/
def FnEnd (P : Program) (rs : Array ResultVar) (R : Value → PH → OL → Prop) : SP := fun f h L => ∃ v L1 L2, L.Perm (L1 ++ L2) ∧ RV P rs f h L v ∧ R v h L1
/-- Nothing that is owned is handed back. -/
theorem FnEnd.mk0 {P : Program} {rs : Array ResultVar} {R : Value → PH → OL → Prop} {f : Fr} {h : PH} {L : OL} {v : Value} (r : RV P rs f h L v) (k : R v h []) : FnEnd P rs R f h L := ⟨v, [], L, by simp, r, k⟩
/-- L1 of what is owned is handed back. -/
theorem FnEnd.mk1 {P : Program} {rs : Array ResultVar} {R : Value → PH → OL → Prop} {f : Fr} {h : PH} {L : OL} {v : Value} (L1 L2 : OL) (p : L.Perm (L1 ++ L2)) (r : RV P rs f h L v) (k : R v h L1) : FnEnd P rs R f h L := ⟨v, L1, L2, p, r, k⟩
theorem FnEnd.mk {P : Program} {rs : Array ResultVar} {R : Value → PH → OL → Prop} {f : Fr} {h : PH} {L : OL} {v : Value} (r : RV P rs f h L v) (k : R v h L) : FnEnd P rs R f h L := ⟨v, L, [], by simp, r, k⟩

theorem Ct.enter {P : Program} {k : FuncId} {fn : Func} {c : Code} {args : Array Value} {h : PH} {L : OL} {R : Value → PH → OL → Prop} {n : Nat} {rs : Array ResultVar} (hf : P.funcs[k]? = some fn) (hb : fn.body = some c)
    (hn : fn.ntmps = n) (hrs : fn.results = rs) (ha : args.size ≤ n)
    (q : ∀ E : Env, E.h0 = h → WS P n E c (FnEnd P rs R) (fun _ _ _ _ => False) (FnEnd P rs R) (fun i => args.getD i undef) h L) : Ct P k args h L R := by
  intro w p
  have key : ∀ f w', lift ⟨w, h, L.map (·.1)⟩ (FnEnd P rs R) f w' → ∀ a, Rel n a f → ∃ v, (results fn a.tmps).run P w' = .ok v w' ∧ ∃ v' h' L', Ending.returned v = .returned v' ∧ Sat ⟨w, h, L.map (·.1)⟩ h' L' w' ∧ R v' h' L' := by
    rintro f w' ⟨h', L', s, v, L1, L2, hp, hrv, hR⟩ a hr
    exact ⟨v, hrv fn a.tmps w' hrs hr.get s.rd, v, h', L1, rfl, (s.perm hp).drop (List.sublist_append_left _ _), hR⟩
  refine calls_enter hf hb hn ha (((q ⟨w, h, L.map (·.1)⟩ rfl) w p.sat).mono key ?_ key)
  rintro i f w' ⟨_, _, _, hx⟩; exact hx.elim

section
variable {P : Program} {n : Nat} {E : Env} {K : SP} {X : Nat → SP} {R : SP} {f : Fr} {h : PH} {L : OL}
theorem WS.blk {i : Nat} {c : Code} (k : ∀ X' : Nat → SP, (∀ f h L, K f h L → X' i f h L) → (∀ j f h L, j ≠ i → X j f h L → X' j f h L) → WS P n E c K X' R f h L) : WS P n E (.block i c) K X R f h L :=
  WS.block (k _ (fun f h L hk => by simpa using hk) (fun j f h L hj hx => by simpa [hj] using hx))
/-- Behind x, J is all that is known. -/
theorem WS.cut {x y : Code} (J : SP) (h1 : WS P n E x J X R f h L) (h2 : ∀ f h L, E.h0.le h → J f h L → WS P n E y K X R f h L) : WS P n E (.seq x y) K X R f h L :=
  fun w s => WC.seq ((h1 w s).mono (fun _ _ ⟨_, _, s, k⟩ => h2 _ _ _ s.le k _ s) (fun _ _ _ h => h) (fun _ _ h => h))
theorem WS.region_lit {id : Nat} {l : List Oper} (k : WO P n l.toArray E K l f h L) : WS P n E (.region id l.toArray false) K X R f h L := WS.region (by simpa using k)
/-- What is owned may be put in another order, and let go. -/
theorem WS.perm {c : Code} {L' : OL} (p : L.Perm L') (k : WS P n E c K X R f h L') : WS P n E c K X R f h L := fun w s => k w (s.perm p)
theorem WS.drop {c : Code} {L' : OL} (p : L'.Sublist L) (k : WS P n E c K X R f h L') : WS P n E c K X R f h L := fun w s => k w (s.drop p)
/-- An own block from now on stays as it is. -/
theorem WS.freeze {c : Code} {b : Nat} {o : Obj} (k : h b = none → WS P n E c K X R f (h.add b o) L) : WS P n E c K X R f h ((b, o) :: L) :=
  fun w s => k (s.dis (b, o) (by simp)) w s.freeze
theorem WO.perm {ops : Array Oper} {l : List Oper} {L' : OL} (p : L.Perm L') (k : WO P n ops E K l f h L') : WO P n ops E K l f h L := fun w s => k w (s.perm p)
theorem WO.drop {ops : Array Oper} {l : List Oper} {L' : OL} (p : L'.Sublist L) (k : WO P n ops E K l f h L') : WO P n ops E K l f h L := fun w s => k w (s.drop p)
theorem WO.freeze {ops : Array Oper} {l : List Oper} {b : Nat} {o : Obj} (k : h b = none → WO P n ops E K l f (h.add b o) L) : WO P n ops E K l f h ((b, o) :: L) :=
  fun w s => k (s.dis (b, o) (by simp)) w s.freeze
end
end Go.Bz
