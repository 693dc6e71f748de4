/-
  Regions whose order is left open: one plan serves every order, where what only reads is stable while the rest runs.
  Conditions: those that each theorem names.
-/
import Derived.Test.YtijlkjbmjkmkfaaB3
namespace Go.Bz

def Region.direct (ops : Array Oper) (j i : Nat) : Bool := match ops[j]? with
  | some o => o.after.any fun e => Region.binds .any e && e.on == i
  | none => false

/-- No operation of the list has run yet. -/
def armed (late : List Nat) (listed : Array Bool) : Bool := late.all fun l => !(listed.getD l false)
theorem armed_set {late : List Nat} {listed : Array Bool} {j : Nat} (h : late.contains j = false) : armed late (listed.setIfInBounds j true) = armed late listed := by
  unfold armed
  rw [Bool.eq_iff_iff, List.all_eq_true, List.all_eq_true]
  refine forall_congr' fun l => forall_congr' fun hl => ?_
  rw [getD_set_ne false (fun e => by subst e; simp_all)]

section
variable (P : Program) (ops : Array Oper) (Q : Exit → Act → World → Prop) (C : World → Prop) (late : List Nat)
def wpAnyC : Nat → Array Bool → Act → World → Prop
  | 0, listed, a, w => Region.ready .any ops listed = [] ∧ Q .normal a w
  | fuel + 1, listed, a, w =>
    (Region.ready .any ops listed = [] → Q .normal a w) ∧
    ∀ j ∈ Region.ready .any ops listed, wpOp P ops Q j (fun a' w' => (armed late (listed.setIfInBounds j true) = true → C w') ∧ wpAnyC fuel (listed.setIfInBounds j true) a' w') a w
end
section
variable {P : Program} {ops : Array Oper} {Q : Exit → Act → World → Prop} {C : World → Prop} {late : List Nat}

theorem wpAnyC_any : ∀ (fuel : Nat) (listed : Array Bool) (a : Act) (w : World), wpAnyC P ops Q C late fuel listed a w → wpAny P .any ops Q fuel listed a w
  | 0, _, _, _, h => h
  | _ + 1, _, _, _, h => ⟨h.1, fun j hj => wpOp_mono (fun a' w' hk => wpAnyC_any _ _ a' w' hk.2) (h.2 j hj)⟩

theorem Oper.wp_imp {o : Oper} {a : Act} {w : World} {K : Act → World → Prop} {Q' : Exit → Act → World → Prop} (h : ∀ e a w, Q e a w → Q' e a w)
    (hh : o.wp P a w K Q) : o.wp P a w K Q' := by
  unfold Oper.wp at *
  generalize (execOp a.eval o).run P w = r at *
  cases r with
  | ok n w' =>
    cases n with
    | enter f args => exact Calls.mono hh (fun e w'' he => by
        cases e with
        | returned v => exact he
        | panicked c => exact h _ _ _ he
        | outgrown => exact ⟨he.choose, he.choose_spec.choose, h _ _ _ he.choose_spec.choose_spec⟩)
    | _ => exact hh
  | halt x w' =>
    cases x with
    | panic v => exact h _ _ _ hh
    | _ => exact hh

theorem wpAny_imp {Q' : Exit → Act → World → Prop} (h : ∀ e a w, Q e a w → Q' e a w) : ∀ (fuel : Nat) (listed : Array Bool) (a : Act) (w : World), wpAny P .any ops Q fuel listed a w → wpAny P .any ops Q' fuel listed a w
  | 0, _, _, _, hh => ⟨hh.1, h _ _ _ hh.2⟩
  | fuel + 1, listed, a, w, hh => ⟨fun e => h _ _ _ (hh.1 e), fun j hj => by
      have h1 := hh.2 j hj
      have h2 : wpOp P ops Q j (wpAny P .any ops Q' fuel (listed.setIfInBounds j true)) a w := wpOp_mono (fun a' w' => wpAny_imp h _ _ a' w') h1
      unfold wpOp at h2 ⊢
      split at h2
      · exact h2
      · rename_i o e
        split at h2
        · rename_i hw
          rw [if_pos hw]
          rcases h2 with h2 | ⟨h2, a0, w0, h3⟩
          · exact .inl (Oper.wp_imp h h2)
          · exact .inr ⟨h2, a0, w0, h _ _ _ h3⟩
        · rename_i hw; rw [if_neg hw]; exact h2⟩

/-- In every world of C the operation yields v; or its guard says no. -/
def YieldsC (P : Program) (ops : Array Oper) (C : World → Prop) (o : Oper) (v : Value) (a : Act) : Prop :=
  (Region.wanted o (yielded ops a.tmps) = true ∧ ∀ w, C w → (execOp a.eval o).run P w = .ok (.value v) w) ∨
  (Region.wanted o (yielded ops a.tmps) = false ∧ v = undef)

theorem YieldsC.of_same {o : Oper} {v : Value} {a a' : Act} (hy : YieldsC P ops C o v a) (he : execOp a'.eval o = execOp a.eval o)
    (hw : Region.wanted o (yielded ops a'.tmps) = Region.wanted o (yielded ops a.tmps)) : YieldsC P ops C o v a' := by
  unfold YieldsC at *
  rw [he, hw]
  exact hy
theorem YieldsC.wpOp {i : Nat} {o : Oper} {v : Value} {a : Act} (hi : ops[i]? = some o) (hy : YieldsC P ops C o v a)
    {K : Act → World → Prop} {w : World} (hC : C w) (h : K (a.put o.dst v) w) : wpOp P ops Q i K a w := by
  unfold Go.wpOp
  simp only [hi]
  rcases hy with ⟨hw, hv⟩ | ⟨hw, rfl⟩
  · simp only [hw, if_true, Oper.wp, hv w hC, Oper.upon]; exact .inl h
  · simp only [hw, Bool.false_eq_true, if_false]; exact h

theorem wpOp_putC {j : Nat} {oi oj : Oper} {v : Value} (hj : ops[j]? = some oj) (hap : oi.apart ops oj = true)
    (hsi : ∀ cs b, oi.op ≠ .select cs b) (hsj : ∀ cs b, oj.op ≠ .select cs b)
    (hQ : ∀ c a w, Q (.panic c) (a.put oi.dst v) w → Q (.panic c) a w) {K : Act → World → Prop} {a : Act} {w : World}
    (hy : YieldsC P ops C oi v a) (h : wpOp P ops Q j K (a.put oi.dst v) w) :
    wpOp P ops Q j (fun a' w' => YieldsC P ops C oi v a' ∧ K (a'.put oi.dst v) w') a w := by
  obtain ⟨h1, h2, h3⟩ := Oper.apart_spec hap
  have keep : ∀ (a : Act), YieldsC P ops C oi v a → ∀ u, YieldsC P ops C oi v (a.put oj.dst u) := fun a hy u =>
    hy.of_same (execOp_put oi hsi a oj.dst u h3) (wanted_put oi a oj.dst u h3)
  have keepD : ∀ d, YieldsC P ops C oi v { a with defers := d :: a.defers } := fun d => hy.of_same rfl rfl
  unfold wpOp at *
  simp only [hj] at *
  rw [wanted_put oj a oi.dst v h1] at h
  split
  · rename_i hw
    simp only [hw, if_true] at h
    rcases h with h | ⟨hasks, hlets⟩
    case inr => exact .inr ⟨by unfold Oper.asks at *; rw [execOp_put oj hsj a oi.dst v h1] at hasks; exact hasks, hlets⟩
    refine .inl ?_
    unfold Oper.wp at *
    rw [execOp_put oj hsj a oi.dst v h1] at h
    generalize (execOp a.eval oj).run P w = r at *
    cases r with
    | ok n w' =>
      cases n <;> simp only [Oper.upon] at h ⊢
      case value u => exact ⟨keep a hy u, by rw [← Act.put_comm a v u h2]; exact h⟩
      case skip => exact ⟨keep a hy _, by rw [← Act.put_comm a v undef h2]; exact h⟩
      case defer d =>
        refine ⟨keep _ (keepD d) _, ?_⟩
        rw [← Act.put_comm _ v undef h2, ← Act.put_defers]
        exact h
      case enter f args =>
        refine Calls.mono h fun e w'' he => ?_
        cases e with
        | returned u => exact ⟨keep a hy u, by rw [← Act.put_comm a v u h2]; exact he⟩
        | panicked c => exact hQ _ _ _ he
        | outgrown => exact he
      case row row args => exact Rows.mono h fun u w'' he => ⟨keep a hy u, by rw [← Act.put_comm a v u h2]; exact he⟩
    | halt x w' =>
      cases x <;> simp only [Oper.upon] at h ⊢
      case panic u => exact hQ _ _ _ h
  · rename_i hw
    simp only [hw] at h
    exact ⟨keep a hy _, by rw [← Act.put_comm a v undef h2]; exact h⟩

theorem wpAnyC_first {i : Nat} {oi : Oper} {v : Value} (hi : ops[i]? = some oi) (hsel : ∀ (j : Nat) (o : Oper) cs b, ops[j]? = some o → o.op ≠ .select cs b)
    (hQ : ∀ c a w, Q (.panic c) (a.put oi.dst v) w → Q (.panic c) a w) (hi' : late.contains i = false) (ar : Bool) :
    ∀ (fuel : Nat) (listed : Array Bool) (a : Act) (w : World), armed late listed = ar →
      (∀ j, late.contains j = true → listed.getD j true = false → Region.direct ops j i = true) →
      (∀ j oj, ops[j]? = some oj → j ≠ i → listed.getD j true = false → (∀ e ∈ oj.after, Region.binds .any e = true → e.on ≠ i) → oi.apart ops oj = true) →
      i ∈ Region.ready .any ops listed → YieldsC P ops (fun w => ar = true → C w) oi v a → (ar = true → C w) →
      wpAnyC P ops Q C late fuel (listed.setIfInBounds i true) (a.put oi.dst v) w → wpAnyC P ops Q C late (fuel + 1) listed a w := by
  intro fuel
  induction fuel with
  | zero =>
    intro listed a w har _ _ hr hy hC H
    refine ⟨fun h => (by rw [h] at hr; cases hr), fun j hj => ?_⟩
    by_cases hji : j = i
    · subst hji; exact hy.wpOp hi hC ⟨fun h => hC (by rw [armed_set hi', har] at h; exact h), H⟩
    · have := ready_mono hj hji
      rw [H.1] at this
      cases this
  | succ fuel ih =>
    intro listed a w har hlate hfree hr hy hC H
    refine ⟨fun h => (by rw [h] at hr; cases hr), fun j hj => ?_⟩
    by_cases hji : j = i
    · subst hji; exact hy.wpOp hi hC ⟨fun h => hC (by rw [armed_set hi', har] at h; exact h), H⟩
    · have h1 := H.2 j (ready_mono hj hji)
      obtain ⟨hjun, oj, hoj, hall⟩ := mem_ready.1 hj
      have hnot : ∀ e ∈ oj.after, Region.binds .any e = true → e.on ≠ i := fun e he hb heq => by
        have h1 := hall e he hb
        have h0 := (mem_ready.1 hr).1
        rw [heq] at h1
        rcases Nat.lt_or_ge i listed.size with h' | h'
        · simp [h'] at h0 h1; rw [h0] at h1; cases h1
        · simp [Array.getElem?_eq_none h'] at h1
      have hnl : late.contains j = false := by
        cases hl : late.contains j with
        | false => rfl
        | true =>
          have hd := hlate j hl hjun
          simp only [Region.direct, hoj] at hd
          obtain ⟨e, he, hb⟩ := Array.any_eq_true'.1 hd
          simp only [Bool.and_eq_true, beq_iff_eq] at hb
          exact absurd hb.2 (hnot e he hb.1)
      have h2 := wpOp_putC hoj (hfree j oj hoj hji hjun hnot) (fun cs b => hsel i oi cs b hi) (fun cs b => hsel j oj cs b hoj) hQ hy h1
      have hfree' : ∀ k ok, ops[k]? = some ok → k ≠ i → (listed.setIfInBounds j true).getD k true = false →
          (∀ e ∈ ok.after, Region.binds .any e = true → e.on ≠ i) → oi.apart ops ok = true := fun k ok hk hki hun hno => by
        refine hfree k ok hk hki ?_ hno
        by_cases hjk : j = k
        · subst hjk; exact hjun
        · rw [getD_set_ne true hjk] at hun; exact hun
      have hlate' : ∀ k, late.contains k = true → (listed.setIfInBounds j true).getD k true = false → Region.direct ops k i = true := fun k hk hun => by
        refine hlate k hk ?_
        by_cases hjk : j = k
        · subst hjk; exact hjun
        · rw [getD_set_ne true hjk] at hun; exact hun
      refine wpOp_mono (fun a' w' h3 => ?_) h2
      have hCw : ar = true → C w' := fun h => h3.2.1 (by
        rw [Array.setIfInBounds_comm _ _ (Ne.symm hji)]
        rw [armed_set hi', armed_set hnl, har]; exact h)
      refine ⟨fun h => hCw (by rw [armed_set hnl, har] at h; exact h), ih (listed.setIfInBounds j true) a' w' ((armed_set hnl).trans har) hlate' hfree' (ready_mono hr (Ne.symm hji)) h3.1 hCw ?_⟩
      rw [Array.setIfInBounds_comm _ _ hji]
      exact h3.2.2
end

/-! ### Plans -/
/-- 0: the one operation that can go on; 1: one that reads memory, taken first; 2: one that leaves memory alone, taken first. -/
def planB (ops : Array Oper) (late : List Nat) : List (Nat × Nat) → Array Bool → Bool
  | [], listed => (Region.ready .any ops listed).isEmpty
  | (i, k) :: π, listed =>
    (if k = 0 then Region.ready .any ops listed == [i]
      else (Region.ready .any ops listed).contains i && Region.free .any ops listed i && !late.contains i && (k == 2 || armed late listed) && late.all (fun j => listed.getD j true || Region.direct ops j i)) &&
    planB ops late π (listed.setIfInBounds i true)

section
variable {P : Program} {n : Nat} {ops : Array Oper} {E : Env} {K : SP} {X : Nat → SP} {R : SP} {h0 : PH} {L0 : OL} {late : List Nat} {π : List (Nat × Nat)} {f : Fr} {h : PH} {L : OL}

theorem rd_nil (w : World) : Rd PH.nil [] w := ⟨fun _ _ e => (by cases e), fun _ e => (by cases e)⟩
/-- What is left of a plan. -/
def WPl (P : Program) (n : Nat) (ops : Array Oper) (E : Env) (K : SP) (h0 : PH) (L0 : OL) (late : List Nat) (π : List (Nat × Nat)) (f : Fr) (h : PH) (L : OL) : Prop :=
  Region.noSelect ops = true → ∀ listed fuel, planB ops late π listed = true → π.length ≤ fuel → ∀ w, Sat E h L w → (armed late listed = true → Rd h0 L0 w) → ∀ Q : Exit → Act → World → Prop, (∀ c a w, Q (.panic c) a w → False) →
    (∀ a f w, Rel n a f → lift E K f w → Q .normal a w) → ∀ a, Rel n a f → wpAnyC P ops Q (Rd h0 L0) late fuel listed a w

theorem WPl.nil (k : K f h L) : WPl P n ops E K h0 L0 late [] f h L := by
  intro hs listed fuel hp _ w s _ Q _ hQ a hr
  have hp : Region.ready .any ops listed = [] := by simpa [planB] using hp
  cases fuel with
  | zero => exact ⟨hp, hQ a f w hr ⟨h, L, s, k⟩⟩
  | succ fuel => exact ⟨fun _ => hQ a f w hr ⟨h, L, s, k⟩, by rw [hp]; simp⟩

theorem WPl.gen {i k : Nat} {o : Oper} {d : Nat} {v : Value} (ho : ops[i]? = some o) (hdst : o.dst = some d) (hd : d < n) (hk : k = 1 ∨ k = 2)
    (hy : ∀ a, Rel n a f → ∀ D : World → Prop, (k = 1 → ∀ w, D w → Rd h0 L0 w) → YieldsC P ops D o v a) (c : WPl P n ops E K h0 L0 late π (upd f d v) h L) :
    WPl P n ops E K h0 L0 late ((i, k) :: π) f h L := by
  intro hs listed fuel hp hfu w s hC Q hnp hQ a hr
  have hk0 : k ≠ 0 := by omega
  simp only [planB, hk0, if_false, Bool.and_eq_true, Bool.not_eq_true', Bool.or_eq_true, beq_iff_eq] at hp
  obtain ⟨⟨⟨⟨⟨hready, hfree⟩, hnl⟩, hka⟩, hlate⟩, hrest⟩ := hp
  cases fuel with
  | zero => simp at hfu
  | succ fuel =>
    refine wpAnyC_first ho (Region.noSelect_spec hs) (fun c a w hq => (hnp c _ w hq).elim) hnl (armed late listed) fuel listed a w rfl (fun j hj hun => ?_) (Region.free_spec ho hfree) (by simpa using hready)
      (hy a hr _ (fun h1 w hD => hD ?_)) hC ?_
    · have := List.all_eq_true.1 hlate j (by simpa using hj)
      rw [hun] at this
      simpa using this
    · rcases hka with h2 | h2
      · omega
      · exact h2
    · rw [hdst]; exact c hs _ fuel hrest (by simpa using hfu) w s (fun h => hC (by rw [armed_set hnl] at h; exact h)) Q hnp hQ _ (hr.put hd v)

theorem WPl.rd {i : Nat} {d : Nat} {op : Op} {ty : TypeId} {pos : String} {af : Array Edge} {v : Value} (ho : ops[i]? = some ⟨some d, op, ty, pos, af, none⟩) (y : Yld P f h0 L0 op ty v)
    (c : WPl P n ops E K h0 L0 late π (upd f d v) h L) (hd : d < n := by decide) : WPl P n ops E K h0 L0 late ((i, 1) :: π) f h L :=
  WPl.gen ho rfl hd (.inl rfl) (fun a hr D hD => .inl ⟨by simp [Region.wanted], fun w c => by rw [hr.eval, execOp_bare]; exact y w (hD rfl w c)⟩) c
theorem WPl.wl {i : Nat} {d : Nat} {op : Op} {ty : TypeId} {pos : String} {af : Array Edge} {v : Value} (ho : ops[i]? = some ⟨some d, op, ty, pos, af, none⟩) (y : Yld P f PH.nil [] op ty v)
    (c : WPl P n ops E K h0 L0 late π (upd f d v) h L) (hd : d < n := by decide) : WPl P n ops E K h0 L0 late ((i, 2) :: π) f h L :=
  WPl.gen ho rfl hd (.inr rfl) (fun a hr _ _ => .inl ⟨by simp [Region.wanted], fun w _ => by rw [hr.eval, execOp_bare]; exact y w (rd_nil w)⟩) c
theorem WPl.rd_yes {i : Nat} {d : Nat} {op : Op} {ty : TypeId} {pos : String} {af : Array Edge} {v : Value} {j dj : Nat} {t : Bool} (ho : ops[i]? = some ⟨some d, op, ty, pos, af, some (j, t)⟩)
    (hj : (ops[j]?).bind (·.dst) = some dj) (hv : f dj = .bool t) (y : Yld P f h0 L0 op ty v)
    (c : WPl P n ops E K h0 L0 late π (upd f d v) h L) (hd : d < n := by decide) (hn : dj < n := by decide) : WPl P n ops E K h0 L0 late ((i, 1) :: π) f h L :=
  WPl.gen ho rfl hd (.inl rfl) (fun a hr D hD => .inl ⟨by simp [Region.wanted, hr.yielded hj hn, hv], fun w c => by rw [hr.eval, execOp_bare]; exact y w (hD rfl w c)⟩) c
theorem WPl.wl_yes {i : Nat} {d : Nat} {op : Op} {ty : TypeId} {pos : String} {af : Array Edge} {v : Value} {j dj : Nat} {t : Bool} (ho : ops[i]? = some ⟨some d, op, ty, pos, af, some (j, t)⟩)
    (hj : (ops[j]?).bind (·.dst) = some dj) (hv : f dj = .bool t) (y : Yld P f PH.nil [] op ty v)
    (c : WPl P n ops E K h0 L0 late π (upd f d v) h L) (hd : d < n := by decide) (hn : dj < n := by decide) : WPl P n ops E K h0 L0 late ((i, 2) :: π) f h L :=
  WPl.gen ho rfl hd (.inr rfl) (fun a hr _ _ => .inl ⟨by simp [Region.wanted, hr.yielded hj hn, hv], fun w _ => by rw [hr.eval, execOp_bare]; exact y w (rd_nil w)⟩) c
theorem WPl.no {i k : Nat} {d : Nat} {op : Op} {ty : TypeId} {pos : String} {af : Array Edge} {j dj : Nat} {t : Bool} (ho : ops[i]? = some ⟨some d, op, ty, pos, af, some (j, t)⟩) (hk : k = 1 ∨ k = 2)
    (hj : (ops[j]?).bind (·.dst) = some dj) (hv : f dj = .bool (!t))
    (c : WPl P n ops E K h0 L0 late π (upd f d undef) h L) (hd : d < n := by decide) (hn : dj < n := by decide) : WPl P n ops E K h0 L0 late ((i, k) :: π) f h L :=
  WPl.gen ho rfl hd hk (fun a hr _ _ => .inr ⟨by cases t <;> simp [Region.wanted, hr.yielded hj hn, hv], rfl⟩) c

theorem WPl.chn_gen {i : Nat} {d : Option Nat} {op : Op} {ty : TypeId} {pos : String} {af : Array Edge} {g : Option (Nat × Bool)} (ho : ops[i]? = some ⟨d, op, ty, pos, af, g⟩)
    (hg : ∀ a, Rel n a f → Region.wanted ⟨d, op, ty, pos, af, g⟩ (yielded ops a.tmps) = true) (hd : d.all (· < n) = true) (hsz : i < ops.size)
    (c : Chn P f E h L op ty fun v h' L' => (late.contains i = true ∨ (h0.le h' ∧ ∀ e ∈ L0, e ∈ L')) ∧ WPl P n ops E K h0 L0 late π (updo f d v) h' L') :
    WPl P n ops E K h0 L0 late ((i, 0) :: π) f h L := by
  intro hs listed fuel hp hfu w s hC Q hnp hQ a hr
  simp only [planB, if_true, Bool.and_eq_true, beq_iff_eq] at hp
  obtain ⟨hready, hrest⟩ := hp
  cases fuel with
  | zero => simp at hfu
  | succ fuel =>
    refine ⟨fun h0 => (by rw [hready] at h0; cases h0), fun j hj => ?_⟩
    have hun : listed.getD j true = false := (mem_ready.1 hj).1
    rw [hready] at hj
    obtain rfl : j = i := by simpa using hj
    have fin : ∀ v h' L' w', Sat E h' L' w' → ((late.contains j = true ∨ (h0.le h' ∧ ∀ e ∈ L0, e ∈ L')) ∧ WPl P n ops E K h0 L0 late π (updo f d v) h' L') →
        (armed late (listed.setIfInBounds j true) = true → Rd h0 L0 w') ∧ wpAnyC P ops Q (Rd h0 L0) late fuel (listed.setIfInBounds j true) (a.put d v) w' := by
      intro v h' L' w' s' ⟨k1, k3⟩
      have hRd : armed late (listed.setIfInBounds j true) = true → Rd h0 L0 w' := fun hl => by
        rcases k1 with k1 | ⟨k1, k1'⟩
        · have := List.all_eq_true.1 hl j (by simpa using k1)
          have hlt : j < listed.size := by
            rcases Nat.lt_or_ge j listed.size with h | h
            · exact h
            · simp [Array.getElem?_eq_none h] at hun
          simp [hlt] at this
        · exact ⟨fun b o e => s'.sub b o (k1 b o e), fun e he => s'.own e (k1' e he)⟩
      exact ⟨hRd, k3 hs _ fuel hrest (by simpa using hfu) w' s' hRd Q hnp hQ _ (hr.puto hd v)⟩
    unfold wpOp
    simp only [ho, hg a hr, if_true]
    refine .inl ?_
    unfold Oper.wp
    rw [hr.eval, execOp_bare]
    rcases c w s with ⟨v, w', h', L', hrun, s', k⟩ | ⟨w', h', L', hrun, s', k⟩ | ⟨kf, args, hrun, hc⟩
    · rw [hrun]; exact fin v h' L' w' s' k
    · rw [hrun]; exact fin undef h' L' w' s' k
    · rw [hrun]
      refine Calls.mono hc fun e w' ⟨v, h', L', he, s', k⟩ => ?_
      subst he
      exact fin v h' L' w' s' k
theorem WPl.chn {i : Nat} {d : Option Nat} {op : Op} {ty : TypeId} {pos : String} {af : Array Edge} (ho : ops[i]? = some ⟨d, op, ty, pos, af, none⟩)
    (c : Chn P f E h L op ty fun v h' L' => (late.contains i = true ∨ (h0.le h' ∧ ∀ e ∈ L0, e ∈ L')) ∧ WPl P n ops E K h0 L0 late π (updo f d v) h' L')
    (hd : d.all (· < n) = true := by decide) : WPl P n ops E K h0 L0 late ((i, 0) :: π) f h L :=
  WPl.chn_gen ho (fun _ _ => by simp [Region.wanted]) hd (Array.getElem?_eq_some_iff.1 ho).1 c
theorem WPl.chn_yes {i : Nat} {d : Option Nat} {op : Op} {ty : TypeId} {pos : String} {af : Array Edge} {j dj : Nat} {t : Bool} (ho : ops[i]? = some ⟨d, op, ty, pos, af, some (j, t)⟩)
    (hj : (ops[j]?).bind (·.dst) = some dj) (hv : f dj = .bool t)
    (c : Chn P f E h L op ty fun v h' L' => (late.contains i = true ∨ (h0.le h' ∧ ∀ e ∈ L0, e ∈ L')) ∧ WPl P n ops E K h0 L0 late π (updo f d v) h' L')
    (hd : d.all (· < n) = true := by decide) (hn : dj < n := by decide) : WPl P n ops E K h0 L0 late ((i, 0) :: π) f h L :=
  WPl.chn_gen ho (fun _ hr => by simp [Region.wanted, hr.yielded hj hn, hv]) hd (Array.getElem?_eq_some_iff.1 ho).1 c

/-- A region that draws its order, by a plan. L0: what is owned, and read, and not written before the operations of 'late'. -/
theorem WS.draw {id : Nat} (late : List Nat) (π : List (Nat × Nat)) (L0 : OL) (hm : P.follows .mixedOrders = true) (hp : (Region.noSelect ops && planB ops late π (Array.replicate ops.size false)) = true) (hlen : π.length ≤ ops.size)
    (hL : ∀ e ∈ L0, e ∈ L) (k : WPl P n ops E K h L0 late π f h L) : WS P n E (.region id ops true) K X R f h L := by
  intro w s
  refine WC.region_draw hm fun Q hQ a hr => ?_
  let Q' : Exit → Act → World → Prop := fun e a w => match e with | .panic _ => False | e => Q e a w
  rw [Bool.and_eq_true] at hp
  have h1 := k hp.1 (Array.replicate ops.size false) ops.size hp.2 hlen { w with drawn := w.drawn + 1 } (s.drew _) (fun _ => ⟨s.sub, fun e he => s.own e (hL e he)⟩) Q' (fun _ _ _ h => h) (fun a f w hr hk => hQ a f w hr hk) a hr
  have h2 := wpAnyC_any _ _ _ _ h1
  exact wpAny_imp (fun e a w h => by cases e <;> first | exact h | exact h.elim) _ _ _ _ h2
end
end Go.Bz
