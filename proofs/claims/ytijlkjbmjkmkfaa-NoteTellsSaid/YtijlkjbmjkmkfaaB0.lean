/-
  The logic of this claim's walks, over any program: frames as functions from slots to values, and a symbolic heap
  (a part that only grows, and blocks that the running function owns). Conditions: none; nothing here is assumed.
-/
import Derived.WalkKit
namespace Go.Bz

/-! ### Frames -/
abbrev Fr := Nat → Value
def upd (f : Fr) (d : Nat) (v : Value) : Fr := fun i => if i = d then v else f i
def evo (f : Fr) : Operand → Value
  | .tmp t => f t
  | .const v => v
  | .global g => .pointer (some ⟨g, 0, none⟩)
  | .func k => .func (.func k) #[] #[]
theorem upd_same (f : Fr) (d : Nat) (v : Value) : upd f d v d = v := by simp [upd]
theorem upd_other (f : Fr) (d : Nat) (v : Value) (i : Nat) (h : i ≠ d) : upd f d v i = f i := by simp [upd, h]
theorem upd_id {f : Fr} {d : Nat} {v : Value} (h : f d = v) : upd f d v = f := by
  funext i; unfold upd; split
  · rename_i e; rw [e, h]
  · rfl

structure Rel (n : Nat) (a : Act) (f : Fr) : Prop where
  size : a.tmps.size = n
  defers : a.defers = []
  get : ∀ i, a.tmps.getD i undef = f i

theorem Rel.eval {n : Nat} {a : Act} {f : Fr} (h : Rel n a f) : a.eval = evo f := by
  funext x; cases x <;> simp [Act.eval, evo]
  simpa using h.get _

theorem Rel.put {n : Nat} {a : Act} {f : Fr} (h : Rel n a f) {d : Nat} (hd : d < n) (v : Value) : Rel n (a.put (some d) v) (upd f d v) := by
  refine ⟨by simp [Act.put, h.size], by simp [Act.put, h.defers], fun i => ?_⟩
  have hs := h.size
  have hg := h.get i
  simp only [Act.put, upd]
  by_cases hi : i = d
  · subst hi; simp [hs, hd]
  · rw [if_neg hi, ← hg]
    simp [Ne.symm hi]

theorem Rel.yielded {n : Nat} {a : Act} {f : Fr} (h : Rel n a f) {ops : Array Oper} {j dj : Nat} (hj : (ops[j]?).bind (·.dst) = some dj) (hn : dj < n) :
    yielded ops a.tmps j = match f dj with | .bool b => some b | _ => none := by
  have hg := h.get dj
  have hs := h.size
  unfold Go.yielded
  rw [hj]
  have : a.tmps[dj]? = some (f dj) := by
    rw [← hg]; simp [hs, hn]
  simp only [Option.bind_some, this]
  cases f dj <;> rfl

/-! ### One operation behind the other -/
def WL (P : Program) (n : Nat) (ops : Array Oper) (K : Fr → World → Prop) (l : List Oper) (f : Fr) (w : World) : Prop :=
  ∀ Q : Exit → Act → World → Prop, (∀ a f w, Rel n a f → K f w → Q .normal a w) → ∀ a, Rel n a f → wpList P ops Q l a w

section
variable {P : Program} {n : Nat} {ops : Array Oper} {K : Fr → World → Prop} {rest : List Oper} {f : Fr} {w : World}

theorem WL.nil (h : K f w) : WL P n ops K [] f w := fun _ hQ a hr => hQ a f w hr h

theorem wpList_run {Q : Exit → Act → World → Prop} {a : Act} {o : Oper} (hg : Region.wanted o (yielded ops a.tmps) = true)
    (h : o.wp P a w (wpList P ops Q rest) Q) : wpList P ops Q (o :: rest) a w := by
  unfold wpList; rw [if_pos hg]; exact .inl h

/-- An operation without a guard that yields a value. -/
theorem WL.op {d : Nat} {op : Op} {ty : TypeId} {pos : String} {af : Array Edge} {v : Value} {w' : World}
    (hrun : (execOp (evo f) ⟨some d, op, ty, pos, af, none⟩).run P w = .ok (.value v) w') (hd : d < n)
    (h : WL P n ops K rest (upd f d v) w') : WL P n ops K (⟨some d, op, ty, pos, af, none⟩ :: rest) f w := by
  intro Q hQ a hr
  refine wpList_run (by simp [Region.wanted]) ?_
  unfold Oper.wp
  rw [hr.eval, hrun]
  exact h Q hQ _ (hr.put hd v)

/-- An operation without a guard and without a slot of its own. -/
theorem WL.op0 {op : Op} {ty : TypeId} {pos : String} {af : Array Edge} {w' : World}
    (hrun : (execOp (evo f) ⟨none, op, ty, pos, af, none⟩).run P w = .ok .skip w')
    (h : WL P n ops K rest f w') : WL P n ops K (⟨none, op, ty, pos, af, none⟩ :: rest) f w := by
  intro Q hQ a hr
  refine wpList_run (by simp [Region.wanted]) ?_
  unfold Oper.wp
  rw [hr.eval, hrun]
  exact h Q hQ _ hr

/-- A guard that says yes: the operation stands as one without a guard. -/
theorem WL.guard_yes {dst : Option Nat} {op : Op} {ty : TypeId} {pos : String} {af : Array Edge} {j : Nat} {t : Bool} {dj : Nat}
    (hj : (ops[j]?).bind (·.dst) = some dj) (hn : dj < n) (hv : f dj = .bool t)
    (h : WL P n ops K (⟨dst, op, ty, pos, af, none⟩ :: rest) f w) : WL P n ops K (⟨dst, op, ty, pos, af, some (j, t)⟩ :: rest) f w := by
  intro Q hQ a hr
  have h1 := h Q hQ a hr
  unfold wpList at h1 ⊢
  rw [if_pos (by simp [Region.wanted])] at h1
  rw [if_pos (by simp [Region.wanted, hr.yielded hj hn, hv])]
  rcases h1 with h1 | ⟨h1, h2⟩
  · exact .inl h1
  · exact .inr ⟨h1, h2⟩

/-- A guard that says no. -/
theorem WL.guard_no {d : Nat} {op : Op} {ty : TypeId} {pos : String} {af : Array Edge} {j : Nat} {t : Bool} {dj : Nat}
    (hj : (ops[j]?).bind (·.dst) = some dj) (hn : dj < n) (hv : f dj = .bool (!t)) (hd : d < n)
    (h : WL P n ops K rest (upd f d undef) w) : WL P n ops K (⟨some d, op, ty, pos, af, some (j, t)⟩ :: rest) f w := by
  intro Q hQ a hr
  unfold wpList
  rw [if_neg (by cases t <;> simp [Region.wanted, hr.yielded hj hn, hv])]
  exact h Q hQ _ (hr.put hd _)

/-- A call of a Go function, by what is known of it. -/
theorem WL.call {d : Nat} {c : Call} {ty : TypeId} {pos : String} {af : Array Edge} {k : FuncId} {args : Array Value} {R : Ending → World → Prop}
    (hrun : (execOp (evo f) ⟨some d, .call c, ty, pos, af, none⟩).run P w = .ok (.enter k args) w) (hd : d < n)
    (hc : Calls P k args w R) (h : ∀ e w', R e w' → ∃ v, e = .returned v ∧ WL P n ops K rest (upd f d v) w') :
    WL P n ops K (⟨some d, .call c, ty, pos, af, none⟩ :: rest) f w := by
  intro Q hQ a hr
  refine wpList_run (by simp [Region.wanted]) ?_
  unfold Oper.wp
  rw [hr.eval, hrun]
  refine Calls.mono hc fun e w' he => ?_
  obtain ⟨v, rfl, hw⟩ := h e w' he
  exact hw Q hQ _ (hr.put hd v)
end

/-! ### Code -/
def WC (P : Program) (n : Nat) (c : Code) (K : Fr → World → Prop) (X : Nat → Fr → World → Prop) (R : Fr → World → Prop) (f : Fr) (w : World) : Prop :=
  ∀ Q : Exit → Act → World → Prop, (∀ a f w, Rel n a f → K f w → Q .normal a w) → (∀ i a f w, Rel n a f → X i f w → Q (.exit i) a w) →
    (∀ a f w, Rel n a f → R f w → Q .ret a w) → ∀ a, Rel n a f → c.wp P Q a w

section
variable {P : Program} {n : Nat} {K : Fr → World → Prop} {X : Nat → Fr → World → Prop} {R : Fr → World → Prop} {f : Fr} {w : World}

theorem WC.skip (h : K f w) : WC P n .skip K X R f w := fun _ hK _ _ a hr => wp_skip (hK a f w hr h)
theorem WC.ret (h : R f w) : WC P n .ret K X R f w := fun _ _ _ hR a hr => wp_ret (hR a f w hr h)
theorem WC.exit {i : Nat} (h : X i f w) : WC P n (.exit i) K X R f w := fun _ _ hX _ a hr => wp_exit (hX i a f w hr h)
theorem WC.seq {x y : Code} (h : WC P n x (WC P n y K X R) X R f w) : WC P n (.seq x y) K X R f w := by
  intro Q hK hX hR a hr
  refine wp_seq (h _ (fun a f w hr hy => ?_) (fun i a f w hr hx => ?_) (fun a f w hr hx => ?_) a hr)
  · exact hy Q hK hX hR a hr
  · exact hX i a f w hr hx
  · exact hR a f w hr hx
theorem WC.cond {c : Operand} {x y : Code} {t : Bool} (hc : evo f c = .bool t) (h1 : t = true → WC P n x K X R f w) (h2 : t = false → WC P n y K X R f w) :
    WC P n (.cond c x y) K X R f w := by
  intro Q hK hX hR a hr
  refine wp_cond_split (t := t) (by rw [hr.eval, hc]) (fun e => h1 e Q hK hX hR a hr) (fun e => h2 e Q hK hX hR a hr)
theorem WC.block {i : Nat} {c : Code} (h : WC P n c K (fun j f w => if j = i then K f w else X j f w) R f w) : WC P n (.block i c) K X R f w := by
  intro Q hK hX hR a hr
  refine wp_block (h _ (fun a f w hr hk => ?_) (fun j a f w hr hx => ?_) (fun a f w hr hx => ?_) a hr)
  · exact hK a f w hr hk
  · simp only [Exit.inBlock] at hx ⊢
    by_cases e : j = i
    · rw [if_pos e] at hx ⊢; exact hK a f w hr hx
    · rw [if_neg e] at hx ⊢; exact hX j a f w hr hx
  · exact hR a f w hr hx
theorem WC.loop {c : Code} (I : Fr → World → Prop) (μ : Fr → World → Nat) (h0 : I f w)
    (hI : ∀ f w, I f w → WC P n c (fun f' w' => I f' w' ∧ μ f' w' < μ f w) X R f w) : WC P n (.loop c) K X R f w := by
  intro Q hK hX hR a hr
  refine wp_loop (fun a w => ∃ f, Rel n a f ∧ I f w) (fun a w => μ (fun i => a.tmps.getD i undef) w) ⟨f, hr, h0⟩ ?_
  rintro a w ⟨f, hr, hi⟩
  have ef : ∀ {a : Act} {f : Fr}, Rel n a f → (fun i => a.tmps.getD i undef) = f := fun h => funext h.get
  refine hI f w hi _ (fun a' f' w' hr' hk => ?_) (fun j a f w hr hx => ?_) (fun a f w hr hx => ?_) a hr
  · simp only [Exit.then]
    refine ⟨⟨f', hr', hk.1⟩, ?_⟩
    rw [ef hr', ef hr]; exact hk.2
  · exact hX j a f w hr hx
  · exact hR a f w hr hx
theorem WC.region {id : Nat} {ops : Array Oper} (h : WL P n ops K ops.toList f w) : WC P n (.region id ops false) K X R f w :=
  fun Q hK _ _ a hr => wp_region_list (h Q hK a hr)
theorem WC.region_draw {id : Nat} {ops : Array Oper} (hm : P.follows .mixedOrders = true)
    (h : ∀ Q : Exit → Act → World → Prop, (∀ a f w, Rel n a f → K f w → Q .normal a w) → ∀ a, Rel n a f →
      wpAny P .any ops Q ops.size (Array.replicate ops.size false) a { w with drawn := w.drawn + 1 }) : WC P n (.region id ops true) K X R f w :=
  fun Q hK _ _ a hr => wp_region_any hm (h Q hK a hr)
theorem WC.mono {c : Code} {K' : Fr → World → Prop} {X' : Nat → Fr → World → Prop} {R' : Fr → World → Prop} (h : WC P n c K X R f w)
    (hK : ∀ f w, K f w → K' f w) (hX : ∀ i f w, X i f w → X' i f w) (hR : ∀ f w, R f w → R' f w) : WC P n c K' X' R' f w :=
  fun Q qK qX qR a hr => h Q (fun a f w hr h => qK a f w hr (hK f w h)) (fun i a f w hr h => qX i a f w hr (hX i f w h)) (fun a f w hr h => qR a f w hr (hR f w h)) a hr

/-- A Go function, entered. -/
theorem calls_enter {k : FuncId} {fn : Func} {c : Code} {args : Array Value} {S : Ending → World → Prop} (hf : P.funcs[k]? = some fn) (hb : fn.body = some c) (hn : fn.ntmps = n)
    (ha : args.size ≤ n)
    (h : WC P n c (fun f w => ∀ a, Rel n a f → ∃ v, (results fn a.tmps).run P w = .ok v w ∧ S (.returned v) w) (fun _ _ _ => False)
      (fun f w => ∀ a, Rel n a f → ∃ v, (results fn a.tmps).run P w = .ok v w ∧ S (.returned v) w) (fun i => args.getD i undef) w) : Calls P k args w S := by
  refine calls_of_wp hf hb (h _ (fun a f w hr hk => ?_) (fun i a f w hr hx => hx.elim) (fun a f w hr hk => ?_) _ ⟨?_, rfl, fun i => ?_⟩)
  · exact ⟨hr.defers, hk a hr⟩
  · exact ⟨hr.defers, hk a hr⟩
  · simp [hn]; omega
  · simp only [Array.getD_eq_getD_getElem?, Array.getElem?_append, Array.getElem?_replicate]
    split
    · rfl
    · rename_i hi
      rw [Array.getElem?_eq_none (by omega)]
      split <;> rfl
end
end Go.Bz
