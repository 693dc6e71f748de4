/- Operations under guards whose outcome stays open; calls whose answer is told by their arguments alone. Conditions: none. -/
import Derived.Test.YtijlkjbmjkmkfaaS3
namespace Go.Bz

/-- v, if b; else what stands in a slot that was not reached. -/
def cv (b : Bool) (v : Value) : Value := cond b v undef
theorem cv_t {b : Bool} {v : Value} (h : b = true) : cv b v = v := by subst h; rfl
theorem cv_f {b : Bool} {v : Value} (h : b = false) : cv b v = undef := by subst h; rfl
theorem EVx {f : Fr} {o : Operand} {v : Value} (h : evo f o = v := by (repeat' (first | refine' evo_there (by rfl) ?_ | exact evo_here _ _ _)) <;> (try ((try simp only [evo, upd, ↓reduceIte, Nat.reduceEqDiff]) <;> rfl))) : evo f o = v := h
theorem EVc {f : Fr} {o : Operand} {b : Bool} {v : Value} (h : b = true) (e : evo f o = cv b v) : evo f o = v := e.trans (cv_t h)
theorem al {a b : Bool} (h : (a && b) = true) : a = true := by cases a <;> simp_all
theorem ai {a b : Bool} (h : a = true) (k : b = true) : (a && b) = true := by simp [h, k]
theorem nf {a : Bool} (h : a = false) : (!a) = true := by simp [h]
theorem EVb {f : Fr} {o : Operand} {a b : Bool} (e : evo f o = .bool a) (h : a = b) : evo f o = .bool b := h ▸ e
theorem map_evo {f : Fr} {xs : List Operand} {vs : List Value} (h : xs.map (evo f) = vs) : xs.toArray.map (evo f) = vs.toArray := by subst h; simp
theorem AC {f : Fr} {x : Operand} {xs : List Operand} {v : Value} {vs : List Value} (h : evo f x = v) (k : xs.map (evo f) = vs) : (x :: xs).map (evo f) = v :: vs := by simp [h, k]
theorem AN {f : Fr} : ([] : List Operand).map (evo f) = [] := rfl
theorem AV {f : Fr} {first cap : List Value} {xs : List Operand} {vs : List Value} (h : xs.map (evo f) = vs) : first.toArray ++ xs.toArray.map (evo f) ++ cap.toArray = (first ++ (vs ++ cap)).toArray := by subst h; simp

/-- The answer is v, and nothing is handed back. -/
def Pu (v : Value) : Value → PH → OL → Prop := fun u _ L' => u = v ∧ L' = []
/-- What is handed back stays as it is, and F holds of it. -/
def Fz (F : Value → PH → Prop) : Value → PH → OL → Prop := fun u h' L' => L' = [] ∧ F u h'

section
variable {P : Program} {n : Nat} {ops : Array Oper} {E : Env} {K : SP} {X : Nat → SP} {R : SP} {rest : List Oper} {f : Fr} {h : PH} {L : OL} {h0 : PH} {L0 : OL} {late : List Nat} {π : List (Nat × Nat)}
  {d j dj i : Nat} {op : Op} {ty : TypeId} {pos : String} {af : Array Edge} {v : Value} {x y z : Operand}

theorem WO.yesE {dst : Option Nat} {t : Bool} (hj : (ops[j]?).bind (·.dst) = some dj) (hv : evo f (.tmp dj) = .bool t)
    (k : WO P n ops E K (⟨dst, op, ty, pos, af, none⟩ :: rest) f h L) (hn : dj < n := by decide) : WO P n ops E K (⟨dst, op, ty, pos, af, some (j, t)⟩ :: rest) f h L :=
  WO.yes hj hn hv k
theorem WO.noE {t : Bool} (hj : (ops[j]?).bind (·.dst) = some dj) (hv : evo f (.tmp dj) = .bool (!t))
    (k : WO P n ops E K rest (upd f d undef) h L) (hn : dj < n := by decide) (hd : d < n := by decide) : WO P n ops E K (⟨some d, op, ty, pos, af, some (j, t)⟩ :: rest) f h L :=
  WO.no hj hn hv hd k

theorem WO.gy {p c t q : Bool} (hj : (ops[j]?).bind (·.dst) = some dj) (hv : evo f (.tmp dj) = cv p (.bool c)) (hq : q = (p && (c == t)))
    (y : q = true → Yld P f h L op ty v) (k : WO P n ops E K rest (upd f d (cv q v)) h L) (hn : dj < n) (hd : d < n) : WO P n ops E K (⟨some d, op, ty, pos, af, some (j, t)⟩ :: rest) f h L := by
  subst hq
  cases p with
  | false => exact WO.noU hj hn hv hd k
  | true =>
    by_cases e : c = t
    · subst e
      have e1 : (true && (c == c)) = true := by simp
      rw [e1] at k y
      exact WO.yes hj hn hv (WO.yld (y rfl) k hd)
    · have e1 : (true && (c == t)) = false := by simp [e]
      rw [e1] at k
      have e2 : c = !t := by cases c <;> cases t <;> simp_all
      subst e2
      exact WO.no hj hn hv hd k
theorem WO.gyT0 {c : Bool} (hj : (ops[j]?).bind (·.dst) = some dj) (hv : evo f (.tmp dj) = .bool c) (y : c = true → Yld P f h L op ty v) (k : WO P n ops E K rest (upd f d (cv c v)) h L) (hn : dj < n := by decide) (hd : d < n := by decide) :
    WO P n ops E K (⟨some d, op, ty, pos, af, some (j, true)⟩ :: rest) f h L := WO.gy (p := true) hj hv (by simp) y k hn hd
theorem WO.gyF0 {c : Bool} (hj : (ops[j]?).bind (·.dst) = some dj) (hv : evo f (.tmp dj) = .bool c) (y : (!c) = true → Yld P f h L op ty v) (k : WO P n ops E K rest (upd f d (cv (!c) v)) h L) (hn : dj < n := by decide) (hd : d < n := by decide) :
    WO P n ops E K (⟨some d, op, ty, pos, af, some (j, false)⟩ :: rest) f h L := WO.gy (p := true) hj hv (by simp) y k hn hd
theorem WO.gyT {p c : Bool} (hj : (ops[j]?).bind (·.dst) = some dj) (hv : evo f (.tmp dj) = cv p (.bool c)) (y : (p && c) = true → Yld P f h L op ty v) (k : WO P n ops E K rest (upd f d (cv (p && c) v)) h L) (hn : dj < n := by decide) (hd : d < n := by decide) :
    WO P n ops E K (⟨some d, op, ty, pos, af, some (j, true)⟩ :: rest) f h L := WO.gy hj hv (by simp) y k hn hd
theorem WO.gyF {p c : Bool} (hj : (ops[j]?).bind (·.dst) = some dj) (hv : evo f (.tmp dj) = cv p (.bool c)) (y : (p && !c) = true → Yld P f h L op ty v) (k : WO P n ops E K rest (upd f d (cv (p && !c) v)) h L) (hn : dj < n := by decide) (hd : d < n := by decide) :
    WO P n ops E K (⟨some d, op, ty, pos, af, some (j, false)⟩ :: rest) f h L := WO.gy hj hv (by simp) y k hn hd

/-- Under a guard: an operation that makes nothing that is written later. -/
theorem WO.gc {p c t q : Bool} (Φ : Value → PH → Prop) (hj : (ops[j]?).bind (·.dst) = some dj) (hv : evo f (.tmp dj) = cv p (.bool c)) (hq : q = (p && (c == t)))
    (y : q = true → Chn P f E h L op ty fun u h' L' => L' = L ∧ h.le h' ∧ Φ u h') (k : ∀ u h', h.le h' → (q = true → Φ u h') → WO P n ops E K rest (upd f d (cv q u)) h' L) (hn : dj < n) (hd : d < n) :
    WO P n ops E K (⟨some d, op, ty, pos, af, some (j, t)⟩ :: rest) f h L := by
  subst hq
  cases p with
  | false => exact WO.noU hj hn hv hd (k undef h (PH.le_refl h) (fun e => by cases e))
  | true =>
    by_cases e : c = t
    · subst e
      have e1 : (true && (c == c)) = true := by simp
      rw [e1] at k y
      refine WO.yes hj hn hv (WO.chn (by simpa using hd) ((y rfl).mono ?_))
      rintro u h' L' ⟨rfl, le, hu⟩
      exact k u h' le (fun _ => hu)
    · have e1 : (true && (c == t)) = false := by simp [e]
      rw [e1] at k
      have e2 : c = !t := by cases c <;> cases t <;> simp_all
      subst e2
      exact WO.no hj hn hv hd (k undef h (PH.le_refl h) (fun e => by cases e))
theorem WO.gcT0 (Φ : Value → PH → Prop) {c : Bool} (hj : (ops[j]?).bind (·.dst) = some dj) (hv : evo f (.tmp dj) = .bool c) (y : c = true → Chn P f E h L op ty fun u h' L' => L' = L ∧ h.le h' ∧ Φ u h')
    (k : ∀ u h', h.le h' → (c = true → Φ u h') → WO P n ops E K rest (upd f d (cv c u)) h' L) (hn : dj < n := by decide) (hd : d < n := by decide) :
    WO P n ops E K (⟨some d, op, ty, pos, af, some (j, true)⟩ :: rest) f h L := WO.gc (p := true) Φ hj hv (by simp) y k hn hd
theorem WO.gcF0 (Φ : Value → PH → Prop) {c : Bool} (hj : (ops[j]?).bind (·.dst) = some dj) (hv : evo f (.tmp dj) = .bool c) (y : (!c) = true → Chn P f E h L op ty fun u h' L' => L' = L ∧ h.le h' ∧ Φ u h')
    (k : ∀ u h', h.le h' → ((!c) = true → Φ u h') → WO P n ops E K rest (upd f d (cv (!c) u)) h' L) (hn : dj < n := by decide) (hd : d < n := by decide) :
    WO P n ops E K (⟨some d, op, ty, pos, af, some (j, false)⟩ :: rest) f h L := WO.gc (p := true) Φ hj hv (by simp) y k hn hd
theorem WO.gcT (Φ : Value → PH → Prop) {p c : Bool} (hj : (ops[j]?).bind (·.dst) = some dj) (hv : evo f (.tmp dj) = cv p (.bool c)) (y : (p && c) = true → Chn P f E h L op ty fun u h' L' => L' = L ∧ h.le h' ∧ Φ u h')
    (k : ∀ u h', h.le h' → ((p && c) = true → Φ u h') → WO P n ops E K rest (upd f d (cv (p && c) u)) h' L) (hn : dj < n := by decide) (hd : d < n := by decide) :
    WO P n ops E K (⟨some d, op, ty, pos, af, some (j, true)⟩ :: rest) f h L := WO.gc Φ hj hv (by simp) y k hn hd
theorem WO.gcF (Φ : Value → PH → Prop) {p c : Bool} (hj : (ops[j]?).bind (·.dst) = some dj) (hv : evo f (.tmp dj) = cv p (.bool c)) (y : (p && !c) = true → Chn P f E h L op ty fun u h' L' => L' = L ∧ h.le h' ∧ Φ u h')
    (k : ∀ u h', h.le h' → ((p && !c) = true → Φ u h') → WO P n ops E K rest (upd f d (cv (p && !c) u)) h' L) (hn : dj < n := by decide) (hd : d < n := by decide) :
    WO P n ops E K (⟨some d, op, ty, pos, af, some (j, false)⟩ :: rest) f h L := WO.gc Φ hj hv (by simp) y k hn hd
/-- The answer is one value, whatever the path. -/
theorem Pk {b : Bool} {u v : Value} {Φ : Fr → Prop} {f : Fr} {d : Nat} (e : b = true → u = v) (k : Φ (upd f d (cv b v))) : Φ (upd f d (cv b u)) := by
  cases b with
  | false => exact k
  | true => rw [e rfl]; exact k

/-! The same in regions that draw. -/
theorem WPl.yesE {c0 : Nat} {t : Bool} (_ : c0 = 0) (hj : (ops[j]?).bind (·.dst) = some dj) (hv : evo f (.tmp dj) = .bool t) : f dj = .bool t := hv
theorem WPl.gyg {k' : Nat} {p c t q : Bool} (hk : k' = 1 ∨ k' = 2) (ho : ops[i]? = some ⟨some d, op, ty, pos, af, some (j, t)⟩) (hj : (ops[j]?).bind (·.dst) = some dj) (hv : evo f (.tmp dj) = cv p (.bool c)) (hq : q = (p && (c == t)))
    (y : q = true → ∀ w, (k' = 1 → Rd h0 L0 w) → (execOp (evo f) ⟨none, op, ty, "", #[], none⟩).run P w = .ok (.value v) w) (k : WPl P n ops E K h0 L0 late π (upd f d (cv q v)) h L) (hd : d < n) (hn : dj < n) :
    WPl P n ops E K h0 L0 late ((i, k') :: π) f h L := by
  subst hq
  refine WPl.gen ho rfl hd hk (fun a hr D hD => ?_) k
  cases p with
  | false =>
    have hv : f dj = undef := hv
    exact .inr ⟨by cases t <;> simp [Region.wanted, hr.yielded hj hn, hv, undef], rfl⟩
  | true =>
    have hv : f dj = .bool c := hv
    by_cases e : c = t
    · subst e
      refine .inl ⟨by simp [Region.wanted, hr.yielded hj hn, hv], fun w hw => ?_⟩
      have e1 : (true && (c == c)) = true := by simp
      rw [hr.eval, execOp_bare, e1]
      exact y e1 w (fun h1 => hD h1 w hw)
    · have e2 : c = !t := by cases c <;> cases t <;> simp_all
      have e1 : (true && (c == t)) = false := by simp [e]
      refine .inr ⟨by subst e2; cases t <;> simp [Region.wanted, hr.yielded hj hn, hv], by rw [e1]; rfl⟩
theorem WPl.rdT0 {c : Bool} (ho : ops[i]? = some ⟨some d, op, ty, pos, af, some (j, true)⟩) (hj : (ops[j]?).bind (·.dst) = some dj) (hv : evo f (.tmp dj) = .bool c) (y : c = true → Yld P f h0 L0 op ty v)
    (k : WPl P n ops E K h0 L0 late π (upd f d (cv c v)) h L) (hd : d < n := by decide) (hn : dj < n := by decide) : WPl P n ops E K h0 L0 late ((i, 1) :: π) f h L :=
  WPl.gyg (p := true) (.inl rfl) ho hj hv (by simp) (fun e w hw => y e w (hw rfl)) k hd hn
theorem WPl.rdF0 {c : Bool} (ho : ops[i]? = some ⟨some d, op, ty, pos, af, some (j, false)⟩) (hj : (ops[j]?).bind (·.dst) = some dj) (hv : evo f (.tmp dj) = .bool c) (y : (!c) = true → Yld P f h0 L0 op ty v)
    (k : WPl P n ops E K h0 L0 late π (upd f d (cv (!c) v)) h L) (hd : d < n := by decide) (hn : dj < n := by decide) : WPl P n ops E K h0 L0 late ((i, 1) :: π) f h L :=
  WPl.gyg (p := true) (.inl rfl) ho hj hv (by simp) (fun e w hw => y e w (hw rfl)) k hd hn
theorem WPl.rdT {p c : Bool} (ho : ops[i]? = some ⟨some d, op, ty, pos, af, some (j, true)⟩) (hj : (ops[j]?).bind (·.dst) = some dj) (hv : evo f (.tmp dj) = cv p (.bool c)) (y : (p && c) = true → Yld P f h0 L0 op ty v)
    (k : WPl P n ops E K h0 L0 late π (upd f d (cv (p && c) v)) h L) (hd : d < n := by decide) (hn : dj < n := by decide) : WPl P n ops E K h0 L0 late ((i, 1) :: π) f h L :=
  WPl.gyg (.inl rfl) ho hj hv (by simp) (fun e w hw => y e w (hw rfl)) k hd hn
theorem WPl.rdF {p c : Bool} (ho : ops[i]? = some ⟨some d, op, ty, pos, af, some (j, false)⟩) (hj : (ops[j]?).bind (·.dst) = some dj) (hv : evo f (.tmp dj) = cv p (.bool c)) (y : (p && !c) = true → Yld P f h0 L0 op ty v)
    (k : WPl P n ops E K h0 L0 late π (upd f d (cv (p && !c) v)) h L) (hd : d < n := by decide) (hn : dj < n := by decide) : WPl P n ops E K h0 L0 late ((i, 1) :: π) f h L :=
  WPl.gyg (.inl rfl) ho hj hv (by simp) (fun e w hw => y e w (hw rfl)) k hd hn
theorem WPl.wlT0 {c : Bool} (ho : ops[i]? = some ⟨some d, op, ty, pos, af, some (j, true)⟩) (hj : (ops[j]?).bind (·.dst) = some dj) (hv : evo f (.tmp dj) = .bool c) (y : c = true → Yld P f PH.nil [] op ty v)
    (k : WPl P n ops E K h0 L0 late π (upd f d (cv c v)) h L) (hd : d < n := by decide) (hn : dj < n := by decide) : WPl P n ops E K h0 L0 late ((i, 2) :: π) f h L :=
  WPl.gyg (p := true) (.inr rfl) ho hj hv (by simp) (fun e w _ => y e w (rd_nil w)) k hd hn
theorem WPl.wlF0 {c : Bool} (ho : ops[i]? = some ⟨some d, op, ty, pos, af, some (j, false)⟩) (hj : (ops[j]?).bind (·.dst) = some dj) (hv : evo f (.tmp dj) = .bool c) (y : (!c) = true → Yld P f PH.nil [] op ty v)
    (k : WPl P n ops E K h0 L0 late π (upd f d (cv (!c) v)) h L) (hd : d < n := by decide) (hn : dj < n := by decide) : WPl P n ops E K h0 L0 late ((i, 2) :: π) f h L :=
  WPl.gyg (p := true) (.inr rfl) ho hj hv (by simp) (fun e w _ => y e w (rd_nil w)) k hd hn
theorem WPl.wlT {p c : Bool} (ho : ops[i]? = some ⟨some d, op, ty, pos, af, some (j, true)⟩) (hj : (ops[j]?).bind (·.dst) = some dj) (hv : evo f (.tmp dj) = cv p (.bool c)) (y : (p && c) = true → Yld P f PH.nil [] op ty v)
    (k : WPl P n ops E K h0 L0 late π (upd f d (cv (p && c) v)) h L) (hd : d < n := by decide) (hn : dj < n := by decide) : WPl P n ops E K h0 L0 late ((i, 2) :: π) f h L :=
  WPl.gyg (.inr rfl) ho hj hv (by simp) (fun e w _ => y e w (rd_nil w)) k hd hn
theorem WPl.wlF {p c : Bool} (ho : ops[i]? = some ⟨some d, op, ty, pos, af, some (j, false)⟩) (hj : (ops[j]?).bind (·.dst) = some dj) (hv : evo f (.tmp dj) = cv p (.bool c)) (y : (p && !c) = true → Yld P f PH.nil [] op ty v)
    (k : WPl P n ops E K h0 L0 late π (upd f d (cv (p && !c) v)) h L) (hd : d < n := by decide) (hn : dj < n := by decide) : WPl P n ops E K h0 L0 late ((i, 2) :: π) f h L :=
  WPl.gyg (.inr rfl) ho hj hv (by simp) (fun e w _ => y e w (rd_nil w)) k hd hn

theorem WPl.no0 {g : Option (Nat × Bool)} (ho : ops[i]? = some ⟨some d, op, ty, pos, af, g⟩) (hg : ∀ a, Rel n a f → Region.wanted ⟨some d, op, ty, pos, af, g⟩ (yielded ops a.tmps) = false) (hd : d < n)
    (c : WPl P n ops E K h0 L0 late π (upd f d undef) h L) : WPl P n ops E K h0 L0 late ((i, 0) :: π) f h L := by
  intro hs listed fuel hp hfu w s hC Q hnp hQ a hr
  simp only [planB, if_true, Bool.and_eq_true, beq_iff_eq] at hp
  obtain ⟨hready, hrest⟩ := hp
  cases fuel with
  | zero => simp at hfu
  | succ fuel =>
    refine ⟨fun h0 => (by rw [hready] at h0; cases h0), fun j' hj' => ?_⟩
    have hun : listed.getD j' true = false := (mem_ready.1 hj').1
    rw [hready] at hj'
    obtain rfl : j' = i := by simpa using hj'
    have hRd : armed late (listed.setIfInBounds j' true) = true → Rd h0 L0 w := fun hl => by
      cases hc : late.contains j' with
      | true =>
        have := List.all_eq_true.1 hl j' (by simpa using hc)
        have hlt : j' < listed.size := by
          rcases Nat.lt_or_ge j' listed.size with h | h
          · exact h
          · simp [Array.getElem?_eq_none h] at hun
        simp [hlt] at this
      | false => exact hC (by rw [armed_set hc] at hl; exact hl)
    unfold wpOp
    simp only [ho, hg a hr, Bool.false_eq_true, if_false]
    exact ⟨hRd, c hs _ fuel hrest (by simpa using hfu) w s hRd Q hnp hQ _ (hr.put hd undef)⟩
theorem WPl.gc {p c t q : Bool} (Φ : Value → PH → Prop) (ho : ops[i]? = some ⟨some d, op, ty, pos, af, some (j, t)⟩) (hj : (ops[j]?).bind (·.dst) = some dj) (hv : evo f (.tmp dj) = cv p (.bool c)) (hq : q = (p && (c == t)))
    (y : q = true → Chn P f E h L op ty fun u h' L' => L' = L ∧ h.le h' ∧ Φ u h') (hL : h0.le h ∧ ∀ e ∈ L0, e ∈ L) (k : ∀ u h', h.le h' → (q = true → Φ u h') → WPl P n ops E K h0 L0 late π (upd f d (cv q u)) h' L) (hn : dj < n) (hd : d < n) :
    WPl P n ops E K h0 L0 late ((i, 0) :: π) f h L := by
  subst hq
  cases p with
  | false =>
    have hv : f dj = undef := hv
    exact WPl.no0 ho (fun a hr => by cases t <;> simp [Region.wanted, hr.yielded hj hn, hv, undef]) hd (k undef h (PH.le_refl h) (fun e => by cases e))
  | true =>
    have hv : f dj = .bool c := hv
    by_cases e : c = t
    · subst e
      have e1 : (true && (c == c)) = true := by simp
      rw [e1] at k y
      refine WPl.chn_yes ho hj hv ((y rfl).mono ?_) (by simpa using hd) hn
      rintro u h' L' ⟨rfl, le, hu⟩
      exact ⟨.inr ⟨PH.le_trans hL.1 le, hL.2⟩, k u h' le (fun _ => hu)⟩
    · have e1 : (true && (c == t)) = false := by simp [e]
      rw [e1] at k
      have e2 : c = !t := by cases c <;> cases t <;> simp_all
      subst e2
      exact WPl.no0 ho (fun a hr => by cases t <;> simp [Region.wanted, hr.yielded hj hn, hv]) hd (k undef h (PH.le_refl h) (fun e => by cases e))
theorem WPl.gcT0 (Φ : Value → PH → Prop) {c : Bool} (ho : ops[i]? = some ⟨some d, op, ty, pos, af, some (j, true)⟩) (hj : (ops[j]?).bind (·.dst) = some dj) (hv : evo f (.tmp dj) = .bool c)
    (y : c = true → Chn P f E h L op ty fun u h' L' => L' = L ∧ h.le h' ∧ Φ u h') (hL : h0.le h ∧ ∀ e ∈ L0, e ∈ L) (k : ∀ u h', h.le h' → (c = true → Φ u h') → WPl P n ops E K h0 L0 late π (upd f d (cv c u)) h' L) (hn : dj < n := by decide) (hd : d < n := by decide) :
    WPl P n ops E K h0 L0 late ((i, 0) :: π) f h L := WPl.gc (p := true) Φ ho hj hv (by simp) y hL k hn hd
theorem WPl.gcF0 (Φ : Value → PH → Prop) {c : Bool} (ho : ops[i]? = some ⟨some d, op, ty, pos, af, some (j, false)⟩) (hj : (ops[j]?).bind (·.dst) = some dj) (hv : evo f (.tmp dj) = .bool c)
    (y : (!c) = true → Chn P f E h L op ty fun u h' L' => L' = L ∧ h.le h' ∧ Φ u h') (hL : h0.le h ∧ ∀ e ∈ L0, e ∈ L) (k : ∀ u h', h.le h' → ((!c) = true → Φ u h') → WPl P n ops E K h0 L0 late π (upd f d (cv (!c) u)) h' L) (hn : dj < n := by decide) (hd : d < n := by decide) :
    WPl P n ops E K h0 L0 late ((i, 0) :: π) f h L := WPl.gc (p := true) Φ ho hj hv (by simp) y hL k hn hd
theorem WPl.gcT (Φ : Value → PH → Prop) {p c : Bool} (ho : ops[i]? = some ⟨some d, op, ty, pos, af, some (j, true)⟩) (hj : (ops[j]?).bind (·.dst) = some dj) (hv : evo f (.tmp dj) = cv p (.bool c))
    (y : (p && c) = true → Chn P f E h L op ty fun u h' L' => L' = L ∧ h.le h' ∧ Φ u h') (hL : h0.le h ∧ ∀ e ∈ L0, e ∈ L) (k : ∀ u h', h.le h' → ((p && c) = true → Φ u h') → WPl P n ops E K h0 L0 late π (upd f d (cv (p && c) u)) h' L) (hn : dj < n := by decide) (hd : d < n := by decide) :
    WPl P n ops E K h0 L0 late ((i, 0) :: π) f h L := WPl.gc Φ ho hj hv (by simp) y hL k hn hd
theorem WPl.gcF (Φ : Value → PH → Prop) {p c : Bool} (ho : ops[i]? = some ⟨some d, op, ty, pos, af, some (j, false)⟩) (hj : (ops[j]?).bind (·.dst) = some dj) (hv : evo f (.tmp dj) = cv p (.bool c))
    (y : (p && !c) = true → Chn P f E h L op ty fun u h' L' => L' = L ∧ h.le h' ∧ Φ u h') (hL : h0.le h ∧ ∀ e ∈ L0, e ∈ L) (k : ∀ u h', h.le h' → ((p && !c) = true → Φ u h') → WPl P n ops E K h0 L0 late π (upd f d (cv (p && !c) u)) h' L) (hn : dj < n := by decide) (hd : d < n := by decide) :
    WPl P n ops E K h0 L0 late ((i, 0) :: π) f h L := WPl.gc Φ ho hj hv (by simp) y hL k hn hd

/-! Choices. -/
theorem Yld.pickAnd {b a : Bool} (hc : evo f x = .bool b) (hx : b = true → evo f y = .bool a) (hy : evo f z = .bool b) : Yld P f h L (.pick x y z) ty (.bool (b && a)) := by
  cases b with
  | true => exact Yld.pick_t hc (hx rfl)
  | false => exact Yld.pick_f hc hy
theorem Yld.pickOr {b a : Bool} (hc : evo f x = .bool b) (hx : evo f y = .bool b) (hy : b = false → evo f z = .bool a) : Yld P f h L (.pick x y z) ty (.bool (b || a)) := by
  cases b with
  | true => exact Yld.pick_t hc hx
  | false => exact Yld.pick_f hc (hy rfl)
theorem Yld.pickB {b a a' : Bool} (hc : evo f x = .bool b) (hx : b = true → evo f y = .bool a) (hy : b = false → evo f z = .bool a') : Yld P f h L (.pick x y z) ty (.bool (cond b a a')) := by
  cases b with
  | true => exact Yld.pick_t hc (hx rfl)
  | false => exact Yld.pick_f hc (hy rfl)
theorem Yld.pickG {b : Bool} {u u' : Value} (hc : evo f x = .bool b) (hx : b = true → evo f y = u) (hy : b = false → evo f z = u') : Yld P f h L (.pick x y z) ty (cond b u u') := by
  cases b with
  | true => exact Yld.pick_t hc (hx rfl)
  | false => exact Yld.pick_f hc (hy rfl)

/-! Calls that hand nothing back. -/
theorem Chn.callZ {k : FuncId} [T : TFn P k] {cargs : List Operand} {ats : Array TypeId} {args : List Value} {Φ : Value → PH → Prop} (hx : evo f x = .func (.func k) #[] #[]) (ha : cargs.map (evo f) = args) (c : Ct P k args.toArray h [] (Fz Φ)) :
    Chn P f E h L (.call ⟨.value x, cargs.toArray, ats⟩) ty fun u h' L' => L' = L ∧ h.le h' ∧ Φ u h' :=
  Chn.call hx (map_evo ha) c rfl fun _ _ _ le ⟨e, hu⟩ => by subst e; exact ⟨rfl, le, hu⟩
theorem Chn.callvZ {k : FuncId} [T : TFn P k] {cargs : List Operand} {ats : Array TypeId} {first cap : List Value} {args : List Value} {Φ : Value → PH → Prop} (hx : evo f x = .func (.func k) first.toArray cap.toArray) (ha : cargs.map (evo f) = args) (c : Ct P k (first ++ (args ++ cap)).toArray h [] (Fz Φ)) :
    Chn P f E h L (.call ⟨.value x, cargs.toArray, ats⟩) ty fun u h' L' => L' = L ∧ h.le h' ∧ Φ u h' :=
  Chn.callv hx (AV ha) c rfl fun _ _ _ le ⟨e, hu⟩ => by subst e; exact ⟨rfl, le, hu⟩
theorem Ct.pz {k : FuncId} {args : Array Value} {v : Value} (c : Ct P k args h L (Pu v)) : Ct P k args h L (Fz fun u _ => u = v) := c.mono fun _ _ _ _ ⟨e, l⟩ => ⟨l, e⟩
theorem WO.cZ {dd : Option Nat} {Φ : Value → PH → Prop} (hd : dd.all (· < n) = true) (c : Chn P f E h L op ty fun u h' L' => L' = L ∧ h.le h' ∧ Φ u h') (k : ∀ u h', h.le h' → Φ u h' → WO P n ops E K rest (updo f dd u) h' L) :
    WO P n ops E K (⟨dd, op, ty, pos, af, none⟩ :: rest) f h L :=
  WO.chn hd (c.mono fun u h' L' ⟨e, le, hu⟩ => by subst e; exact k u h' le hu)
theorem WPl.cZ {dd : Option Nat} {Φ : Value → PH → Prop} (ho : ops[i]? = some ⟨dd, op, ty, pos, af, none⟩) (c : Chn P f E h L op ty fun u h' L' => L' = L ∧ h.le h' ∧ Φ u h') (hL : h0.le h ∧ ∀ e ∈ L0, e ∈ L)
    (k : ∀ u h', h.le h' → Φ u h' → WPl P n ops E K h0 L0 late π (updo f dd u) h' L) (hd : dd.all (· < n) = true := by decide) : WPl P n ops E K h0 L0 late ((i, 0) :: π) f h L :=
  WPl.chn ho (c.mono fun u h' L' ⟨e, le, hu⟩ => by subst e; exact ⟨.inr ⟨PH.le_trans hL.1 le, hL.2⟩, k u h' le hu⟩) hd
end
theorem cv_congr {b : Bool} {u v : Value} (e : b = true → u = v) : cv b u = cv b v := by
  cases b with
  | false => rfl
  | true => rw [e rfl]
section
variable {P : Program} {n : Nat} {ops : Array Oper} {E : Env} {K : SP} {rest : List Oper} {f : Fr} {h : PH} {L : OL} {h0 : PH} {L0 : OL} {late : List Nat} {π : List (Nat × Nat)}
  {d j dj i : Nat} {op : Op} {ty : TypeId} {pos : String} {af : Array Edge} {v : Value} {x y z : Operand}
theorem WO.gpT0 {c : Bool} (hj : (ops[j]?).bind (·.dst) = some dj) (hv : evo f (.tmp dj) = .bool c) (y : c = true → Chn P f E h L op ty fun u h' L' => L' = L ∧ h.le h' ∧ u = v)
    (k : ∀ h', h.le h' → WO P n ops E K rest (upd f d (cv c v)) h' L) (hn : dj < n := by decide) (hd : d < n := by decide) :
    WO P n ops E K (⟨some d, op, ty, pos, af, some (j, true)⟩ :: rest) f h L := WO.gcT0 (fun u _ => u = v) hj hv y (fun u h' le hu => by rw [cv_congr hu]; exact k h' le) hn hd
theorem WPl.gpT0 {c : Bool} (ho : ops[i]? = some ⟨some d, op, ty, pos, af, some (j, true)⟩) (hj : (ops[j]?).bind (·.dst) = some dj) (hv : evo f (.tmp dj) = .bool c)
    (y : c = true → Chn P f E h L op ty fun u h' L' => L' = L ∧ h.le h' ∧ u = v) (hL : h0.le h ∧ ∀ e ∈ L0, e ∈ L) (k : ∀ h', h.le h' → WPl P n ops E K h0 L0 late π (upd f d (cv c v)) h' L) (hn : dj < n := by decide) (hd : d < n := by decide) :
    WPl P n ops E K h0 L0 late ((i, 0) :: π) f h L := WPl.gcT0 (fun u _ => u = v) ho hj hv y hL (fun u h' le hu => by rw [cv_congr hu]; exact k h' le) hn hd
theorem WO.gpF0 {c : Bool} (hj : (ops[j]?).bind (·.dst) = some dj) (hv : evo f (.tmp dj) = .bool c) (y : (!c) = true → Chn P f E h L op ty fun u h' L' => L' = L ∧ h.le h' ∧ u = v)
    (k : ∀ h', h.le h' → WO P n ops E K rest (upd f d (cv (!c) v)) h' L) (hn : dj < n := by decide) (hd : d < n := by decide) :
    WO P n ops E K (⟨some d, op, ty, pos, af, some (j, false)⟩ :: rest) f h L := WO.gcF0 (fun u _ => u = v) hj hv y (fun u h' le hu => by rw [cv_congr hu]; exact k h' le) hn hd
theorem WPl.gpF0 {c : Bool} (ho : ops[i]? = some ⟨some d, op, ty, pos, af, some (j, false)⟩) (hj : (ops[j]?).bind (·.dst) = some dj) (hv : evo f (.tmp dj) = .bool c)
    (y : (!c) = true → Chn P f E h L op ty fun u h' L' => L' = L ∧ h.le h' ∧ u = v) (hL : h0.le h ∧ ∀ e ∈ L0, e ∈ L) (k : ∀ h', h.le h' → WPl P n ops E K h0 L0 late π (upd f d (cv (!c) v)) h' L) (hn : dj < n := by decide) (hd : d < n := by decide) :
    WPl P n ops E K h0 L0 late ((i, 0) :: π) f h L := WPl.gcF0 (fun u _ => u = v) ho hj hv y hL (fun u h' le hu => by rw [cv_congr hu]; exact k h' le) hn hd
theorem WO.gpT {p c : Bool} (hj : (ops[j]?).bind (·.dst) = some dj) (hv : evo f (.tmp dj) = cv p (.bool c)) (y : (p && c) = true → Chn P f E h L op ty fun u h' L' => L' = L ∧ h.le h' ∧ u = v)
    (k : ∀ h', h.le h' → WO P n ops E K rest (upd f d (cv (p && c) v)) h' L) (hn : dj < n := by decide) (hd : d < n := by decide) :
    WO P n ops E K (⟨some d, op, ty, pos, af, some (j, true)⟩ :: rest) f h L := WO.gcT (fun u _ => u = v) hj hv y (fun u h' le hu => by rw [cv_congr hu]; exact k h' le) hn hd
theorem WPl.gpT {p c : Bool} (ho : ops[i]? = some ⟨some d, op, ty, pos, af, some (j, true)⟩) (hj : (ops[j]?).bind (·.dst) = some dj) (hv : evo f (.tmp dj) = cv p (.bool c))
    (y : (p && c) = true → Chn P f E h L op ty fun u h' L' => L' = L ∧ h.le h' ∧ u = v) (hL : h0.le h ∧ ∀ e ∈ L0, e ∈ L) (k : ∀ h', h.le h' → WPl P n ops E K h0 L0 late π (upd f d (cv (p && c) v)) h' L) (hn : dj < n := by decide) (hd : d < n := by decide) :
    WPl P n ops E K h0 L0 late ((i, 0) :: π) f h L := WPl.gcT (fun u _ => u = v) ho hj hv y hL (fun u h' le hu => by rw [cv_congr hu]; exact k h' le) hn hd
theorem WO.gpF {p c : Bool} (hj : (ops[j]?).bind (·.dst) = some dj) (hv : evo f (.tmp dj) = cv p (.bool c)) (y : (p && !c) = true → Chn P f E h L op ty fun u h' L' => L' = L ∧ h.le h' ∧ u = v)
    (k : ∀ h', h.le h' → WO P n ops E K rest (upd f d (cv (p && !c) v)) h' L) (hn : dj < n := by decide) (hd : d < n := by decide) :
    WO P n ops E K (⟨some d, op, ty, pos, af, some (j, false)⟩ :: rest) f h L := WO.gcF (fun u _ => u = v) hj hv y (fun u h' le hu => by rw [cv_congr hu]; exact k h' le) hn hd
theorem WPl.gpF {p c : Bool} (ho : ops[i]? = some ⟨some d, op, ty, pos, af, some (j, false)⟩) (hj : (ops[j]?).bind (·.dst) = some dj) (hv : evo f (.tmp dj) = cv p (.bool c))
    (y : (p && !c) = true → Chn P f E h L op ty fun u h' L' => L' = L ∧ h.le h' ∧ u = v) (hL : h0.le h ∧ ∀ e ∈ L0, e ∈ L) (k : ∀ h', h.le h' → WPl P n ops E K h0 L0 late π (upd f d (cv (p && !c) v)) h' L) (hn : dj < n := by decide) (hd : d < n := by decide) :
    WPl P n ops E K h0 L0 late ((i, 0) :: π) f h L := WPl.gcF (fun u _ => u = v) ho hj hv y hL (fun u h' le hu => by rw [cv_congr hu]; exact k h' le) hn hd

/-! Fields of structs that are values; conversions that change nothing; the smaller of two. -/
theorem Yld.convStrStr {s t : TypeId} [S : TStr P s] [T : TStr P t] {b : ByteArray} (hx : evo f x = .string b) : Yld P f h L (.convert s t x) ty (.string b) :=
  fun w _ => by simp [execOp, hx, convert, run_underlying S.u, run_underlying T.u]
theorem Yld.pickAnd' {b a : Bool} (hc : evo f x = .bool b) (hx : b = true → evo f y = .bool a) (hy : evo f z = .bool false) : Yld P f h L (.pick x y z) ty (.bool (b && a)) := by
  cases b with
  | true => exact Yld.pick_t hc (hx rfl)
  | false => exact Yld.pick_f hc hy
theorem Yld.pickOr' {b a : Bool} (hc : evo f x = .bool b) (hx : evo f y = .bool true) (hy : b = false → evo f z = .bool a) : Yld P f h L (.pick x y z) ty (.bool (b || a)) := by
  cases b with
  | true => exact Yld.pick_t hc hx
  | false => exact Yld.pick_f hc (hy rfl)
/-- What is known of a function's value. -/
def FCt (P : Program) (g : Value) (args : List Value) (h : PH) (L : OL) (R : Value → PH → OL → Prop) : Prop :=
  ∃ k first cap, g = .func (.func k) first cap ∧ TFn P k ∧ Ct P k (first ++ args.toArray ++ cap) h L R
theorem Chn.callF {Q : Value → PH → OL → Prop} {cargs : List Operand} {ats : Array TypeId} {g : Value} {args : List Value} {L1 L2 : OL} {R : Value → PH → OL → Prop} (hx : evo f x = g) (ha : cargs.map (evo f) = args) (c : FCt P g args h L1 R) (hL : L = L1 ++ L2)
    (q : ∀ v h' L', h.le h' → R v h' L' → Q v h' (L' ++ L2)) : Chn P f E h L (.call ⟨.value x, cargs.toArray, ats⟩) ty Q := by
  obtain ⟨k, first, cap, rfl, T, c⟩ := c
  exact Chn.callv hx (by subst ha; simp) c hL q
theorem Chn.callFZ {cargs : List Operand} {ats : Array TypeId} {g : Value} {args : List Value} {Φ : Value → PH → Prop} (hx : evo f x = g) (ha : cargs.map (evo f) = args) (c : FCt P g args h [] (Fz Φ)) :
    Chn P f E h L (.call ⟨.value x, cargs.toArray, ats⟩) ty fun u h' L' => L' = L ∧ h.le h' ∧ Φ u h' :=
  Chn.callF hx ha c rfl fun _ _ _ le ⟨e, hu⟩ => by subst e; exact ⟨rfl, le, hu⟩
theorem FCt.pz {g : Value} {args : List Value} {v : Value} (c : FCt P g args h L (Pu v)) : FCt P g args h L (Fz fun u _ => u = v) := by
  obtain ⟨k, first, cap, e, T, c⟩ := c
  exact ⟨k, first, cap, e, T, c.pz⟩
end

theorem RO.tmpE {P : Program} {f : Fr} {h : PH} {L : OL} {t : Nat} {v : Value} (e : evo f (.tmp t) = v) : RO P (.tmp t) f h L v := RO.tmp e
theorem RO.cellNE {P : Program} {f : Fr} {h : PH} {L : OL} {a t b sz : Nat} [T : TI P t true sz] {vs : List Value} (e : evo f (.tmp a) = .pointer (some ⟨b, 0, none⟩)) (c : Cells h L b 0 vs) (hl : vs.length = sz) : RO P (.cell a t) f h L (.agg vs.toArray) := RO.cellN e c hl
theorem RO.cell1E {P : Program} {f : Fr} {h : PH} {L : OL} {a t b : Nat} [T : TI P t false 1] {v : Value} (e : evo f (.tmp a) = .pointer (some ⟨b, 0, none⟩)) (c : Cells h L b 0 [v]) : RO P (.cell a t) f h L v := RO.cell1 e c
def fr_ : Fr := fun _ => undef
theorem fr0 : (fun i => (#[] : Array Value).getD i undef) = fr_ := by
  funext i
  rfl
theorem fr1 (a0 : Value) : (fun i => (#[a0] : Array Value).getD i undef) = (upd fr_ 0 a0) := by
  funext i
  match i with
  | 0 => rfl
  | k + 1 =>
    have e : ((#[a0] : Array Value).getD (k + 1) undef) = undef := by unfold Array.getD; exact dif_neg (by simp)
    rw [e]; simp [upd, fr_]
theorem fr2 (a0 a1 : Value) : (fun i => (#[a0, a1] : Array Value).getD i undef) = (upd (upd fr_ 0 a0) 1 a1) := by
  funext i
  match i with
  | 0 => rfl
  | 1 => rfl
  | k + 2 =>
    have e : ((#[a0, a1] : Array Value).getD (k + 2) undef) = undef := by unfold Array.getD; exact dif_neg (by simp)
    rw [e]; simp [upd, fr_]
theorem fr3 (a0 a1 a2 : Value) : (fun i => (#[a0, a1, a2] : Array Value).getD i undef) = (upd (upd (upd fr_ 0 a0) 1 a1) 2 a2) := by
  funext i
  match i with
  | 0 => rfl
  | 1 => rfl
  | 2 => rfl
  | k + 3 =>
    have e : ((#[a0, a1, a2] : Array Value).getD (k + 3) undef) = undef := by unfold Array.getD; exact dif_neg (by simp)
    rw [e]; simp [upd, fr_]
theorem fr4 (a0 a1 a2 a3 : Value) : (fun i => (#[a0, a1, a2, a3] : Array Value).getD i undef) = (upd (upd (upd (upd fr_ 0 a0) 1 a1) 2 a2) 3 a3) := by
  funext i
  match i with
  | 0 => rfl
  | 1 => rfl
  | 2 => rfl
  | 3 => rfl
  | k + 4 =>
    have e : ((#[a0, a1, a2, a3] : Array Value).getD (k + 4) undef) = undef := by unfold Array.getD; exact dif_neg (by simp)
    rw [e]; simp [upd, fr_]
theorem fr5 (a0 a1 a2 a3 a4 : Value) : (fun i => (#[a0, a1, a2, a3, a4] : Array Value).getD i undef) = (upd (upd (upd (upd (upd fr_ 0 a0) 1 a1) 2 a2) 3 a3) 4 a4) := by
  funext i
  match i with
  | 0 => rfl
  | 1 => rfl
  | 2 => rfl
  | 3 => rfl
  | 4 => rfl
  | k + 5 =>
    have e : ((#[a0, a1, a2, a3, a4] : Array Value).getD (k + 5) undef) = undef := by unfold Array.getD; exact dif_neg (by simp)
    rw [e]; simp [upd, fr_]
theorem fr6 (a0 a1 a2 a3 a4 a5 : Value) : (fun i => (#[a0, a1, a2, a3, a4, a5] : Array Value).getD i undef) = (upd (upd (upd (upd (upd (upd fr_ 0 a0) 1 a1) 2 a2) 3 a3) 4 a4) 5 a5) := by
  funext i
  match i with
  | 0 => rfl
  | 1 => rfl
  | 2 => rfl
  | 3 => rfl
  | 4 => rfl
  | 5 => rfl
  | k + 6 =>
    have e : ((#[a0, a1, a2, a3, a4, a5] : Array Value).getD (k + 6) undef) = undef := by unfold Array.getD; exact dif_neg (by simp)
    rw [e]; simp [upd, fr_]
theorem fr7 (a0 a1 a2 a3 a4 a5 a6 : Value) : (fun i => (#[a0, a1, a2, a3, a4, a5, a6] : Array Value).getD i undef) = (upd (upd (upd (upd (upd (upd (upd fr_ 0 a0) 1 a1) 2 a2) 3 a3) 4 a4) 5 a5) 6 a6) := by
  funext i
  match i with
  | 0 => rfl
  | 1 => rfl
  | 2 => rfl
  | 3 => rfl
  | 4 => rfl
  | 5 => rfl
  | 6 => rfl
  | k + 7 =>
    have e : ((#[a0, a1, a2, a3, a4, a5, a6] : Array Value).getD (k + 7) undef) = undef := by unfold Array.getD; exact dif_neg (by simp)
    rw [e]; simp [upd, fr_]
theorem fr8 (a0 a1 a2 a3 a4 a5 a6 a7 : Value) : (fun i => (#[a0, a1, a2, a3, a4, a5, a6, a7] : Array Value).getD i undef) = (upd (upd (upd (upd (upd (upd (upd (upd fr_ 0 a0) 1 a1) 2 a2) 3 a3) 4 a4) 5 a5) 6 a6) 7 a7) := by
  funext i
  match i with
  | 0 => rfl
  | 1 => rfl
  | 2 => rfl
  | 3 => rfl
  | 4 => rfl
  | 5 => rfl
  | 6 => rfl
  | 7 => rfl
  | k + 8 =>
    have e : ((#[a0, a1, a2, a3, a4, a5, a6, a7] : Array Value).getD (k + 8) undef) = undef := by unfold Array.getD; exact dif_neg (by simp)
    rw [e]; simp [upd, fr_]
end Go.Bz
