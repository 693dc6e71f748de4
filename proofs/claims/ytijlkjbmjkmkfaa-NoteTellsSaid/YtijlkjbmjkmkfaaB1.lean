/-
  The symbolic heap: a part that only grows, and blocks that the running function owns; code and operations over it.
  Conditions: none; nothing here is assumed.
-/
import Derived.Test.YtijlkjbmjkmkfaaB0
namespace Go.Bz

abbrev PH := Nat → Option Obj
abbrev OL := List (Nat × Obj)
abbrev SP := Fr → PH → OL → Prop
def PH.le (h h' : PH) : Prop := ∀ b o, h b = some o → h' b = some o
theorem PH.le_refl (h : PH) : h.le h := fun _ _ e => e
theorem PH.le_trans {a b c : PH} (x : a.le b) (y : b.le c) : a.le c := fun k o e => y k o (x k o e)
def PH.add (h : PH) (b : Nat) (o : Obj) : PH := fun k => if k = b then some o else h k
def PH.nil : PH := fun _ => none

structure Env where
  w0 : World
  h0 : PH
  S0 : List Nat

structure Sat (E : Env) (h : PH) (L : OL) (w : World) : Prop where
  os : w.os = E.w0.os
  tape : w.tape = E.w0.tape
  output : w.output = E.w0.output
  size : E.w0.heap.size ≤ w.heap.size
  keep : ∀ b, b < E.w0.heap.size → b ∉ E.S0 → w.heap[b]? = E.w0.heap[b]?
  le : E.h0.le h
  sub : ∀ b o, h b = some o → w.heap[b]? = some o
  own : ∀ e ∈ L, w.heap[e.1]? = some e.2
  nd : (L.map (·.1)).Nodup
  dis : ∀ e ∈ L, h e.1 = none
  newL : ∀ e ∈ L, e.1 ∈ E.S0 ∨ E.w0.heap.size ≤ e.1
  newH : ∀ b o, h b = some o → E.h0 b = some o ∨ b ∈ E.S0 ∨ E.w0.heap.size ≤ b

/-- What a callee finds. -/
structure Pre (h : PH) (L : OL) (w : World) : Prop where
  sub : ∀ b o, h b = some o → w.heap[b]? = some o
  own : ∀ e ∈ L, w.heap[e.1]? = some e.2
  nd : (L.map (·.1)).Nodup
  dis : ∀ e ∈ L, h e.1 = none

theorem Pre.sat {h : PH} {L : OL} {w : World} (p : Pre h L w) : Sat ⟨w, h, L.map (·.1)⟩ h L w :=
  ⟨rfl, rfl, rfl, Nat.le_refl _, fun _ _ _ => rfl, PH.le_refl h, p.sub, p.own, p.nd, p.dis, fun e he => .inl (List.mem_map.2 ⟨e, he, rfl⟩), fun _ _ e => .inl e⟩

theorem Sat.pre {E : Env} {h : PH} {L : OL} {w : World} (s : Sat E h L w) : Pre h L w := ⟨s.sub, s.own, s.nd, s.dis⟩

/-- A contract. -/
def Ct (P : Program) (k : FuncId) (args : Array Value) (h : PH) (L : OL) (R : Value → PH → OL → Prop) : Prop :=
  ∀ w, Pre h L w → Calls P k args w fun e w' => ∃ v h' L', e = .returned v ∧ Sat ⟨w, h, L.map (·.1)⟩ h' L' w' ∧ R v h' L'

theorem Ct.mono {P : Program} {k : FuncId} {args : Array Value} {h : PH} {L : OL} {R R' : Value → PH → OL → Prop} (c : Ct P k args h L R)
    (hr : ∀ v h' L', h.le h' → R v h' L' → R' v h' L') : Ct P k args h L R' :=
  fun w p => (c w p).mono fun _ _ ⟨v, h', L', e, s, r⟩ => ⟨v, h', L', e, s, hr v h' L' s.le r⟩

def lift (E : Env) (K : SP) : Fr → World → Prop := fun f w => ∃ h L, Sat E h L w ∧ K f h L
def WO (P : Program) (n : Nat) (ops : Array Oper) (E : Env) (K : SP) (l : List Oper) (f : Fr) (h : PH) (L : OL) : Prop :=
  ∀ w, Sat E h L w → WL P n ops (lift E K) l f w
def WS (P : Program) (n : Nat) (E : Env) (c : Code) (K : SP) (X : Nat → SP) (R : SP) (f : Fr) (h : PH) (L : OL) : Prop :=
  ∀ w, Sat E h L w → WC P n c (lift E K) (fun i => lift E (X i)) (lift E R) f w

/-! ### Steps of the heap -/
section
variable {E : Env} {h : PH} {L : OL} {w : World}

theorem Sat.lt (s : Sat E h L w) {b : Nat} {o : Obj} (e : h b = some o) : b < w.heap.size := (Array.getElem?_eq_some_iff.1 (s.sub b o e)).1
theorem Sat.ltL (s : Sat E h L w) {e : Nat × Obj} (he : e ∈ L) : e.1 < w.heap.size := (Array.getElem?_eq_some_iff.1 (s.own e he)).1

theorem Sat.drew (s : Sat E h L w) (k : Nat) : Sat E h L { w with drawn := k } :=
  ⟨s.os, s.tape, s.output, s.size, s.keep, s.le, s.sub, s.own, s.nd, s.dis, s.newL, s.newH⟩

theorem Sat.alloc (s : Sat E h L w) (o : Obj) : Sat E h ((w.heap.size, o) :: L) (w.alloc o) := by
  have old : ∀ k, k < w.heap.size → (w.alloc o).heap[k]? = w.heap[k]? := fun k hk => Go.RowKit.Below.heap_alloc w o k hk
  refine ⟨s.os, s.tape, s.output, by simp; have := s.size; omega, fun b hb hn => ?_, s.le, fun b o' e => ?_, fun e he => ?_, ?_, fun e he => ?_, fun e he => ?_, s.newH⟩
  · rw [old b (Nat.lt_of_lt_of_le hb s.size)]; exact s.keep b hb hn
  · rw [old b (s.lt e)]; exact s.sub b o' e
  · rcases List.mem_cons.1 he with rfl | he
    · exact heap_alloc_new w o
    · rw [old _ (s.ltL he)]; exact s.own e he
  · simp only [List.map_cons, List.nodup_cons]
    refine ⟨fun hm => ?_, s.nd⟩
    obtain ⟨e, he, hb⟩ := List.mem_map.1 hm
    have := s.ltL he
    omega
  · rcases List.mem_cons.1 he with rfl | he
    · cases e : h w.heap.size with
      | none => rfl
      | some o' => have := s.lt e; omega
    · exact s.dis e he
  · rcases List.mem_cons.1 he with rfl | he
    · exact .inr s.size
    · exact s.newL e he

/-- L has the block b, holding o; L' is the rest. -/
inductive Take : OL → Nat → Obj → OL → Prop
  | head {b o L} : Take ((b, o) :: L) b o L
  | tail {e L b o L'} : Take L b o L' → Take (e :: L) b o (e :: L')
/-- L with the block b, which holds o, holding o'. -/
inductive Put : OL → Nat → Obj → Obj → OL → Prop
  | head {b o o' L} : Put ((b, o) :: L) b o o' ((b, o') :: L)
  | tail {e L b o o' L'} : Put L b o o' L' → Put (e :: L) b o o' (e :: L')

theorem Take.mem {L L' : OL} {b : Nat} {o : Obj} (t : Take L b o L') : (b, o) ∈ L ∧ ∀ e ∈ L', e ∈ L := by
  induction t with
  | head => exact ⟨by simp, fun e he => by simp [he]⟩
  | tail _ ih => exact ⟨by simp [ih.1], fun e he => by rcases List.mem_cons.1 he with rfl | he <;> simp_all⟩
theorem Take.perm {L L' : OL} {b : Nat} {o : Obj} (t : Take L b o L') : L.Perm ((b, o) :: L') := by
  induction t with
  | head => exact List.Perm.refl _
  | tail _ ih => exact (List.Perm.cons _ ih).trans (List.Perm.swap _ _ _)
theorem Put.take {L L' : OL} {b : Nat} {o o' : Obj} (p : Put L b o o' L') : ∃ L1, L.Perm ((b, o) :: L1) ∧ L'.Perm ((b, o') :: L1) := by
  induction p with
  | head => exact ⟨_, List.Perm.refl _, List.Perm.refl _⟩
  | tail _ ih =>
    obtain ⟨L1, h1, h2⟩ := ih
    exact ⟨_ :: L1, (List.Perm.cons _ h1).trans (List.Perm.swap _ _ _), (List.Perm.cons _ h2).trans (List.Perm.swap _ _ _)⟩

theorem Sat.perm (s : Sat E h L w) {L' : OL} (p : L.Perm L') : Sat E h L' w :=
  ⟨s.os, s.tape, s.output, s.size, s.keep, s.le, s.sub, fun e he => s.own e (p.mem_iff.2 he), (p.map _).nodup_iff.1 s.nd, fun e he => s.dis e (p.mem_iff.2 he), fun e he => s.newL e (p.mem_iff.2 he), s.newH⟩

/-- Own blocks may be let go. -/
theorem Sat.drop (s : Sat E h L w) {L' : OL} (p : L'.Sublist L) : Sat E h L' w :=
  ⟨s.os, s.tape, s.output, s.size, s.keep, s.le, s.sub, fun e he => s.own e (p.subset he), (p.map _).nodup s.nd, fun e he => s.dis e (p.subset he), fun e he => s.newL e (p.subset he), s.newH⟩

/-- An own block becomes one that stays as it is. -/
theorem Sat.freeze {b : Nat} {o : Obj} (s : Sat E h ((b, o) :: L) w) : Sat E (h.add b o) L w := by
  have hb : h b = none := s.dis (b, o) (by simp)
  have hnd : b ∉ L.map (·.1) := (List.nodup_cons.1 (by simpa using s.nd)).1
  refine ⟨s.os, s.tape, s.output, s.size, s.keep, fun k x e => ?_, fun k x e => ?_, fun e he => s.own e (by simp [he]), (List.nodup_cons.1 (by simpa using s.nd)).2, fun e he => ?_, fun e he => s.newL e (by simp [he]), fun k x e => ?_⟩
  · have h1 := s.le k x e
    unfold PH.add; split
    · rename_i hk; subst hk; rw [hb] at h1; cases h1
    · exact h1
  · unfold PH.add at e; split at e
    · rename_i hk; cases e; subst hk; exact s.own (k, o) (by simp)
    · exact s.sub k x e
  · unfold PH.add; split
    · rename_i hk; exact absurd (List.mem_map.2 ⟨e, he, hk⟩) hnd
    · exact s.dis e (by simp [he])
  · unfold PH.add at e; split at e
    · rename_i hk; cases e; subst hk
      rcases s.newL (k, o) (by simp) with h1 | h1
      · exact .inr (.inl h1)
      · exact .inr (.inr h1)
    · exact s.newH k x e

theorem PH.le_add {h : PH} {b : Nat} {o : Obj} (hb : h b = none) : h.le (h.add b o) := fun k x e => by
  unfold PH.add; split
  · rename_i hk; subst hk; rw [hb] at e; cases e
  · exact e
theorem PH.add_same (h : PH) (b : Nat) (o : Obj) : h.add b o b = some o := by simp [PH.add]

/-- An own block is written. -/
theorem Sat.put {b : Nat} {o o' : Obj} {L' : OL} (s : Sat E h L w) (p : Put L b o o' L') {w' : World}
    (hos : w'.os = w.os) (ht : w'.tape = w.tape) (hout : w'.output = w.output) (hsz : w'.heap.size = w.heap.size)
    (hb : w'.heap[b]? = some o') (hoth : ∀ k, k ≠ b → w'.heap[k]? = w.heap[k]?) : Sat E h L' w' := by
  obtain ⟨L1, p1, p2⟩ := p.take
  have s := s.perm p1
  have hbn : h b = none := s.dis (b, o) (by simp)
  have hnd := List.nodup_cons.1 (show (b :: L1.map (·.1)).Nodup by simpa using s.nd)
  have hne : ∀ e ∈ L1, e.1 ≠ b := fun e he eq => hnd.1 (List.mem_map.2 ⟨e, he, eq⟩)
  refine Sat.perm (L := (b, o') :: L1) ?_ p2.symm
  refine ⟨hos.trans s.os, ht.trans s.tape, hout.trans s.output, by rw [hsz]; exact s.size, fun k hk hn => ?_, s.le, fun k x e => ?_, fun e he => ?_, ?_, fun e he => ?_, fun e he => ?_, s.newH⟩
  · rw [hoth k ?_]
    · exact s.keep k hk hn
    · rintro rfl
      rcases s.newL (k, o) (by simp) with h1 | h1
      · exact hn h1
      · exact absurd hk (Nat.not_lt.2 h1)
  · rw [hoth k (fun e' => by subst e'; rw [hbn] at e; cases e)]; exact s.sub k x e
  · rcases List.mem_cons.1 he with rfl | he
    · exact hb
    · rw [hoth _ (hne e he)]; exact s.own e (by simp [he])
  · simpa using s.nd
  · rcases List.mem_cons.1 he with rfl | he
    · exact hbn
    · exact s.dis e (by simp [he])
  · rcases List.mem_cons.1 he with rfl | he
    · exact s.newL (b, o) (by simp)
    · exact s.newL e (by simp [he])

/-- Behind a callee that was handed the part L1 of what is owned. -/
theorem Sat.call {L1 L2 : OL} (s : Sat E h (L1 ++ L2) w) {h' : PH} {L' : OL} {w' : World} (c : Sat ⟨w, h, L1.map (·.1)⟩ h' L' w') : Sat E h' (L' ++ L2) w' := by
  have hnd := s.nd
  rw [List.map_append, List.nodup_append] at hnd
  have notin : ∀ e ∈ L2, e.1 ∉ L1.map (·.1) := fun e he hm => hnd.2.2 _ hm _ (List.mem_map.2 ⟨e, he, rfl⟩) rfl
  have lt2 : ∀ e ∈ L2, e.1 < w.heap.size := fun e he => s.ltL (by simp [he])
  have S1 : ∀ b, b ∈ L1.map (·.1) → b ∈ E.S0 ∨ E.w0.heap.size ≤ b := fun b hb => by
    obtain ⟨e, he, rfl⟩ := List.mem_map.1 hb
    exact s.newL e (by simp [he])
  refine ⟨c.os.trans s.os, c.tape.trans s.tape, c.output.trans s.output, Nat.le_trans s.size c.size, fun b hb hn => ?_, PH.le_trans s.le c.le, c.sub, fun e he => ?_, ?_, fun e he => ?_, fun e he => ?_, fun b o e => ?_⟩
  · rw [c.keep b (Nat.lt_of_lt_of_le hb s.size) (fun hm => ?_)]
    · exact s.keep b hb hn
    · rcases S1 b hm with h1 | h1
      · exact hn h1
      · exact absurd hb (Nat.not_lt.2 h1)
  · rcases List.mem_append.1 he with he | he
    · exact c.own e he
    · rw [c.keep e.1 (lt2 e he) (notin e he)]; exact s.own e (by simp [he])
  · rw [List.map_append, List.nodup_append]
    refine ⟨c.nd, hnd.2.1, fun a ha b hb hab => ?_⟩
    subst hab
    obtain ⟨e, he, rfl⟩ := List.mem_map.1 ha
    obtain ⟨e2, he2, e12⟩ := List.mem_map.1 hb
    rcases c.newL e he with h1 | h1
    · exact notin e2 he2 (by rw [e12]; exact h1)
    · have := lt2 e2 he2
      have h1 : w.heap.size ≤ e.1 := h1
      omega
  · rcases List.mem_append.1 he with he | he
    · exact c.dis e he
    · cases hh : h' e.1 with
      | none => rfl
      | some o =>
        rcases c.newH e.1 o hh with h1 | h1 | h1
        · have := s.dis e (by simp [he]); have h1 : h e.1 = some o := h1; rw [this] at h1; cases h1
        · exact absurd h1 (notin e he)
        · have := lt2 e he; have h1 : w.heap.size ≤ e.1 := h1; omega
  · rcases List.mem_append.1 he with he | he
    · rcases c.newL e he with h1 | h1
      · exact S1 _ h1
      · exact .inr (Nat.le_trans s.size h1)
    · exact s.newL e (by simp [he])
  · rcases c.newH b o e with h1 | h1 | h1
    · exact s.newH b o h1
    · exact (S1 b h1).imp_right id |>.elim (fun x => .inr (.inl x)) (fun x => .inr (.inr x))
    · exact .inr (.inr (Nat.le_trans s.size h1))
end

/-! ### What is there to be read -/
def At (h : PH) (L : OL) (b : Nat) (o : Obj) : Prop := h b = some o ∨ (b, o) ∈ L
theorem Sat.at {E : Env} {h : PH} {L : OL} {w : World} (s : Sat E h L w) {b : Nat} {o : Obj} (a : At h L b o) : w.heap[b]? = some o := a.elim (s.sub b o) (s.own (b, o))
theorem At.h {h : PH} {L : OL} {b : Nat} {o : Obj} (e : h b = some o) : At h L b o := .inl e
theorem At.head {h : PH} {L : OL} {b : Nat} {o : Obj} : At h ((b, o) :: L) b o := .inr (by simp)
theorem At.tail {h : PH} {L : OL} {e : Nat × Obj} {b : Nat} {o : Obj} (a : At h L b o) : At h (e :: L) b o := a.imp id (fun m => by simp [m])

/-- The cells vs lie at (b, o). -/
def Cells (h : PH) (L : OL) (b o : Nat) (vs : List Value) : Prop := ∃ cs T fr, (vs ≠ [] → At h L b (.cells cs T fr)) ∧ o + vs.length ≤ cs.size ∧ (cs.toList.drop o).take vs.length = vs

theorem Cells.get {E : Env} {h : PH} {L : OL} {w : World} (s : Sat E h L w) {b o : Nat} {vs : List Value} (c : Cells h L b o vs) :
    ∀ j v, vs[j]? = some v → w.cell? ((⟨b, o, none⟩ : Addr).add j) = some v := by
  obtain ⟨cs, T, fr, ha, hl, he⟩ := c
  intro j v hv
  have hg := s.at (ha fun e => by rw [e] at hv; simp at hv)
  rw [Addr.add_lit, cell_of_row w b (o + j) cs T fr hg]
  rw [← he, List.getElem?_take] at hv
  split at hv
  · rw [List.getElem?_drop] at hv; simpa using hv
  · cases hv
theorem Cells.sub {h : PH} {L : OL} {b o : Nat} {vs : List Value} (c : Cells h L b o vs) (i n : Nat) (hn : i + n ≤ vs.length) : Cells h L b (o + i) ((vs.drop i).take n) := by
  obtain ⟨cs, T, fr, ha, hl, he⟩ := c
  have hlen : ((vs.drop i).take n).length = n := by simp; omega
  refine ⟨cs, T, fr, fun hne => ha fun e => hne (by rw [e]; simp), by rw [hlen]; omega, ?_⟩
  rw [hlen, ← List.drop_drop]
  conv => rhs; rw [← he]
  rw [List.drop_take, List.take_take, Nat.min_eq_left (by omega)]
theorem Cells.mono {h h' : PH} {L : OL} (l : h.le h') {b o : Nat} {vs : List Value} (c : Cells h [] b o vs) : Cells h' L b o vs := by
  obtain ⟨cs, T, fr, ha, hl, he⟩ := c
  refine ⟨cs, T, fr, fun hne => ?_, hl, he⟩
  rcases ha hne with ha | ha
  · exact .inl (l _ _ ha)
  · simp at ha

/-- A slice value v of n elements, each of sz cells, reads as vs. -/
def Sl (h : PH) (L : OL) (sz : Nat) (v : Value) (n : Nat) (vs : List Value) : Prop :=
  vs.length = n * sz ∧ ((∃ a, v = .slice a 0 0 ∧ n = 0) ∨ ∃ b o cap, v = .slice (some ⟨b, o, none⟩) n cap ∧ n ≤ cap ∧ cap ≤ maxLen ∧ Cells h L b o vs)
theorem Sl.mono {h h' : PH} {L : OL} (l : h.le h') {sz n : Nat} {v : Value} {vs : List Value} (s : Sl h [] sz v n vs) : Sl h' L sz v n vs :=
  ⟨s.1, s.2.imp id fun ⟨b, o, cap, e, h1, h2, c⟩ => ⟨b, o, cap, e, h1, h2, c.mono l⟩⟩
theorem Sl.nil (h : PH) (L : OL) (sz : Nat) : Sl h L sz (.slice none 0 0) 0 [] := ⟨by simp, .inl ⟨_, rfl, rfl⟩⟩
theorem Sl.val {h : PH} {L : OL} {sz n : Nat} {v : Value} {vs : List Value} (s : Sl h L sz v n vs) : ∃ a cap, v = .slice a n cap := by
  rcases s.2 with ⟨_, rfl, rfl⟩ | ⟨b, o, cap, rfl, _⟩
  · exact ⟨_, _, rfl⟩
  · exact ⟨_, _, rfl⟩


theorem exists_least (p : Nat → Prop) (h : ∃ m, p m) : ∃ m, p m ∧ ∀ k, p k → m ≤ k := by
  obtain ⟨m, hm⟩ := h
  induction m using Nat.strongRecOn with
  | _ m ih =>
    by_cases hk : ∃ k, k < m ∧ p k
    · obtain ⟨k, hkm, hpk⟩ := hk; exact ih k hkm hpk
    · exact ⟨m, hm, fun k hpk => Nat.le_of_not_lt fun hlt => hk ⟨k, hlt, hpk⟩⟩
noncomputable def sInfM (p : Nat → Prop) : Nat := @dite _ (∃ m, p m) (Classical.propDecidable _) (fun h => Classical.choose (exists_least p h)) (fun _ => 0)
theorem sInfM_spec (p : Nat → Prop) (m : Nat) (hm : p m) : p (sInfM p) ∧ ∀ k, p k → sInfM p ≤ k := by
  have hex : ∃ m, p m := ⟨m, hm⟩
  have e : sInfM p = Classical.choose (exists_least p hex) := by unfold sInfM; rw [dif_pos hex]
  rw [e]
  exact Classical.choose_spec (exists_least p hex)

/-! ### Code over the symbolic heap -/
section
variable {P : Program} {n : Nat} {E : Env} {K : SP} {X : Nat → SP} {R : SP} {f : Fr} {h : PH} {L : OL}

theorem WS.skip (k : K f h L) : WS P n E .skip K X R f h L := fun _ s => WC.skip ⟨h, L, s, k⟩
theorem WS.ret (k : R f h L) : WS P n E .ret K X R f h L := fun _ s => WC.ret ⟨h, L, s, k⟩
theorem WS.exit {i : Nat} (k : X i f h L) : WS P n E (.exit i) K X R f h L := fun _ s => WC.exit ⟨h, L, s, k⟩
theorem WS.seq {x y : Code} (k : ∀ K' : SP, (∀ f h L, WS P n E y K X R f h L → K' f h L) → WS P n E x K' X R f h L) : WS P n E (.seq x y) K X R f h L :=
  fun w s => WC.seq ((k _ (fun _ _ _ h => h) w s).mono (fun _ w ⟨_, _, s, k⟩ => k w s) (fun _ _ _ h => h) (fun _ _ h => h))
theorem WS.cond {c : Operand} {x y : Code} {t : Bool} (hc : evo f c = .bool t) (h1 : t = true → WS P n E x K X R f h L) (h2 : t = false → WS P n E y K X R f h L) :
    WS P n E (.cond c x y) K X R f h L := fun w s => WC.cond hc (fun e => h1 e w s) (fun e => h2 e w s)
theorem WS.block {i : Nat} {c : Code} (k : WS P n E c K (fun j f h L => if j = i then K f h L else X j f h L) R f h L) : WS P n E (.block i c) K X R f h L :=
  fun w s => WC.block ((k w s).mono (fun _ _ h => h) (fun j f w ⟨h, L, s, k⟩ => by
    dsimp only at k
    by_cases e : j = i
    · rw [if_pos e] at k ⊢; exact ⟨h, L, s, k⟩
    · rw [if_neg e] at k ⊢; exact ⟨h, L, s, k⟩) (fun _ _ h => h))
theorem WS.region {id : Nat} {ops : Array Oper} (k : WO P n ops E K ops.toList f h L) : WS P n E (.region id ops false) K X R f h L := fun w s => WC.region (k w s)
theorem WS.mono {c : Code} {K' : SP} {X' : Nat → SP} {R' : SP} (k : WS P n E c K X R f h L) (hK : ∀ f h L, K f h L → K' f h L) (hX : ∀ i f h L, X i f h L → X' i f h L)
    (hR : ∀ f h L, R f h L → R' f h L) : WS P n E c K' X' R' f h L :=
  fun w s => (k w s).mono (fun _ _ ⟨h, L, s, k⟩ => ⟨h, L, s, hK _ _ _ k⟩) (fun i _ _ ⟨h, L, s, k⟩ => ⟨h, L, s, hX i _ _ _ k⟩) (fun _ _ ⟨h, L, s, k⟩ => ⟨h, L, s, hR _ _ _ k⟩)
/-- A loop: what holds at its head, by a number that falls. -/
theorem WS.loop {c : Code} (I : Nat → SP) (m : Nat) (h0 : I m f h L)
    (hI : ∀ m f h L, E.h0.le h → I m f h L → WS P n E c (fun f h L => ∃ m', m' < m ∧ I m' f h L) X R f h L) : WS P n E (.loop c) K X R f h L := by
  intro w s
  have key : ∀ m f w, lift E (I m) f w → ∀ Q : Exit → Act → World → Prop, (∀ i a f w, Rel n a f → lift E (X i) f w → Q (.exit i) a w) →
      (∀ a f w, Rel n a f → lift E R f w → Q .ret a w) → ∀ a, Rel n a f → (Code.loop c).wp P Q a w := by
    intro m f w hi Q hX hR a hr
    refine wp_loop (fun a w => ∃ m f, Rel n a f ∧ lift E (I m) f w) (fun a w => sInfM (fun m => ∃ f, Rel n a f ∧ lift E (I m) f w)) ⟨m, f, hr, hi⟩ ?_
    intro a w ⟨m0, f0, hr0, hi0⟩
    obtain ⟨hm, hmin⟩ := sInfM_spec (fun m => ∃ f, Rel n a f ∧ lift E (I m) f w) m0 ⟨f0, hr0, hi0⟩
    obtain ⟨f1, hr1, h1, L1, s1, k1⟩ := hm
    refine (hI _ f1 h1 L1 s1.le k1 w s1) _ ?_ ?_ ?_ a hr1
    case refine_2 => exact fun i a f w hr hx => hX i a f w hr hx
    case refine_3 => exact fun a f w hr hx => hR a f w hr hx
    intro a' f' w' hr' hk
    obtain ⟨h2, L2, s2, m2, hlt, hk2⟩ := hk
    refine ⟨⟨m2, f', hr', h2, L2, s2, hk2⟩, Nat.lt_of_le_of_lt ?_ hlt⟩
    exact (sInfM_spec (fun m => ∃ f, Rel n a' f ∧ lift E (I m) f w') m2 ⟨f', hr', h2, L2, s2, hk2⟩).2 m2 ⟨f', hr', h2, L2, s2, hk2⟩
  exact fun Q _ hX hR a hr => key m f w ⟨h, L, s, h0⟩ Q hX hR a hr
end
end Go.Bz
