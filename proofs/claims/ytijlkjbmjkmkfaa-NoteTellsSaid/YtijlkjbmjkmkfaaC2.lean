/- What came in, read by its type: numbers, texts, arrays of bytes, structs, arrays, slices. Conditions: those that each theorem names. -/
import Derived.Test.YtijlkjbmjkmkfaaB7
import Derived.Test.YtijlkjbmjkmkfaaRows
import Derived.WalkKit
import Derived.ProofKit
import Derived.OpenShut
import Derived.ChangeOld
import Derived.Below
namespace Go.Bz
open Go.ChangeAt Go.ChangeShapes Go.WideShapes Go.RowKit

def hp (w : World) : PH := fun b => w.heap[b]?
theorem hp_pre (w : World) : Pre (hp w) [] w := ⟨fun _ _ e => e, fun _ h => (by cases h), by simp, fun _ h => (by cases h)⟩
theorem Ct.top {P : Program} {k : FuncId} {args : Array Value} {w : World} {R : Value → PH → OL → Prop} (c : Ct P k args (hp w) [] R) :
    Calls P k args w fun e w' => ∃ v, e = .returned v ∧ Below w.heap.size w w' ∧ ∃ h' L', Sat ⟨w, hp w, []⟩ h' L' w' ∧ R v h' L' :=
  (c w (hp_pre w)).mono fun e w' ⟨v, h', L', he, s, r⟩ => ⟨v, he, ⟨s.os, s.tape, s.output, s.size, fun k hk => s.keep k hk (fun h => (by cases h))⟩, h', L', s, r⟩

/-- The cells cs are those of a value of type t that came in; no text and no slice of it is too great. -/
def G {H : Type} (enc : TypeId × Value → H) (P : Program) (w : World) (t : TypeId) (cs : List Value) : Prop :=
  ∃ fuel d ps, DataW.trod enc P w 0 (fun _ => true) true fuel t cs = some (d, ps) ∧ ∀ x ∈ d.weights P t, x ≤ reachBytes

section
variable {H : Type} {enc : TypeId × Value → H} {P : Program} {w : World} {t : TypeId} {cs : List Value}
theorem weightsEach_mem : ∀ {ts : List TypeId} {ds : List (DataW H)} {i : Nat} {t : TypeId} {d : DataW H}, ts[i]? = some t → ds[i]? = some d → ∀ x ∈ d.weights P t, x ∈ DataW.weightsEach P ts ds
  | [], _, i, _, _, h, _ => by simp at h
  | _ :: _, [], i, _, _, _, h => by simp at h
  | u :: ts, e :: ds, 0, t, d, h1, h2 => by
    simp at h1 h2; subst h1; subst h2
    intro x hx; unfold DataW.weightsEach; exact List.mem_append_left _ hx
  | u :: ts, e :: ds, i + 1, t, d, h1, h2 => by
    intro x hx; unfold DataW.weightsEach
    exact List.mem_append_right _ (weightsEach_mem (by simpa using h1) (by simpa using h2) x hx)
theorem weightsAll_mem {e : TypeId} : ∀ {ds : List (DataW H)} {i : Nat} {d : DataW H}, ds[i]? = some d → ∀ x ∈ d.weights P e, x ∈ DataW.weightsAll P e ds
  | [], i, _, h => by simp at h
  | u :: ds, 0, d, h => by
    simp at h; subst h
    intro x hx; unfold DataW.weightsAll; exact List.mem_append_left _ hx
  | u :: ds, i + 1, d, h => by
    intro x hx; unfold DataW.weightsAll
    exact List.mem_append_right _ (weightsAll_mem (by simpa using h) x hx)

theorem G.int {k : IntKind} [T : TIn P t k] (g : G enc P w t cs) : ∃ n, cs = [.int k n] ∧ k.min ≤ n ∧ n ≤ k.max := by
  obtain ⟨fuel, d, ps, h, _⟩ := g
  obtain ⟨n, rfl, _, hw⟩ := DataW.trod_int T.u h
  simp [Lit.wf] at hw
  exact ⟨n, rfl, hw⟩
theorem G.i64 [T : TIn P t .i64] (g : G enc P w t cs) : ∃ n : Int, cs = [.int .i64 n] ∧ -9223372036854775808 ≤ n ∧ n ≤ 9223372036854775807 := by
  obtain ⟨n, e, h1, h2⟩ := g.int
  exact ⟨n, e, by simpa [IntKind.min, IntKind.signed, IntKind.bits] using h1, by simpa [IntKind.max, IntKind.signed, IntKind.bits] using h2⟩
theorem G.u8 [T : TIn P t .u8] (g : G enc P w t cs) : ∃ b : UInt8, cs = [.int .u8 b.toNat] := by
  obtain ⟨n, rfl, h1, h2⟩ := g.int
  simp [IntKind.min, IntKind.max, IntKind.signed, IntKind.bits] at h1 h2
  refine ⟨byteOf n, ?_⟩
  rw [byteOf_nat]
  congr 2; omega
theorem G.bool [T : TBo P t] (g : G enc P w t cs) : ∃ b, cs = [.bool b] := by
  obtain ⟨fuel, d, ps, h, _⟩ := g
  obtain ⟨b, rfl, _⟩ := DataW.trod_bool T.u h
  exact ⟨b, rfl⟩
theorem G.str [T : TStr P t] (g : G enc P w t cs) : ∃ s : ByteArray, cs = [.string s] ∧ s.size ≤ reachBytes := by
  obtain ⟨fuel, d, ps, h, hw⟩ := g
  obtain ⟨s, rfl, hx, _⟩ := DataW.trod_string T.u h
  simp only [Prod.mk.injEq] at hx
  obtain ⟨rfl, rfl⟩ := hx
  refine ⟨s, rfl, ?_⟩
  have := hw s.data.toList.length (by unfold DataW.weights; simp)
  simpa using this
theorem G.fld {i ft off : Nat} [T : TFt P t i ft off] {agg : Bool} {sz : Nat} [I : TI P ft agg sz] (g : G enc P w t cs) : G enc P w ft ((cs.drop off).take sz) := by
  obtain ⟨fs, fd, hu, hf, rfl, rfl⟩ := T.f
  obtain ⟨fuel, d, ps, h, hw⟩ := g
  obtain ⟨xs, n, rfl, hx, hl, hxl, hall⟩ := DataW.trod_struct hu h
  have h1 := hall i fd hf
  have hi : i < xs.length := by rw [hxl]; exact (Array.getElem?_eq_some_iff.1 hf).1
  rw [List.getElem?_eq_getElem hi, cellsOf_of (P := P) (t := fd.type) (sz := sz)] at h1
  simp only [Prod.mk.injEq] at hx
  obtain ⟨rfl, rfl⟩ := hx
  refine ⟨n, _, _, h1, fun x hx => hw x ?_⟩
  unfold DataW.weights
  rw [hu]
  exact weightsEach_mem (i := i) (t := fd.type) (d := xs[i].1) (by rw [List.getElem?_map, Array.getElem?_toList, hf]; rfl) (by simp [hi]) x hx
theorem G.len {m : Nat} [I : TI P t true m] (g : G enc P w t cs) : cs.length = m := by
  obtain ⟨fuel, d, ps, h, hw⟩ := g
  obtain ⟨dd, hd, ha⟩ := I.ag
  have hc := cellsOf_of (P := P) (t := t) (sz := m)
  cases dd with
  | struct fs => obtain ⟨_, _, _, _, hl, _⟩ := DataW.trod_struct hd h; rw [hl, hc]
  | array n e => obtain ⟨_, _, _, _, hl, _⟩ := DataW.trod_array hd h; rw [hl, hc]
  | _ => simp [isAggD] at ha
theorem G.elem {n e : Nat} [T : TAr P t n e] {agg : Bool} {sz : Nat} [I : TI P e agg sz] (g : G enc P w t cs) {i : Nat} (hi : i < n) : G enc P w e ((cs.drop (i * sz)).take sz) := by
  obtain ⟨fuel, d, ps, h, hw⟩ := g
  obtain ⟨xs, m, rfl, hx, hl, hxl, hall⟩ := DataW.trod_array T.u h
  have h1 := hall i hi
  have hi' : i < xs.length := by omega
  rw [List.getElem?_eq_getElem hi', cellsOf_of (P := P) (t := e) (sz := sz)] at h1
  simp only [Prod.mk.injEq] at hx
  obtain ⟨rfl, rfl⟩ := hx
  refine ⟨m, _, _, h1, fun x hx => hw x ?_⟩
  unfold DataW.weights
  rw [T.u]
  exact weightsAll_mem (i := i) (d := xs[i].1) (by simp [hi']) x hx
theorem exists_list {α : Type} {n : Nat} {p : Nat → α → Prop} (h : ∀ i, i < n → ∃ a, p i a) : ∃ l : List α, l.length = n ∧ ∀ i (hi : i < l.length), p i l[i] := by
  induction n with
  | zero => exact ⟨[], rfl, fun i hi => by simp at hi⟩
  | succ n ih =>
    obtain ⟨l, hl, hp⟩ := ih fun i hi => h i (by omega)
    obtain ⟨a, ha⟩ := h n (by omega)
    refine ⟨l ++ [a], by simp [hl], fun i hi => ?_⟩
    by_cases c : i < l.length
    · rw [List.getElem_append_left c]; exact hp i c
    · have : i = n := by simp at hi; omega
      subst this
      rw [List.getElem_append_right (by omega)]
      simpa [hl] using ha
theorem G.ab {n e : Nat} [T : TAr P t n e] [TIn P e .u8] [I : TI P e false 1] [TI P t true n] (g : G enc P w t cs) : ∃ k : AB n, cs = k.cells := by
  have hl := g.len
  obtain ⟨l, hll, hp⟩ := exists_list (n := n) (p := fun i (b : UInt8) => (cs.drop (i * 1)).take 1 = [.int .u8 b.toNat]) fun i hi => (g.elem hi).u8
  refine ⟨⟨l, hll⟩, ?_⟩
  unfold AB.cells
  apply List.ext_getElem?
  intro i
  by_cases hi : i < n
  · have h1 := hp i (by omega)
    rw [Nat.mul_one, List.drop_eq_getElem_cons (by omega : i < cs.length)] at h1
    have h2 : cs[i] = .int .u8 (l[i]).toNat := by simp only [List.take_succ_cons, List.take_zero, List.cons.injEq, and_true] at h1; exact h1
    rw [List.getElem?_eq_getElem (by omega), h2]
    simp [bc, hll, hi]
  · rw [List.getElem?_eq_none (by omega), List.getElem?_eq_none (by simp [bc]; omega)]
theorem flat_len {sz : Nat} : ∀ {css : List (List Value)}, (∀ c ∈ css, c.length = sz) → css.flatten.length = css.length * sz
  | [], _ => by simp
  | c :: css, h => by
    have := flat_len (css := css) (fun c hc => h c (by simp [hc]))
    rw [List.flatten_cons, List.length_append, this, h c (by simp), List.length_cons, Nat.add_mul]; omega
theorem take_flat {cs : List Value} {o sz : Nat} {css : List (List Value)} (h : ∀ i (hi : i < css.length), (cs.drop (o + i * sz)).take sz = css[i]) : (cs.drop o).take (css.length * sz) = css.flatten := by
  induction css generalizing o with
  | nil => simp
  | cons c css ih =>
    have h0 := h 0 (by simp)
    have ih := ih (o := o + sz) fun i hi => by
      have := h (i + 1) (by simp; omega)
      rw [show o + sz + i * sz = o + (i + 1) * sz by rw [Nat.add_mul]; omega]
      simpa using this
    rw [List.flatten_cons, ← ih, List.length_cons, Nat.add_mul, Nat.one_mul, Nat.add_comm, List.take_add, List.drop_drop]
    simp at h0
    rw [h0]
theorem G.sl {e : Nat} [T : TSl P t e] {agg : Bool} {sz : Nat} [I : TI P e agg sz] {by_ : Nat} [B : TBy P e by_] (hsz : 0 < sz) (g : G enc P w t cs) :
    ∃ (s : SV) (css : List (List Value)), cs = [s.v] ∧ Sl (hp w) [] sz s.v css.length css.flatten ∧ (∀ c ∈ css, c.length = sz ∧ G enc P w e c) ∧ css.length * by_ ≤ reachBytes := by
  obtain ⟨fuel, d, ps, h, hw⟩ := g
  have hc := cellsOf_of (P := P) (t := e) (sz := sz)
  have hby : P.bytesOf e = by_ := by
    obtain ⟨i, hi, hb⟩ := B.b
    unfold Program.bytesOf; rw [hi]; exact hb
  rcases DataW.trod_slice T.u h with ⟨rfl, _⟩ | ⟨⟨b, o, sp⟩, len, cap, elems, rest, n, rfl, rfl, hx, _, hle, hmx, hel, hall, hsp, _⟩
  · exact ⟨SV.nil, [], rfl, Sl.nil _ _ _, fun c hc => (by cases hc), by simp⟩
  · simp only [Prod.mk.injEq] at hx
    obtain ⟨rfl, rfl⟩ := hx
    rw [hc] at hall hsp
    obtain ⟨hrl, hrest⟩ := hsp rfl
    have one : ∀ i, i < len → ∃ c, w.cells? 0 (Addr.add ⟨b, o, sp⟩ (i * sz)) sz = some c ∧ G enc P w e c := fun i hi => by
      have h1 := hall i hi
      have hi' : i < elems.length := by omega
      rw [List.getElem?_eq_getElem hi'] at h1
      cases e1 : w.cells? 0 (Addr.add ⟨b, o, sp⟩ (i * sz)) sz with
      | none => rw [e1] at h1; cases h1
      | some c =>
        rw [e1] at h1
        refine ⟨c, rfl, n, _, _, h1, fun x hx => hw x ?_⟩
        unfold DataW.weights
        rw [T.u]
        exact List.mem_cons_of_mem _ (List.mem_append_left _ (weightsAll_mem (i := i) (d := elems[i].1) (by simp [hi']) x hx))
    obtain ⟨css, hcl, hcs⟩ := exists_list one
    have hbytes : len * by_ ≤ reachBytes := by
      have := hw ((elems.length + rest.length) * by_) (by unfold DataW.weights; rw [T.u]; subst hby; simp)
      rw [hel] at this
      exact Nat.le_trans (Nat.mul_le_mul_right _ (by omega)) this
    have hclen : ∀ c ∈ css, c.length = sz ∧ G enc P w e c := fun c hc => by
      obtain ⟨i, hi, rfl⟩ := List.getElem_of_mem hc
      obtain ⟨h1, h2⟩ := hcs i hi
      exact ⟨(World.cells?_some h1).2.1, h2⟩
    refine ⟨⟨some ⟨b, o, sp⟩, len, cap⟩, css, rfl, ⟨flat_len fun c hc => (hclen c hc).1, ?_⟩, hclen, by rw [hcl]; exact hbytes⟩
    rw [hcl]
    by_cases h0 : cap = 0
    · subst h0
      obtain rfl : len = 0 := by omega
      exact .inl ⟨_, rfl, rfl⟩
    · have first : ∃ c, w.cells? 0 (Addr.add ⟨b, o, sp⟩ (0 * sz)) sz = some c := by
        by_cases hl : 0 < len
        · obtain ⟨c, h1, _⟩ := one 0 hl; exact ⟨c, h1⟩
        · have h1 := hrest 0 (by omega)
          have hi' : 0 < rest.length := by omega
          obtain rfl : len = 0 := by omega
          rw [List.getElem?_eq_getElem hi'] at h1
          cases e1 : w.cells? 0 (Addr.add ⟨b, o, sp⟩ (0 * sz)) sz with
          | none => simp only [Nat.zero_add] at h1; rw [e1] at h1; cases h1
          | some c => exact ⟨c, rfl⟩
      obtain ⟨c0, hc0⟩ := first
      obtain ⟨_, hl0, hcell0⟩ := World.cells?_some hc0
      have hz : w.cell? ((Addr.add ⟨b, o, sp⟩ (0 * sz)).add 0) = c0[0]? := (hcell0 0 hsz)
      rw [List.getElem?_eq_getElem (by omega : 0 < c0.length)] at hz
      have ha0 : (Addr.add (Addr.add ⟨b, o, sp⟩ (0 * sz)) 0) = ⟨b, o, sp⟩ := by simp [Addr.add]
      rw [ha0] at hz
      unfold World.cell? at hz
      simp only at hz
      cases e1 : w.heap[b]? with
      | none => rw [e1] at hz; cases hz
      | some ob =>
        rw [e1] at hz
        cases ob with
        | cells cs T fr =>
          simp only at hz
          cases sp with
          | some q => simp at hz
          | none =>
            refine .inr ⟨b, o, cap, rfl, hle, hmx, cs, T, fr, fun _ => .inl e1, ?_⟩
            rw [flat_len fun c hc => (hclen c hc).1, hcl]
            have hget : ∀ i (hi : i < css.length) j, j < sz → cs.toList[o + i * sz + j]? = (css[i])[j]? := fun i hi j hj => by
              have h2 := (World.cells?_some (hcs i hi).1).2.2 j hj
              rw [Addr.add_lit, Addr.add_lit] at h2
              unfold World.cell? at h2
              simp only [e1] at h2
              rw [Array.getElem?_toList]
              simpa using h2
            have hseg : ∀ i (hi : i < css.length), (cs.toList.drop (o + i * sz)).take sz = css[i] := fun i hi => by
              have hli : (css[i]).length = sz := (hclen _ (List.getElem_mem hi)).1
              apply List.ext_getElem?
              intro j
              rw [List.getElem?_take]
              by_cases hj : j < sz
              · rw [if_pos hj, List.getElem?_drop]; exact hget i hi j hj
              · rw [if_neg hj, List.getElem?_eq_none (by omega)]
            have hsz2 : o + len * sz ≤ cs.size := by
              by_cases hl : len = 0
              · subst hl
                have h3 : o < cs.size := by
                  simp at hz
                  exact (Array.getElem?_eq_some_iff.1 hz).1
                omega
              · have h3 := hget (len - 1) (by omega) (sz - 1) (by omega)
                have hli : (css[len - 1]'(by omega)).length = sz := (hclen _ (List.getElem_mem _)).1
                rw [List.getElem?_eq_getElem (by omega : sz - 1 < (css[len - 1]'(by omega)).length)] at h3
                have h4 := (List.getElem?_eq_some_iff.1 h3).1
                have h5 : (len - 1) * sz + sz = len * sz := by
                  rw [show len * sz = (len - 1 + 1) * sz by rw [Nat.sub_add_cancel (by omega)], Nat.add_mul]; omega
                simp at h4
                omega
            refine ⟨hsz2, ?_⟩
            have := take_flat hseg
            rw [hcl] at this
            exact this
        | _ => simp at hz
theorem G.bytes {e : Nat} [T : TSl P t e] [I : TI P e false 1] [TIn P e .u8] [B : TBy P e 1] (g : G enc P w t cs) : ∃ (s : SV) (l : List UInt8), cs = [s.v] ∧ Bs (hp w) s.v l ∧ l.length ≤ reachBytes := by
  obtain ⟨s, css, rfl, hs, hc, hb⟩ := g.sl (by decide)
  obtain ⟨l, hl, hp⟩ := exists_list (n := css.length) (p := fun i (b : UInt8) => ∃ h : i < css.length, css[i] = [.int .u8 b.toNat]) fun i hi => by
    obtain ⟨b, hb⟩ := (hc _ (List.getElem_mem hi)).2.u8
    exact ⟨b, hi, hb⟩
  have e : css.flatten = bc l := by
    have : css = l.map fun b => [Value.int .u8 b.toNat] := by
      apply List.ext_getElem (by simp [hl])
      intro i h1 h2
      obtain ⟨_, h3⟩ := hp i (by omega)
      simp [h3]
    rw [this]
    clear hp this hl hs hc hb
    induction l with
    | nil => rfl
    | cons a l ih => simp [bc] at ih ⊢; exact ih
  refine ⟨s, l, rfl, ?_, by omega⟩
  rw [← hl, e] at hs
  exact hs
/-- The cells of a struct, one field behind the other. -/
theorem cut_at {cs : List Value} (o n : Nat) (h : o + n ≤ cs.length) : cs.drop o = (cs.drop o).take n ++ cs.drop (o + n) := by
  rw [← List.drop_drop, List.take_append_drop]
/-- The arguments of a call, as they came in. -/
theorem G.args : ∀ {ts : List TypeId} {vs : List Value} {ds gs : List (DataW H)} {p : List MemPlace} {us : List TypeId}, DataW.TrodAll enc P w 0 (fun _ => true) true ts vs ds p → (DataW.weightsEach P (ts ++ us) (ds ++ gs)).all (· ≤ reachBytes) = true →
    vs.length = ts.length ∧ ∀ (i : Nat) (t : TypeId) (v : Value), ts[i]? = some t → vs[i]? = some v → G enc P w t v.cells.toList := by
  intro ts
  induction ts with
  | nil =>
    intro vs ds gs p us h _
    cases vs with
    | nil => exact ⟨rfl, fun i t v h => by simp at h⟩
    | cons v vs => cases ds <;> simp [DataW.TrodAll] at h
  | cons t ts ih =>
    intro vs ds gs p us h hw
    cases vs with
    | nil => cases ds <;> simp [DataW.TrodAll] at h
    | cons v vs =>
      cases ds with
      | nil => simp [DataW.TrodAll] at h
      | cons d ds =>
        obtain ⟨p1, q1, ⟨fuel, h1⟩, h2, _⟩ := h
        have hw' : ∀ x ∈ d.weights P t ++ DataW.weightsEach P (ts ++ us) (ds ++ gs), x ≤ reachBytes := fun x hx => by
          have := List.all_eq_true.1 hw x (by show x ∈ DataW.weightsEach P (t :: (ts ++ us)) (d :: (ds ++ gs)); unfold DataW.weightsEach; exact hx)
          simpa using this
        obtain ⟨i1, i2⟩ := ih (gs := gs) (us := us) h2 (List.all_eq_true.2 fun x hx => by simpa using hw' x (List.mem_append_right _ hx))
        refine ⟨by simp [i1], fun i t' v' ht hv => ?_⟩
        cases i with
        | zero =>
          simp at ht hv; subst ht; subst hv
          exact ⟨fuel, d, p1, h1, fun x hx => hw' x (List.mem_append_left _ hx)⟩
        | succ i => exact i2 i t' v' (by simpa using ht) (by simpa using hv)
end
end Go.Bz
