/- Slices of bytes, strings, literals: what they read as, and what the operations on them come to. Conditions: those that each theorem names. -/
import Derived.Test.YtijlkjbmjkmkfaaT0
import Derived.Test.YtijlkjbmjkmkfaaB5
import Derived.Test.YtijlkjbmjkmkfaaS0
namespace Go.Bz

theorem evo_here (f : Fr) (d : Nat) (v : Value) : evo (upd f d v) (.tmp d) = v := by simp only [evo, upd, ↓reduceIte]
theorem evo_there {f : Fr} {d e : Nat} {v v' : Value} (h : Nat.beq e d = false) (k : evo f (.tmp e) = v) : evo (upd f d v') (.tmp e) = v := by
  have : e ≠ d := fun he => by subst he; simp at h
  simp only [evo, upd, if_neg this]; exact k
theorem evo_const (f : Fr) (v : Value) : evo f (.const v) = v := rfl
theorem evo_func (f : Fr) (k : FuncId) : evo f (.func k) = .func (.func k) #[] #[] := rfl
theorem Yld.ext0 {P : Program} {f : Fr} {h : PH} {L : OL} {ty : TypeId} {x : Operand} {a : Value} {r : List Value} (hx : evo f x = .tuple (a :: r).toArray) : Yld P f h L (.extract x 0) ty a := Yld.extract hx rfl
theorem Yld.ext1 {P : Program} {f : Fr} {h : PH} {L : OL} {ty : TypeId} {x : Operand} {a b : Value} {r : List Value} (hx : evo f x = .tuple (a :: b :: r).toArray) : Yld P f h L (.extract x 1) ty b := Yld.extract hx rfl
theorem Yld.ext2 {P : Program} {f : Fr} {h : PH} {L : OL} {ty : TypeId} {x : Operand} {a b c : Value} {r : List Value} (hx : evo f x = .tuple (a :: b :: c :: r).toArray) : Yld P f h L (.extract x 2) ty c := Yld.extract hx rfl
theorem Yld.ext3 {P : Program} {f : Fr} {h : PH} {L : OL} {ty : TypeId} {x : Operand} {a b c d : Value} {r : List Value} (hx : evo f x = .tuple (a :: b :: c :: d :: r).toArray) : Yld P f h L (.extract x 3) ty d := Yld.extract hx rfl
/-- v is a slice that reads as the bytes l. -/
def Bs (h : PH) (v : Value) (l : List UInt8) : Prop := Sl h [] 1 v l.length (bc l)
theorem Bs.mono {h h' : PH} {v : Value} {l : List UInt8} (b : Bs h v l) (le : h.le h') : Bs h' v l := Sl.mono le b
theorem Bs.up {h : PH} {L : OL} {v : Value} {l : List UInt8} (b : Bs h v l) : Sl h L 1 v l.length (bc l) := Sl.mono (PH.le_refl h) b
theorem bc_get {l : List UInt8} {k : Nat} (hk : k < l.length) : (bc l)[k]? = some (.int .u8 ((l.getD k 0).toNat : Int)) := by
  simp [bc, List.getElem?_eq_getElem hk, List.getD]
theorem Bs.load {P : Program} {f : Fr} {h : PH} {L : OL} {ty t : TypeId} {x : Operand} [TI P t false 1] {v : Value} {l : List UInt8} (s : Bs h v l) {k : Nat} (hx : evo f x = elp v (k * 1)) (hk : k < l.length) :
    Yld P f h L (.load t x) ty (.int .u8 ((l.getD k 0).toNat : Int)) := Sl.load1 (L := L) s.up hx (by rw [Nat.mul_one]; exact bc_get hk)
theorem Bs.nil (h : PH) : Bs h (.slice none 0 0) [] := Sl.nil h [] 1
theorem nd_f {p : Prop} [Decidable p] (h : (!decide p) = false) : p := by simpa using h
theorem nd_t {p : Prop} [Decidable p] (h : (!decide p) = true) : ¬ p := by simpa using h
theorem wrap_i64 {x : Int} (h0 : -9223372036854775808 ≤ x) (h1 : x ≤ 9223372036854775807) : IntKind.i64.wrap x = x := IntWalk.i64_in _ ⟨h0, h1⟩
theorem or_num2 (x y : UInt8) : IntKind.i64.wrap (BitVec.ofInt IntKind.i64.bits (IntKind.i64.wrap (IntKind.i64.wrap (x.toNat : Int) * 2 ^ (min (8 : Int).toNat IntKind.i64.bits))) ||| BitVec.ofInt IntKind.i64.bits (IntKind.i64.wrap (y.toNat : Int))).toNat =
    ((num2 x y : Nat) : Int) := by
  have hx := x.toNat_lt
  have hy := y.toNat_lt
  have e1 : IntKind.i64.wrap (x.toNat : Int) = (x.toNat : Int) := wrap_i64 (by omega) (by omega)
  have e2 : IntKind.i64.wrap (y.toNat : Int) = (y.toNat : Int) := wrap_i64 (by omega) (by omega)
  have e3 : IntKind.i64.wrap ((x.toNat : Int) * 2 ^ (min (8 : Int).toNat IntKind.i64.bits)) = ((x.toNat <<< 8 : Nat) : Int) := by
    show IntKind.i64.wrap ((x.toNat : Int) * 256) = _
    rw [wrap_i64 (by omega) (by omega), Nat.shiftLeft_eq]; omega
  rw [e1, e2, e3]
  have e4 : (BitVec.ofInt IntKind.i64.bits ((x.toNat <<< 8 : Nat) : Int) ||| BitVec.ofInt IntKind.i64.bits (y.toNat : Int)).toNat = num2 x y := by
    rw [BitVec.toNat_or, BitVec.ofInt_natCast, BitVec.ofInt_natCast, BitVec.toNat_ofNat, BitVec.toNat_ofNat]
    have h1 : x.toNat <<< 8 % 2 ^ IntKind.i64.bits = x.toNat <<< 8 := Nat.mod_eq_of_lt (by rw [Nat.shiftLeft_eq]; show _ < 18446744073709551616; omega)
    have h2 : y.toNat % 2 ^ IntKind.i64.bits = y.toNat := Nat.mod_eq_of_lt (by show _ < 18446744073709551616; omega)
    rw [h1, h2, ← Nat.shiftLeft_add_eq_or_of_lt (by omega), Nat.shiftLeft_eq]
    rfl
  rw [e4]
  have : num2 x y < 65536 := by unfold num2; omega
  exact wrap_i64 (by omega) (by omega)
theorem bc_drop (l : List UInt8) (k : Nat) : (bc l).drop k = bc (l.drop k) := by simp [bc, List.map_drop]
theorem bc_take (l : List UInt8) (k : Nat) : (bc l).take k = bc (l.take k) := by simp [bc, List.map_take]

section
variable {P : Program} {n : Nat} {ops : Array Oper} {E : Env} {K : SP} {l : List Oper} {f : Fr} {h : PH} {L : OL} {h0 : PH} {L0 : OL} {late : List Nat} {π : List (Nat × Nat)}
theorem WO.split {d : Nat} {b : Bool} (_ : f d = .bool b) (h1 : b = true → WO P n ops E K l f h L) (h2 : b = false → WO P n ops E K l f h L) : WO P n ops E K l f h L := by
  cases b
  · exact h2 rfl
  · exact h1 rfl
theorem WPl.perm {L' : OL} (p : L.Perm L') (k : WPl P n ops E K h0 L0 late π f h L') : WPl P n ops E K h0 L0 late π f h L := fun hs listed fuel hp hf w s => k hs listed fuel hp hf w (s.perm p)
theorem WPl.drop {L' : OL} (p : L'.Sublist L) (k : WPl P n ops E K h0 L0 late π f h L') : WPl P n ops E K h0 L0 late π f h L := fun hs listed fuel hp hf w s => k hs listed fuel hp hf w (s.drop p)
theorem WPl.split {d : Nat} {b : Bool} (_ : f d = .bool b) (h1 : b = true → WPl P n ops E K h0 L0 late π f h L) (h2 : b = false → WPl P n ops E K h0 L0 late π f h L) : WPl P n ops E K h0 L0 late π f h L := by
  cases b
  · exact h2 rfl
  · exact h1 rfl
end

section
variable {P : Program} {f : Fr} {h : PH} {L : OL} {E : Env} {ty : TypeId} {x y : Operand} {Q : Value → PH → OL → Prop}

theorem equalIn_slice_nil {t e : TypeId} [T : TSl P t e] (d : Nat) (a : Option Addr) (n c m k : Nat) (w : World) : (Op.equalIn (d + 1) t (.slice a n c) (.slice none m k)).run P w = .ok a.isNone w := by
  unfold Op.equalIn
  rw [Sem.run_bind, run_underlying T.u]
  cases a <;> rfl
theorem eqGuard_slice (op : BinOp) (t : TypeId) (a : Option Addr) (n c : Nat) (v : Value) : eqGuard op t x y (.slice a n c) v = pure () := by cases op <;> rfl
theorem Yld.eqlNilS {t yt e : TypeId} [T : TSl P t e] {s : SV} {m k : Nat} (hx : evo f x = s.v) (hy : evo f y = .slice none m k) : Yld P f h L (.binOp .eql t x y yt) ty (.bool s.a.isNone) := by
  intro w _
  have := run_eql (P := P) (t := t) (x := s.v) (y := .slice none m k) (w := w) rfl (run_equal fun d => equalIn_slice_nil d s.a s.n s.c m k w)
  simp only [execOp, hx, hy]
  unfold SV.v at this ⊢
  simp only [eqGuard_slice]
  simp [this]

/-- v is a slice of slices that reads as ll. -/
def Rs (h : PH) (v : Value) (ll : List (List UInt8)) : Prop :=
  ∃ ss : List SV, ss.length = ll.length ∧ Sl h [] 1 v ll.length (ss.map SV.v) ∧ ∀ i, i < ll.length → Bs h (ss.getD i SV.nil).v (ll.getD i [])
theorem Rs.mono {h h' : PH} {v : Value} {ll : List (List UInt8)} (r : Rs h v ll) (le : h.le h') : Rs h' v ll := by
  obtain ⟨ss, a, b, c⟩ := r
  exact ⟨ss, a, Sl.mono le b, fun i hi => (c i hi).mono le⟩
theorem Rs.nil (h : PH) : Rs h (.slice none 0 0) [] := ⟨[], rfl, Sl.nil h [] 1, fun i hi => by simp at hi⟩
theorem sv_get {ss : List SV} {k : Nat} (hk : k < ss.length) : (ss.map SV.v)[k]? = some (ss.getD k SV.nil).v := by
  simp [List.getElem?_eq_getElem hk, List.getD]
theorem Sl.indexN {h1' : PH} {L1 : OL} {t e : TypeId} [T : TSl P t e] {agg : Bool} {sz : Nat} [I : TI P e agg sz] {n : Nat} {v : Value} {vs : List Value} (s : Sl h1' L1 sz v n vs) (hx : evo f x = v)
    {kd : IntKind} {k : Nat} (hy : evo f y = .int kd (k : Int)) (h1 : k < n) : Yld P f h L (.indexAddr t x y) ty (elp v (k * sz)) := by
  have := Sl.index (P := P) (t := t) (ty := ty) (h := h) (L := L) s hx hy (by omega) (by omega)
  simpa using this
theorem Sl.indexL {h1' : PH} {L1 : OL} {t e : TypeId} [T : TSl P t e] {agg : Bool} {sz : Nat} [I : TI P e agg sz] {n : Nat} {v : Value} {vs : List Value} (k : Nat) (s : Sl h1' L1 sz v n vs) (hx : evo f x = v)
    {kd : IntKind} {i : Int} (hy : evo f y = .int kd i) (hi : i = (k : Int)) (h1 : k < n) : Yld P f h L (.indexAddr t x y) ty (elp v (k * sz)) := by
  subst hi; exact Sl.indexN s hx hy h1
/-- s[k:] -/
theorem Bs.from_ {h1' : PH} {L1 : OL} {t e : TypeId} [T : TSl P t e] {agg : Bool} [I : TI P e agg 1] {v : Value} {l : List UInt8} (s : Sl h1' L1 1 v l.length (bc l)) (k : Nat) (hx : evo f x = v) {kd : IntKind} {i : Int} (hy : evo f y = .int kd i) (hi : i = (k : Int)) (h1 : k ≤ l.length) :
    Yld P f h L (.slice t x (some y) none none) ty (slcut v k l.length (vcap v) 1) := by
  subst hi
  exact Sl.slice s hx k l.length (vcap v) ⟨kd, k, hy, by omega, by omega⟩ ⟨rfl, rfl⟩ rfl h1 s.cap_le.1 (Nat.le_refl _)
theorem Bs.drop {v : Value} {l : List UInt8} (s : Bs h v l) (k : Nat) (h1 : k ≤ l.length) : Bs h (slcut v k l.length (vcap v) 1) (l.drop k) := by
  have := Sl.cut s k l.length (vcap v) h1 (Nat.le_refl _) s.cap_le.1 (Nat.le_refl _)
  unfold Bs
  rw [List.length_drop]
  simpa [bc_drop, bc_take, List.take_of_length_le] using this
/-- s[:k] -/
theorem Bs.to_ {h1' : PH} {L1 : OL} {t e : TypeId} [T : TSl P t e] {agg : Bool} [I : TI P e agg 1] {v : Value} {l : List UInt8} (s : Sl h1' L1 1 v l.length (bc l)) (k : Nat) (hx : evo f x = v) {kd : IntKind} {i : Int} (hy : evo f y = .int kd i) (hi : i = (k : Int)) (h1 : k ≤ l.length) :
    Yld P f h L (.slice t x none (some y) none) ty (slcut v 0 k (vcap v) 1) := by
  subst hi
  exact Sl.slice s hx 0 k (vcap v) rfl ⟨kd, k, hy, by omega, by omega⟩ rfl (Nat.zero_le _) (Nat.le_trans h1 s.cap_le.1) (Nat.le_refl _)
theorem Bs.take {v : Value} {l : List UInt8} (s : Bs h v l) (k : Nat) (h1 : k ≤ l.length) : Bs h (slcut v 0 k (vcap v) 1) (l.take k) := by
  have := Sl.cut s 0 k (vcap v) (Nat.zero_le _) h1 (Nat.le_trans h1 s.cap_le.1) (Nat.le_refl _)
  unfold Bs
  rw [List.length_take, Nat.min_eq_left h1]
  simpa [bc_drop, bc_take] using this
/-- An element of a slice of slices, loaded. -/
theorem Sl.loadSV {t : TypeId} [TI P t false 1] {v : Value} {ss : List SV} {m : Nat} (s : Sl h [] 1 v m (ss.map SV.v)) {k : Nat} (hx : evo f x = elp v (k * 1)) (hk : k < ss.length) : Yld P f h L (.load t x) ty (ss.getD k SV.nil).v :=
  Sl.load1 (L := L) (Sl.mono (PH.le_refl h) s) hx (by rw [Nat.mul_one]; exact sv_get hk)

/-! ### Literals of structs and arrays -/
theorem fold_set (cs : List Value) (off : Nat) (vs : List Value) (hle : off + vs.length ≤ cs.length) :
    (vs.toArray.zipIdx.foldl (fun (a : Array Value) (p : Value × Nat) => a.setIfInBounds (off + p.2) p.1) cs.toArray) = (spl cs off vs).toArray := by
  rw [← Array.foldl_toList]
  have key : ∀ (vs : List Value) (k : Nat) (cs : List Value), off + k + vs.length ≤ cs.length →
      ((vs.zipIdx k).foldl (fun (a : Array Value) (p : Value × Nat) => a.setIfInBounds (off + p.2) p.1) cs.toArray) = (spl cs (off + k) vs).toArray := by
    intro vs
    induction vs with
    | nil => intro k cs _; simp [spl]
    | cons v vs ih =>
      intro k cs hl
      simp only [List.length_cons] at hl
      simp only [List.zipIdx_cons, List.foldl_cons]
      rw [List.setIfInBounds_toArray, ih (k + 1) _ (by simp; omega)]
      congr 1
      unfold spl
      have h1 : (cs.set (off + k) v).take (off + (k + 1)) = cs.take (off + k) ++ [v] := by
        rw [List.take_set, ← Nat.add_assoc, List.take_succ_eq_append_getElem (by omega), List.set_append_right _ _ (by simp; omega)]
        congr 1
        have : off + k - (cs.take (off + k)).length = 0 := by simp; omega
        rw [this]; rfl
      have h2 : (cs.set (off + k) v).drop (off + (k + 1) + vs.length) = cs.drop (off + k + (v :: vs).length) := by
        rw [List.drop_set, if_pos (by omega)]
        congr 1
        simp; omega
      rw [h1, h2]; simp
  have := key vs 0 cs (by simpa using hle)
  simpa using this

inductive Fills (f : Fr) (place : Nat → Option (Nat × Nat)) : List Value → List (Nat × Operand) → List Value → Prop
  | nil {cs} : Fills f place cs [] cs
  | cons {cs cs' out vs : List Value} {v : Value} {i : Nat} {x : Operand} {ps : List (Nat × Operand)} {off sz : Nat} (hp : place i = some (off, sz)) (hv : evo f x = v) [c : VC v vs] [l : Len vs sz] [s : Spl cs off vs cs']
      (rest : Fills f place cs' ps out) : Fills f place cs ((i, x) :: ps) out

theorem fill_of {place : Nat → Option (Nat × Nat)} {cs out : List Value} {ps : List (Nat × Operand)} (F : Fills f place cs ps out) :
    Instr.fill place cs.toArray (ps.map fun p => (p.1, evo f p.2)) = some out.toArray := by
  induction F with
  | nil => rfl
  | cons hp hv _ ih =>
    rename_i cs cs' out vs v i x ps off sz c l s _
    have hs := s.le
    have hc := c.eq
    have hl := l.eq
    simp only [List.map_cons, Instr.fill, hp, hv, hc]
    rw [if_neg (by simp; omega), fold_set _ _ _ hs, s.eq]
    exact ih

theorem run_places {t : TypeId} {pl : List (Nat × Nat)} [T : TSt P t pl] (w : World) : ∃ fs, P.underlying t = some (.struct fs) ∧
    (fs.mapM (fun f => do pure (f.offset, ← sizeOf f.type) : Field → Sem (Nat × Nat))).run P w = .ok pl.toArray w := by
  obtain ⟨fs, hu, hp⟩ := T.u
  refine ⟨fs, hu, ?_⟩
  have key : ∀ (l : List Field) (pl : List (Nat × Nat)), l.map (fun fd => (P.info? fd.type).map fun j => (fd.offset, j.size)) = pl.map some →
      (l.mapM (fun f => do pure (f.offset, ← sizeOf f.type) : Field → Sem (Nat × Nat))).run P w = .ok pl w := by
    intro l
    induction l with
    | nil => intro pl h; cases pl <;> simp_all
    | cons a l ih =>
      intro pl h
      cases pl with
      | nil => simp at h
      | cons p pl =>
        simp only [List.map_cons, List.cons.injEq] at h
        cases e : P.info? a.type with
        | none => simp [e] at h
        | some j =>
          have h1 : (a.offset, j.size) = p := by simpa [e] using h.1
          have hs : (sizeOf a.type).run P w = .ok j.size w := by simp [sizeOf, typeInfo, e]
          rw [List.mapM_cons]
          simp only [Sem.run_bind, hs, Result.andThen_ok, Sem.run_pure, ih pl h.2, h1]
  have h1 := key fs.toList pl hp
  rw [Array.mapM_eq_mapM_toList, Sem.run_map, h1]
  rfl
theorem Yld.build {t : TypeId} {pl : List (Nat × Nat)} [T : TSt P t pl] {z : Value} {zc : List Value} [Z : TZc P t z zc] {parts : Array (Nat × Operand)} {out : List Value} (F : Fills f (fun i : Nat => pl[i]?) zc parts.toList out) :
    Yld P f h L (.build t parts) ty (.agg out.toArray) := by
  intro w _
  haveI := Z.tz
  obtain ⟨fs, hu, hp⟩ := run_places (P := P) (t := t) w
  have hf := fill_of F
  have e : (parts.map fun p => (p.1, evo f p.2)).toList = parts.toList.map fun p => (p.1, evo f p.2) := by simp
  rw [← e] at hf
  have hg : (fun i : Nat => pl.toArray[i]?) = fun i : Nat => pl[i]? := by funext i; simp
  rw [← hg] at hf
  simp only [execOp, Instr.build, Sem.run_bind, run_zeroValue, Result.andThen_ok, run_underlying hu, hp, Z.c, hf]
  rfl

inductive Parts (f : Fr) (sz : Nat) : Nat → List (Nat × Operand) → List Value → Prop
  | nil {k} : Parts f sz k [] []
  | cons {k : Nat} {x : Operand} {v : Value} {vs out : List Value} {ps : List (Nat × Operand)} (hv : evo f x = v) [c : VC v vs] [l : Len vs sz] (rest : Parts f sz (k + 1) ps out) : Parts f sz k ((k, x) :: ps) (vs ++ out)
theorem Parts.len {sz k : Nat} {ps : List (Nat × Operand)} {out : List Value} (F : Parts f sz k ps out) : out.length = ps.length * sz := by
  induction F with
  | nil => simp
  | cons hv _ ih => rename_i l _; rw [List.length_append, ih, l.eq, List.length_cons, Nat.add_mul]; omega
theorem fill_parts {sz k : Nat} {ps : List (Nat × Operand)} {out : List Value} (F : Parts f sz k ps out) : ∀ (done rest : List Value), done.length = k * sz → rest.length = ps.length * sz →
    Instr.fill (fun i => some (i * sz, sz)) (done ++ rest).toArray (ps.map fun p => (p.1, evo f p.2)) = some (done ++ out).toArray := by
  induction F with
  | nil => intro done rest _ hr; obtain rfl : rest = [] := List.eq_nil_of_length_eq_zero (by simpa using hr); simp [Instr.fill]
  | cons hv _ ih =>
    rename_i k x v vs out ps c l _
    intro done rest hd hr
    have hl := l.eq
    have hr' : rest.length = ps.length * sz + sz := by rw [hr, List.length_cons, Nat.add_mul]; omega
    simp only [List.map_cons, Instr.fill, hv, c.eq]
    rw [if_neg (by simp; omega), fold_set _ _ _ (by simp; omega)]
    have e : spl (done ++ rest) (k * sz) vs = (done ++ vs) ++ rest.drop sz := by
      unfold spl
      rw [← hd, List.take_left, hl, ← List.drop_drop, List.drop_left]
      simp
    rw [e, ih (done ++ vs) (rest.drop sz) (by simp [hd, hl, Nat.add_mul]) (by simp; omega)]
    simp
theorem Chn.buildSlice {t e : TypeId} [T : TSl P t e] {agg : Bool} {sz : Nat} [I : TI P e agg sz] {z : Value} {zc : List Value} [Z : TZc P e z zc] {len : Nat} {parts : Array (Nat × Operand)} {out : List Value}
    (F : Parts f sz 0 parts.toList out) (hl : parts.size = len) (hs : len * sz ≤ 16777216) (q : ∀ b, Q (.slice (some ⟨b, 0, none⟩) len len) h ((b, .cells out.toArray e) :: L)) : Chn P f E h L (.buildSlice t len parts) ty Q := by
  intro w s
  haveI := Z.tz
  refine .inl ⟨_, w.alloc (.cells out.toArray e), h, _, ?_, s.alloc _, q w.heap.size⟩
  have hz : ∀ c : Array Value, Instr.fill (fun i => some (i * sz, sz)) ((Array.range (len * sz)).map (c[· % c.size]!)) (parts.map fun p => (p.1, evo f p.2)).toList = some out.toArray := by
    intro c
    have := fill_parts F [] ((Array.range (len * sz)).map (c[· % c.size]!)).toList (by simp) (by simp [hl])
    rw [List.nil_append, List.nil_append, Array.toArray_toList] at this
    rw [Array.toList_map]
    exact this
  have hs' : ¬ (len * sz > 2 ^ 24) := by omega
  simp only [execOp, Instr.buildSlice, Sem.run_bind, run_underlying T.u, Result.andThen_ok, run_sizeOf, if_neg hs']
  by_cases h0 : len * sz = 0
  · simp only [h0, if_true, Sem.run_pure, Result.andThen_ok] at hz ⊢
    simp only [hz]
    simp [newRow]
  · simp only [h0, if_false, Sem.run_bind, run_zeroValue, Result.andThen_ok, Sem.run_pure, hz]
    simp [newRow]

theorem Yld.toStr {s d e : TypeId} [S : TSl P s e] [U : TIn P e .u8] [D : TStr P d] {v : Value} {l : List UInt8} (hx : evo f x = v) (hs : Sl h L 1 v l.length (bc l)) : Yld P f h L (.convert s d x) ty (.string ⟨l.toArray⟩) := by
  intro w st
  rcases hs.2 with ⟨a0, rfl, hl⟩ | ⟨b, o, cap, rfl, _, _, hc⟩
  · obtain rfl : l = [] := List.eq_nil_of_length_eq_zero hl
    cases a0 <;> simp [execOp, hx, convert, run_underlying S.u, run_underlying D.u, run_underlying U.u, Conv.bytesToString, loadCells, loadCellsFrom] <;> rfl
  · have hr := run_convert_bytes_arg (P := P) (w := w) s e S.u U.u b o l.length cap (l.map fun b => (b.toNat : Int)) (by simp) (fun i hi => by
      have := hc.rd st i _ (bc_get hi)
      rw [Addr.add_lit] at this
      rw [this]
      simp [List.getD, List.getElem?_eq_getElem hi]) d D.u
    have e : strOfNums (l.map fun b => (b.toNat : Int)) = ⟨l.toArray⟩ := by
      apply ByteArray.ext
      apply Array.toList_inj.1
      rw [strOfNums_data]
      simp [Function.comp_def]
    rw [e] at hr
    simp [execOp, hx, hr]
theorem Chn.toBytes {s d e : TypeId} [S : TStr P s] [D : TSl P d e] [U : TIn P e .u8] {str : ByteArray} (hx : evo f x = .string str) (hlen : str.size ≤ 9223372036854775807)
    (q : ∀ v h', h.le h' → Bs h' v str.data.toList → Q v h' L) : Chn P f E h L (.convert s d x) ty Q := by
  intro w st
  let N := grownCap w str.size 0 e
  let cs : Array Value := str.data.map (fun b => Value.int .u8 b.toNat) ++ Array.replicate (N - str.size) (.int .u8 0)
  have s1 := (st.drew (w.drawn + 1)).alloc (.cells cs e)
  have hm : (w.heap.size, Obj.cells cs e) ∈ (w.heap.size, Obj.cells cs e) :: L := by simp
  let w1 : World := ({ w with drawn := w.drawn + 1 } : World).alloc (.cells cs e)
  have hg : w1.heap[w.heap.size]? = some (.cells cs e) := s1.own _ hm
  have s2 : Sat E h ((w.heap.size, .cells cs e (cs.size, cs.size + 1)) :: L) (w1.freeze ⟨w.heap.size, cs.size, none⟩ 1) := by
    refine s1.put (o' := .cells cs e (cs.size, cs.size + 1)) Put.head rfl rfl rfl (by simp [World.freeze, w1]) ?_ ?_
    · simp only [World.freeze, if_neg (show ¬ (1 = 0) by decide)]
      rw [Array.getElem?_modify, if_pos rfl]
      rw [hg]
      simp
    · intro k hk
      simp only [World.freeze, if_neg (show ¬ (1 = 0) by decide)]
      rw [Array.getElem?_modify, if_neg (Ne.symm hk)]
  have hb : h w.heap.size = none := s2.dis _ (by simp; exact .inl rfl)
  refine .inl ⟨.slice (some ⟨w.heap.size, 0, none⟩) str.size N, _, h.add w.heap.size (.cells cs e (cs.size, cs.size + 1)), L, ?_, s2.freeze, q _ _ (PH.le_add hb) ?_⟩
  · have hcut : ∀ t, (Question.appendCap str.size 0 e).cut t = str.size + t % (2 ^ 63 - str.size) := fun _ => rfl
    simp only [execOp, hx, convert, Sem.run_bind, run_underlying S.u, run_underlying D.u, run_underlying U.u, Result.andThen_ok]
    have hch : (Conv.stringToBytes e str).run P w = .ok (.slice (some ⟨w.heap.size, 0, none⟩) str.size N) (w1.freeze ⟨w.heap.size, cs.size, none⟩ 1) := by
      have h1 : (choose (.appendCap str.size 0 e)).run P w = .ok N { w with drawn := w.drawn + 1 } := rfl
      have h2 : (newRow e cs).run P { w with drawn := w.drawn + 1 } = .ok ⟨w.heap.size, 0, none⟩ w1 := rfl
      have h3 : (shape w.heap.size).run P w1 = .ok (some (e, cs.size)) w1 := by
        show Result.ok (w1.shape? w.heap.size) w1 = _
        unfold World.shape?
        rw [hg]
      have h4 : (markStringish ⟨w.heap.size, 0, none⟩).run P w1 = .ok () (w1.freeze ⟨w.heap.size, cs.size, none⟩ 1) := by
        unfold markStringish
        rw [Sem.run_bind, h3]
        rfl
      unfold Conv.stringToBytes
      rw [Sem.run_bind, h1, Result.andThen_ok]
      simp only [Sem.run_bind]
      rw [show (newRow e (str.data.map (fun b => Value.int IntKind.u8 b.toNat) ++ Array.replicate (N - str.size) (Value.int IntKind.u8 0))).run P { w with drawn := w.drawn + 1 } = .ok ⟨w.heap.size, 0, none⟩ w1 from h2]
      simp only [Result.andThen_ok]
      rw [h4]
      rfl
    rw [hch]
    rfl
  · have hlen2 : str.data.toList.length = str.size := by simp
    have hge : str.size ≤ N := grownCap_ge w _ _ _
    have hmx : N ≤ maxLen := grownCap_le_maxLen w _ _ _ (by simp only [maxLen]; omega)
    refine ⟨by simp [bc_len], .inr ⟨w.heap.size, 0, N, by rw [hlen2], by rw [hlen2]; exact hge, hmx, cs, e, _, fun _ => .inl (PH.add_same _ _ _), ?_, ?_⟩⟩
    · simp only [bc_len, hlen2, cs]
      simp
    · simp only [bc_len, hlen2, cs, List.drop_zero]
      rw [Array.toList_append, List.take_append_of_le_length (by simp)]
      rw [List.take_of_length_le (by simp)]
      simp [bc]

/-! ### Slices that grow, in the forms that the programs have -/
theorem Chn.mono {op : Op} {Q' : Value → PH → OL → Prop} (c : Chn P f E h L op ty Q) (hq : ∀ v h' L', Q v h' L' → Q' v h' L') : Chn P f E h L op ty Q' := by
  intro w s
  rcases c w s with ⟨v, w', h', L', a, b, q⟩ | ⟨w', h', L', a, b, q⟩ | ⟨k, args, a, b⟩
  · exact .inl ⟨v, w', h', L', a, b, hq _ _ _ q⟩
  · exact .inr (.inl ⟨w', h', L', a, b, hq _ _ _ q⟩)
  · exact .inr (.inr ⟨k, args, a, b.mono fun e w' ⟨v, h', L', c, d, q⟩ => ⟨v, h', L', c, d, hq _ _ _ q⟩⟩)
theorem Chn.drop {op : Op} {L' : OL} (p : L'.Sublist L) (c : Chn P f E h L' op ty Q) : Chn P f E h L op ty Q := fun w s => c w (s.drop p)
theorem Chn.perm {op : Op} {L' : OL} (p : L.Perm L') (c : Chn P f E h L' op ty Q) : Chn P f E h L op ty Q := fun w s => c w (s.perm p)
/-- What comes behind may let go of own blocks, or let them stay as they are from now on. -/
theorem Chn.then_ {op : Op} {Q' : Value → PH → OL → Prop} (c : Chn P f E h L op ty Q') (hq : ∀ v h' L' w, Sat E h' L' w → Q' v h' L' → ∃ h'' L'', Sat E h'' L'' w ∧ Q v h'' L'') : Chn P f E h L op ty Q := by
  intro w s
  rcases c w s with ⟨v, w', h', L', a, b, q⟩ | ⟨w', h', L', a, b, q⟩ | ⟨k, args, a, b⟩
  · obtain ⟨h2, L2, b2, q2⟩ := hq _ _ _ _ b q
    exact .inl ⟨v, w', h2, L2, a, b2, q2⟩
  · obtain ⟨h2, L2, b2, q2⟩ := hq _ _ _ _ b q
    exact .inr (.inl ⟨w', h2, L2, a, b2, q2⟩)
  · exact .inr (.inr ⟨k, args, a, b.mono fun e w' ⟨v, h', L', c, d, q⟩ => by
      obtain ⟨h2, L2, b2, q2⟩ := hq _ _ _ _ d q
      exact ⟨v, h2, L2, c, b2, q2⟩⟩)

theorem Sat.freezeAcc {s : SV} {e : TypeId} {sz : Nat} {xs junk : List Value} {L2 : OL} {w : World} (ac : Acc s sz xs junk) (st : Sat E h (accL s e xs junk ++ L2) w) :
    ∃ h', h.le h' ∧ Sl h' [] sz s.v s.n xs ∧ Sat E h' L2 w := by
  rcases ac.a with ⟨rfl, rfl⟩ | ⟨b, hb, hnc, hcm, hjl⟩
  · exact ⟨h, PH.le_refl h, by obtain rfl := ac.xs_nil; exact Sl.nil h [] sz, by simpa [accL_nil] using st⟩
  · obtain ⟨sa, sn, sc⟩ := s
    simp only at hb; subst hb
    simp only [accL, List.singleton_append] at st
    have hbn : h b = none := st.dis (b, .cells (xs ++ junk).toArray e) List.mem_cons_self
    refine ⟨h.add b (.cells (xs ++ junk).toArray e), PH.le_add hbn, ⟨ac.len, .inr ⟨b, 0, sc, rfl, hnc, hcm, _, e, _, fun _ => .inl (PH.add_same _ _ _), by simp, ?_⟩⟩, st.freeze⟩
    simp
/-- A literal slice, as one that may grow. -/
theorem Chn.buildAcc {t e : TypeId} [T : TSl P t e] {agg : Bool} {sz : Nat} [I : TI P e agg sz] {z : Value} {zc : List Value} [Z : TZc P e z zc] {len : Nat} {parts : Array (Nat × Operand)} {out : List Value}
    (F : Parts f sz 0 parts.toList out) (hl : parts.size = len) (hs : len * sz ≤ 16777216) (hs' : len ≤ 16777216) (q : ∀ s : SV, s.n = len → Acc s sz out [] → Q s.v h (accL s e out [] ++ L)) : Chn P f E h L (.buildSlice t len parts) ty Q := by
  refine Chn.buildSlice F hl hs fun b => ?_
  have hlen := F.len
  have hlen' : parts.toList.length = len := by simpa using hl
  rw [hlen'] at hlen
  have := q ⟨some ⟨b, 0, none⟩, len, len⟩ rfl ⟨by simpa using hlen, .inr ⟨b, rfl, Nat.le_refl _, ?_, by simpa using hlen⟩⟩
  · simpa [accL, SV.v] using this
  · simp only [maxLen]; omega
theorem Chn.buildSliceE {t e : TypeId} [T : TSl P t e] {agg : Bool} {sz : Nat} [I : TI P e agg sz] {z : Value} {zc : List Value} [Z : TZc P e z zc] {len : Nat} {parts : Array (Nat × Operand)} {out out' : List Value}
    (F : Parts f sz 0 parts.toList out) (ho : out = out') (hl : parts.size = len) (hs : len * sz ≤ 16777216) (q : ∀ b, Q (.slice (some ⟨b, 0, none⟩) len len) h ((b, .cells out'.toArray e) :: L)) : Chn P f E h L (.buildSlice t len parts) ty Q := by
  subst ho; exact Chn.buildSlice F hl hs q
/-- append(s, a literal). -/
theorem Chn.appendLit {t e : TypeId} [T : TSl P t e] {agg : Bool} {sz : Nat} [I : TI P e agg sz] {z : Value} {zc : List Value} [Z : TZc P e z zc] {by_ : Nat} [B : TBy P e by_]
    {s : SV} {xs junk news : List Value} {m b : Nat} {e' : TypeId} {L2 : OL} (hx : evo f x = s.v) (ac : Acc s sz xs junk) (hL : L = (b, .cells news.toArray e') :: (accL s e xs junk ++ L2))
    (hy : evo f y = .slice (some ⟨b, 0, none⟩) m m) (hm : news.length = m * sz) (ones : Ones news) (hzc : zc.length = sz) (hsz : 0 < sz) (hbound : (s.n + m) * by_ ≤ 140737488355328) (hmax : s.n + m ≤ 9223372036854775807)
    (q : ∀ s' junk', s'.n = s.n + m → Acc s' sz (xs ++ news) junk' → Q s'.v h (accL s' e (xs ++ news) junk' ++ L2)) :
    Chn P f E h L (.call ⟨.builtin .append, #[x, y], #[t, t]⟩) ty Q := by
  subst hL
  refine Chn.perm (L' := accL s e xs junk ++ ((b, .cells news.toArray e') :: L2)) List.perm_middle.symm ?_
  refine Chn.then_ (Q' := fun v h' L' => h' = h ∧ ∃ s' junk', v = s'.v ∧ s'.n = s.n + m ∧ Acc s' sz (xs ++ news) junk' ∧ L' = accL s' e (xs ++ news) junk' ++ ((b, .cells news.toArray e') :: L2)) ?_ ?_
  · refine Chn.append hx ac rfl hy ⟨hm, .inr ⟨b, 0, m, rfl, Nat.le_refl _, by simp only [maxLen]; omega, news.toArray, e', (0, 0), fun _ => .inr (by simp), by simp, by simp⟩⟩ ones hzc hsz hbound hmax ?_
    intro s' junk' hn ac'
    exact ⟨rfl, s', junk', rfl, hn, ac', rfl⟩
  · rintro v h' L' w st ⟨rfl, s', junk', rfl, hn, ac', rfl⟩
    exact ⟨_, _, st.drop (List.Sublist.append_left (List.sublist_cons_self _ _) _), q s' junk' hn ac'⟩
/-- append(s, src...), and what comes of it stays as it is. -/
theorem Chn.appendF {t e : TypeId} [T : TSl P t e] {agg : Bool} {sz : Nat} [I : TI P e agg sz] {z : Value} {zc : List Value} [Z : TZc P e z zc] {by_ : Nat} [B : TBy P e by_]
    {s : SV} {xs junk news : List Value} {v2 : Value} {m : Nat} {L2 : OL} (hx : evo f x = s.v) (ac : Acc s sz xs junk) (hL : L = accL s e xs junk ++ L2)
    (hy : evo f y = v2) (src : Sl h L sz v2 m news) (ones : Ones news) (hzc : zc.length = sz) (hsz : 0 < sz) (hbound : (s.n + m) * by_ ≤ 140737488355328) (hmax : s.n + m ≤ 9223372036854775807)
    (q : ∀ (s' : SV) h', h.le h' → s'.n = s.n + m → Sl h' [] sz s'.v (s.n + m) (xs ++ news) → Q s'.v h' L2) :
    Chn P f E h L (.call ⟨.builtin .append, #[x, y], #[t, t]⟩) ty Q := by
  refine Chn.then_ (Q' := fun v h' L' => h' = h ∧ ∃ s' junk', v = s'.v ∧ s'.n = s.n + m ∧ Acc s' sz (xs ++ news) junk' ∧ L' = accL s' e (xs ++ news) junk' ++ L2) ?_ ?_
  · exact Chn.append hx ac hL hy src ones hzc hsz hbound hmax fun s' junk' hn ac' => ⟨rfl, s', junk', rfl, hn, ac', rfl⟩
  · rintro v h' L' w st ⟨rfl, s', junk', rfl, hn, ac', rfl⟩
    obtain ⟨h2, hle, hsl, st2⟩ := st.freezeAcc ac'
    exact ⟨h2, L2, st2, q s' h2 hle hn (hn ▸ hsl)⟩
end
section
variable {P : Program} {n : Nat} {ops : Array Oper} {E : Env} {K : SP} {X : Nat → SP} {R : SP} {l : List Oper} {f : Fr} {h : PH}
theorem WS.freezeAcc {c : Code} {s : SV} {e : TypeId} {sz : Nat} {xs junk : List Value} {L L2 : OL} (ac : Acc s sz xs junk) (hL : L = accL s e xs junk ++ L2) (k : ∀ h', h.le h' → Sl h' [] sz s.v s.n xs → WS P n E c K X R f h' L2) :
    WS P n E c K X R f h L := fun w st => by
  subst hL
  obtain ⟨h2, hle, hsl, st2⟩ := st.freezeAcc ac
  exact k h2 hle hsl w st2
theorem WO.freezeAcc {s : SV} {e : TypeId} {sz : Nat} {xs junk : List Value} {L L2 : OL} (ac : Acc s sz xs junk) (hL : L = accL s e xs junk ++ L2) (k : ∀ h', h.le h' → Sl h' [] sz s.v s.n xs → WO P n ops E K l f h' L2) :
    WO P n ops E K l f h L := fun w st => by
  subst hL
  obtain ⟨h2, hle, hsl, st2⟩ := st.freezeAcc ac
  exact k h2 hle hsl w st2
end

/-! ### Contracts: what comes behind may let own blocks stay as they are -/
theorem Ct.then_ {P : Program} {k : FuncId} {args : Array Value} {h : PH} {L : OL} {R R' : Value → PH → OL → Prop} (c : Ct P k args h L R)
    (hq : ∀ E v h' L' w, Sat E h' L' w → R v h' L' → ∃ h'' L'', Sat E h'' L'' w ∧ R' v h'' L'') : Ct P k args h L R' :=
  fun w p => (c w p).mono fun _ _ ⟨v, h', L', e, s, r⟩ => by
    obtain ⟨h2, L2, s2, r2⟩ := hq _ v h' L' _ s r
    exact ⟨v, h2, L2, e, s2, r2⟩
/-- Own byte slices: value, bytes, and what lies behind them. -/
abbrev Inn := List (SV × List UInt8 × List Value)
def innL (e : TypeId) (l : Inn) : OL := l.flatMap fun p => accL p.1 e (bc p.2.1) p.2.2
def AccAll (l : Inn) : Prop := ∀ p ∈ l, Acc p.1 1 (bc p.2.1) p.2.2
theorem perm3 {α : Type} (a b c : List α) : (a ++ (b ++ c)).Perm (b ++ (a ++ c)) := by
  rw [← List.append_assoc, ← List.append_assoc]
  exact List.Perm.append_right _ List.perm_append_comm
theorem accAll_nil : AccAll [] := fun p hp => by cases hp
theorem accAll_snoc {l : Inn} {p : SV × List UInt8 × List Value} (h : AccAll l) (k : Acc p.1 1 (bc p.2.1) p.2.2) : AccAll (l ++ [p]) := fun q hq => by
  rcases List.mem_append.1 hq with hq | hq
  · exact h q hq
  · rw [List.mem_singleton.1 hq]; exact k
theorem innL_snoc (e : TypeId) (l : Inn) (p : SV × List UInt8 × List Value) : innL e (l ++ [p]) = innL e l ++ accL p.1 e (bc p.2.1) p.2.2 := by simp [innL]
theorem Sat.freezeInn {E : Env} {e : TypeId} : ∀ (l : Inn) {h : PH} {L2 : OL} {w : World}, AccAll l → Sat E h (innL e l ++ L2) w →
    ∃ h', h.le h' ∧ Sat E h' L2 w ∧ ∀ p ∈ l, Bs h' p.1.v p.2.1
  | [], h, _, _, _, s => ⟨h, PH.le_refl h, by simpa [innL] using s, fun p hp => by cases hp⟩
  | p :: l, h, L2, w, ha, s => by
    have s : Sat E h (accL p.1 e (bc p.2.1) p.2.2 ++ (innL e l ++ L2)) w := by simpa [innL] using s
    obtain ⟨h1, l1, b1, s1⟩ := s.freezeAcc (ha p (by simp))
    obtain ⟨h2, l2, s2, b2⟩ := Sat.freezeInn l (fun q hq => ha q (by simp [hq])) s1
    refine ⟨h2, PH.le_trans l1 l2, s2, fun q hq => ?_⟩
    rcases List.mem_cons.1 hq with rfl | hq
    · have hn : q.1.n = q.2.1.length := by have := (ha q (by simp)).len; rw [bc_len, Nat.mul_one] at this; exact this.symm
      rw [hn] at b1
      exact Sl.mono l2 b1
    · exact b2 q hq
end Go.Bz
