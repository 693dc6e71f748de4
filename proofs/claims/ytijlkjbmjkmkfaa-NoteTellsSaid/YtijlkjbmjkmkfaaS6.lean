/- Whether a note may be, letter by letter. Conditions: none. -/
import Derived.Test.YtijlkjbmjkmkfaaS5
namespace Go.Bz
def okL : Lt → List UInt8 → Bool
  | .A, b => nameOk b | .B, b => nameOk b | .X, b => decide (b.length = 16) | .Y, b => decide (b.length = 16) | .P, _ => true | .Q, _ => true | .R, _ => true
theorem setL_ok (n : NoteP) (c : Lt) (b : List UInt8) : (setL n c b).2 = okL c b := by cases c <;> rfl
theorem noteP_ext {a b : NoteP} (hk : a.Kind = b.Kind) (h : ∀ c, getL a c = getL b c) : a = b := by
  obtain ⟨k, A, B, X, Y, P, Q, R⟩ := a
  obtain ⟨k', A', B', X', Y', P', Q', R'⟩ := b
  have hA := h .A
  have hB := h .B
  have hX := h .X
  have hY := h .Y
  have hP := h .P
  have hQ := h .Q
  have hR := h .R
  simp only [getL] at hA hB hX hY hP hQ hR hk
  have eA : A = A' := ByteArray.ext (Array.toList_inj.1 hA)
  have eB : B = B' := ByteArray.ext (Array.toList_inj.1 hB)
  have eX : X = X' := Subtype.ext hX
  have eY : Y = Y' := Subtype.ext hY
  subst hk; subst eA; subst eB; subst eX; subst eY; subst hP; subst hQ; subst hR; rfl
theorem setAll_some : ∀ (T : List Lt) (l : List (List UInt8)) (n : NoteP), l.length = T.length → (setAll n T l).isSome = (List.zipWith okL T l).all id
  | [], [], n, _ => rfl
  | c :: T, b :: l, n, h => by
    rw [setAll, setL_ok]
    cases e : okL c b with
    | true => rw [if_pos rfl, setAll_some T l _ (by simpa using h)]; simp [e]
    | false => simp [e]
  | [], _ :: _, _, h => by simp at h
  | _ :: _, [], _, h => by simp at h
theorem zip_map (u : NoteP) : ∀ T : List Lt, (List.zipWith okL T (T.map (getL u))).all id = T.all fun c => okL c (getL u c)
  | [] => rfl
  | c :: T => by simp [zip_map u T]
theorem rightN_char (u : NoteP) : rightN u = true ↔ hasT u.Kind ≠ [] ∧ (∀ c ∈ hasT u.Kind, okL c (getL u c) = true) ∧ (∀ c, c ∉ hasT u.Kind → getL u c = getL NoteP.zero c) ∧ ∀ c ∈ hasT u.Kind, (getL u c).length ≤ 500 := by
  rw [rightN_iff]
  have hlen : (partsN u).length = (hasT u.Kind).length := by unfold partsN; simp
  have hbig : bigN (partsN u) = false ↔ ∀ c ∈ hasT u.Kind, (getL u c).length ≤ 500 := by
    rw [bigN_false]; unfold partsN; simp
  rw [hbig]
  constructor
  · rintro ⟨h1, h2⟩
    obtain ⟨a1, a2, a3⟩ := madeN_some h1
    obtain ⟨_, _, i3⟩ := setAll_spec _ _ _ _ (hasT_nodup u.Kind) a2 a3
    refine ⟨a1, ?_, fun c hc => ?_, h2⟩
    · have := setAll_some (hasT u.Kind) (partsN u) { NoteP.zero with Kind := u.Kind } hlen
      rw [a3] at this
      unfold partsN at this
      rw [zip_map] at this
      exact fun c hc => List.all_eq_true.1 this.symm c hc
    · rw [i3 c hc]; cases c <;> rfl
  · rintro ⟨a1, a2, a3, a4⟩
    refine ⟨?_, a4⟩
    have h1 : (setAll { NoteP.zero with Kind := u.Kind } (hasT u.Kind) (partsN u)).isSome = true := by
      rw [setAll_some _ _ _ hlen]
      unfold partsN
      rw [zip_map]
      exact List.all_eq_true.2 a2
    obtain ⟨m, hm⟩ := Option.isSome_iff_exists.1 h1
    obtain ⟨i1, i2, i3⟩ := setAll_spec _ _ _ _ (hasT_nodup u.Kind) hlen hm
    have hmu : m = u := by
      refine noteP_ext i2 fun c => ?_
      by_cases hc : c ∈ hasT u.Kind
      · unfold partsN at i1
        have := List.map_inj_left.1 i1 c hc
        exact this
      · rw [i3 c hc, a3 c hc]; cases c <;> rfl
    unfold madeN
    rw [if_neg (fun e => e.elim a1 (fun e => e hlen)), hm, hmu]
def r2N (u : NoteP) : Bool := !decide (decide (Lt.A ∈ hasT u.Kind) = !decide (u.A = ⟨#[]⟩)) || !decide (decide (Lt.B ∈ hasT u.Kind) = !decide (u.B = ⟨#[]⟩)) || !decide (u.A = ⟨#[]⟩) && !nameOk u.A.data.toList || !decide (u.B = ⟨#[]⟩) && !nameOk u.B.data.toList
def r3N (u : NoteP) : Bool := !decide (Lt.X ∈ hasT u.Kind) && !decide (u.X.1 = (AB.zero 16).1) || !decide (Lt.Y ∈ hasT u.Kind) && !decide (u.Y.1 = (AB.zero 16).1)
def r4N (u : NoteP) : Bool := !decide (Lt.P ∈ hasT u.Kind) && decide ((0 : Int) < u.P.length) || !decide (Lt.Q ∈ hasT u.Kind) && decide ((0 : Int) < u.Q.length) || !decide (Lt.R ∈ hasT u.Kind) && decide ((0 : Int) < u.R.length)
def r5N (u : NoteP) : Bool := decide ((u.P.length : Int) ≤ 500) && decide ((u.Q.length : Int) ≤ 500) && decide ((u.R.length : Int) ≤ 500)
theorem nameOk_empty {s : ByteArray} (h : s = ⟨#[]⟩) : nameOk s.data.toList = false := by subst h; rfl
theorem nameOk_len {l : List UInt8} (h : nameOk l = true) : l.length ≤ 20 := by
  unfold nameOk at h; simp at h; exact h.2.2
theorem str_empty {s : ByteArray} : s.data.toList = [] ↔ s = ⟨#[]⟩ := by
  constructor
  · intro h; cases s; simp at h; subst h; rfl
  · rintro rfl; rfl
theorem rightN_eq (u : NoteP) : rightN u = (!decide (hasT u.Kind = []) && (!r2N u && (!r3N u && (!r4N u && r5N u)))) := by
  rw [Bool.eq_iff_iff, rightN_char]
  generalize hT : hasT u.Kind = T
  have hX := u.X.2
  have hY := u.Y.2
  constructor
  · rintro ⟨a1, a2, a3, a4⟩
    have L : ∀ c, (getL u c).length ≤ 500 := fun c => by
      by_cases hc : c ∈ T
      · exact a4 c hc
      · rw [a3 c hc]; cases c <;> decide
    have e1 : decide (T = []) = false := decide_eq_false a1
    have eA : decide (Lt.A ∈ T) = !decide (u.A = ⟨#[]⟩) := by
      by_cases hc : Lt.A ∈ T
      · have := a2 _ hc
        rw [decide_eq_true hc, decide_eq_false (fun e => by have := nameOk_empty e; simp_all [okL, getL])]; rfl
      · have h3 := a3 _ hc
        rw [decide_eq_false hc, decide_eq_true (str_empty.1 h3)]; rfl
    have eB : decide (Lt.B ∈ T) = !decide (u.B = ⟨#[]⟩) := by
      by_cases hc : Lt.B ∈ T
      · have := a2 _ hc
        rw [decide_eq_true hc, decide_eq_false (fun e => by have := nameOk_empty e; simp_all [okL, getL])]; rfl
      · have h3 := a3 _ hc
        rw [decide_eq_false hc, decide_eq_true (str_empty.1 h3)]; rfl
    have nA : u.A ≠ ⟨#[]⟩ → nameOk u.A.data.toList = true := fun e => by
      have : Lt.A ∈ T := by rw [decide_eq_false e] at eA; exact of_decide_eq_true eA
      exact a2 _ this
    have nB : u.B ≠ ⟨#[]⟩ → nameOk u.B.data.toList = true := fun e => by
      have : Lt.B ∈ T := by rw [decide_eq_false e] at eB; exact of_decide_eq_true eB
      exact a2 _ this
    have h2 : r2N u = false := by
      unfold r2N; rw [hT, eA, eB]
      by_cases cA : u.A = ⟨#[]⟩ <;> by_cases cB : u.B = ⟨#[]⟩ <;> simp_all
    have h3 : r3N u = false := by
      unfold r3N; rw [hT]
      have x : Lt.X ∉ T → u.X.1 = (AB.zero 16).1 := fun h => a3 _ h
      have y : Lt.Y ∉ T → u.Y.1 = (AB.zero 16).1 := fun h => a3 _ h
      by_cases cX : Lt.X ∈ T <;> by_cases cY : Lt.Y ∈ T <;> simp [cX, cY, x, y]
    have h4 : r4N u = false := by
      unfold r4N; rw [hT]
      have x : Lt.P ∉ T → u.P = [] := fun h => a3 _ h
      have y : Lt.Q ∉ T → u.Q = [] := fun h => a3 _ h
      have z : Lt.R ∉ T → u.R = [] := fun h => a3 _ h
      by_cases cX : Lt.P ∈ T <;> by_cases cY : Lt.Q ∈ T <;> by_cases cZ : Lt.R ∈ T <;> simp [cX, cY, cZ, x, y, z]
    have h5 : r5N u = true := by
      have p := L .P
      have q := L .Q
      have r := L .R
      simp only [getL] at p q r
      unfold r5N; simp; omega
    rw [e1, h2, h3, h4, h5]; rfl
  · intro h
    simp only [Bool.and_eq_true, Bool.not_eq_true', decide_eq_false_iff_not] at h
    obtain ⟨h1, h2, h3, h4, h5⟩ := h
    unfold r2N at h2; unfold r3N at h3; unfold r4N at h4; unfold r5N at h5
    rw [hT] at h2 h3 h4
    simp at h2 h3 h4 h5
    obtain ⟨⟨⟨a1, a2⟩, a3⟩, a4⟩ := h2
    have b1 : Lt.A ∈ T ↔ ¬ u.A = ⟨#[]⟩ := by rw [← decide_eq_true_iff (p := Lt.A ∈ T), a1]; simp
    have b2 : Lt.B ∈ T ↔ ¬ u.B = ⟨#[]⟩ := by rw [← decide_eq_true_iff (p := Lt.B ∈ T), a2]; simp
    refine ⟨h1, fun c hc => ?_, fun c hc => ?_, fun c hc => ?_⟩
    · cases c with
      | A => exact a3 (b1.1 hc)
      | B => exact a4 (b2.1 hc)
      | X => exact decide_eq_true hX
      | Y => exact decide_eq_true hY
      | _ => rfl
    · cases c with
      | A => exact str_empty.2 (Classical.not_not.1 fun e => hc (b1.2 e))
      | B => exact str_empty.2 (Classical.not_not.1 fun e => hc (b2.2 e))
      | X => exact h3.1 hc
      | Y => exact h3.2 hc
      | P => exact h4.1.1 hc
      | Q => exact h4.1.2 hc
      | R => exact h4.2 hc
    · cases c with
      | A => have := nameOk_len (a3 (b1.1 hc)); show u.A.data.toList.length ≤ 500; omega
      | B => have := nameOk_len (a4 (b2.1 hc)); show u.B.data.toList.length ≤ 500; omega
      | X => show u.X.1.length ≤ 500; omega
      | Y => show u.Y.1.length ≤ 500; omega
      | P => show u.P.length ≤ 500; omega
      | Q => show u.Q.length ≤ 500; omega
      | R => show u.R.length ≤ 500; omega
def setR : NoteP → List Lt → List (List UInt8) → NoteP
  | n, c :: T, b :: l => setR (setL n c b).1 T l
  | n, _, _ => n
theorem setR_all : ∀ (T : List Lt) (l : List (List UInt8)) (n m : NoteP), setAll n T l = some m → m = setR n T l
  | [], l, n, m, h => by cases l <;> simp [setAll] at h <;> subst h <;> rfl
  | c :: T, [], n, m, h => by simp [setAll] at h; subst h; rfl
  | c :: T, b :: l, n, m, h => by
    rw [setAll] at h
    split at h
    · rw [setR]; exact setR_all T l _ m h
    · cases h
theorem setR_step (u : NoteP) (T : List Lt) (l : List (List UInt8)) (k : Nat) (h1 : k < T.length) (h2 : k < l.length) :
    setR u (T.drop k) (l.drop k) = setR (setL u (T.getD k .A) (l.getD k [])).1 (T.drop (k + 1)) (l.drop (k + 1)) := by
  rw [List.drop_eq_getElem_cons h1, List.drop_eq_getElem_cons h2, setR]
  simp [List.getD, h1, h2]
theorem setR_len : ∀ (T : List Lt) (l : List (List UInt8)) (n : NoteP), (∀ c, (getL n c).length ≤ 500) → (∀ b ∈ l, b.length ≤ 500) → ∀ c, (getL (setR n T l) c).length ≤ 500
  | [], l, n, h, _ => by cases l <;> exact h
  | c :: T, [], n, h, _ => h
  | c :: T, b :: l, n, h, hl => by
    rw [setR]
    refine setR_len T l _ (fun c' => ?_) (fun b hb => hl b (by simp [hb]))
    by_cases e : c' = c
    · subst e
      have hb := hl b (by simp)
      cases c' <;> simp only [setL, getL]
      · simpa using hb
      · simpa using hb
      · have := (wordOf b).2; omega
      · have := (wordOf b).2; omega
      · exact hb
      · exact hb
      · exact hb
    · rw [getL_other e]; exact h c'
theorem fits_of_len {u : NoteP} (h : ∀ c, (getL u c).length ≤ 500) : u.Fits := by
  have hA := h .A
  have hB := h .B
  have hP := h .P
  have hQ := h .Q
  have hR := h .R
  simp only [getL] at hA hB hP hQ hR
  exact ⟨by have e : u.A.data.toList.length = u.A.size := by simp
            omega, by have e : u.B.data.toList.length = u.B.size := by simp
                      omega, by omega, by omega, by omega⟩
/-- What the reference reads, is what the program reads. -/
theorem readN_ref (k : UInt8) (r : List UInt8) (l : List (List UInt8)) (e : fsplit 0 r = .ok l) (h1 : hasT k.toNat ≠ []) (h2 : l.length = (hasT k.toNat).length) :
    readN (k :: r) = if putN (setR { NoteP.zero with Kind := k.toNat } (hasT k.toNat) l) = some (k :: r) then some (setR { NoteP.zero with Kind := k.toNat } (hasT k.toNat) l) else none := by
  generalize hu : setR { NoteP.zero with Kind := k.toNat } (hasT k.toNat) l = u
  split
  · rename_i hp
    have hr : rightN u = true := by unfold putN at hp; split at hp; assumption; cases hp
    have h3 := readN_put hr
    unfold putN at hp
    rw [if_pos hr] at hp
    injection hp with hp
    rw [hp] at h3; exact h3
  · rename_i hp
    cases hm : readN (k :: r) with
    | none => rfl
    | some m =>
      have h3 := (putN_read hm).2
      have h4 : (match fsplit 0 r with | .ok l => madeN k.toNat l | .error _ => none) = some m := hm
      rw [e] at h4
      have h5 := (madeN_some h4).2.2
      have h6 := setR_all _ _ _ _ h5
      have h7 : m = u := h6.trans hu
      rw [h7] at h3; exact absurd h3 hp
theorem readN_bad (k : UInt8) (r : List UInt8) (h : ∀ l, fsplit 0 r = .ok l → hasT k.toNat = [] ∨ l.length ≠ (hasT k.toNat).length) : readN (k :: r) = none := by
  show (match fsplit 0 r with | .ok l => madeN k.toNat l | .error _ => none) = none
  cases e : fsplit 0 r with
  | error x => rfl
  | ok l =>
    show madeN k.toNat l = none
    unfold madeN
    rw [if_pos (h l e)]
end Go.Bz
