/- Notes, plain: what was put is read, and what is read is what was put. Conditions: none but those named. -/
import Derived.Test.YtijlkjbmjkmkfaaS4
namespace Go.Bz

theorem fsplit_back : ∀ (b : List UInt8) (k : Nat) (ll : List (List UInt8)), k ≤ 20 → fsplit k b = .ok ll → b = encs ll ∧ k + ll.length ≤ 20 ∧ ∀ p ∈ ll, p.length ≤ 500
  | [], k, ll, hk, h => by
    have : ll = [] := by simpa [fsplit] using h.symm
    subst this; exact ⟨rfl, by simpa using hk, fun p hp => by cases hp⟩
  | [_], k, ll, _, h => by simp [fsplit] at h
  | x :: y :: r, k, ll, hk, h => by
    rw [fsplit] at h
    split at h
    · cases h
    · rename_i h1
      split at h
      · cases h
      · rename_i h2
        cases e : fsplit (k + 1) (r.drop (num2 x y)) with
        | error z => rw [e] at h; cases h
        | ok l2 =>
          rw [e] at h
          have h3 : ll = r.take (num2 x y) :: l2 := by simpa [Except.map] using h.symm
          subst h3
          obtain ⟨i1, i2, i3⟩ := fsplit_back (r.drop (num2 x y)) (k + 1) l2 (by omega) e
          have hl : (r.take (num2 x y)).length = num2 x y := by simp; omega
          refine ⟨?_, by simp; omega, fun p hp => ?_⟩
          · have hx := x.toNat_lt
            have hy := y.toNat_lt
            have e1 : hd2 (num2 x y) = [x, y] := by
              unfold hd2 num2
              have a1 : (x.toNat * 256 + y.toNat) / 256 = x.toNat := by omega
              rw [a1]
              congr 1
              · exact UInt8.ofNat_toNat
              · congr 1
                apply UInt8.toNat_inj.1
                simp
            simp only [encs, List.flatMap_cons, enc1, hl, e1]
            rw [show List.flatMap enc1 l2 = encs l2 from rfl, ← i1]
            simp
          · rcases List.mem_cons.1 hp with rfl | hp
            · omega
            · exact i3 p hp
termination_by b => b.length
decreasing_by simp; omega

theorem str_data (b : List UInt8) : (⟨b.toArray⟩ : ByteArray).data.toList = b := by simp
theorem wordOf_ok {b : List UInt8} (h : b.length = 16) : (wordOf b).1 = b := by
  have e : wordOf b = ⟨b, h⟩ := dif_pos h
  rw [e]
theorem getL_set {n : NoteP} {c : Lt} {b : List UInt8} (h : (setL n c b).2 = true) : getL (setL n c b).1 c = b := by
  cases c <;> simp_all [setL, getL, wordOf_ok]
theorem getL_other {n : NoteP} {c c' : Lt} {b : List UInt8} (h : c' ≠ c) : getL (setL n c b).1 c' = getL n c' := by
  cases c <;> cases c' <;> first | rfl | exact absurd rfl h
theorem setL_kind {n : NoteP} {c : Lt} {b : List UInt8} : (setL n c b).1.Kind = n.Kind := by cases c <;> rfl
theorem setAll_spec : ∀ (T : List Lt) (l : List (List UInt8)) (n m : NoteP), T.Nodup → l.length = T.length → setAll n T l = some m → T.map (getL m) = l ∧ m.Kind = n.Kind ∧ ∀ c, c ∉ T → getL m c = getL n c
  | [], [], n, m, _, _, h => by
    have : n = m := by simpa [setAll] using h
    subst this; exact ⟨rfl, rfl, fun _ _ => rfl⟩
  | c :: T, b :: l, n, m, hd, hl, h => by
    rw [setAll] at h
    split at h
    · rename_i h2
      obtain ⟨hc, hd'⟩ := List.nodup_cons.1 hd
      obtain ⟨i1, i2, i3⟩ := setAll_spec T l _ m hd' (by simpa using hl) h
      refine ⟨?_, i2.trans setL_kind, fun c' hc' => ?_⟩
      · rw [List.map_cons, i1, i3 c hc, getL_set h2]
      · rw [i3 c' (fun e => hc' (List.mem_cons_of_mem _ e)), getL_other (fun e => hc' (by rw [e]; exact List.mem_cons_self))]
    · cases h
  | [], _ :: _, _, _, _, hl, _ => by simp at hl
  | _ :: _, [], _, _, _, hl, _ => by simp at hl
theorem hasT_nodup (k : Int) : (hasT k).Nodup := by
  rcases hasT_cases k with e | ⟨_, e⟩ | ⟨_, e⟩ | ⟨_, e⟩ | ⟨_, e⟩ | ⟨_, e⟩ | ⟨_, e⟩ | ⟨_, e⟩ | ⟨_, e⟩ | ⟨_, e⟩ | ⟨_, e⟩ | ⟨_, e⟩ | ⟨_, e⟩ | ⟨_, e⟩ | ⟨_, e⟩ | ⟨_, e⟩ | ⟨_, e⟩ <;> rw [e] <;> decide
theorem madeN_some {kd : Int} {l : List (List UInt8)} {m : NoteP} (h : madeN kd l = some m) : hasT kd ≠ [] ∧ l.length = (hasT kd).length ∧ setAll { NoteP.zero with Kind := kd } (hasT kd) l = some m := by
  unfold madeN at h
  split at h
  · cases h
  · rename_i hn
    refine ⟨fun e => hn (.inl e), ?_, h⟩
    by_cases e : l.length = (hasT kd).length
    · exact e
    · exact absurd (.inr e) hn
theorem madeN_parts (kd : Int) (l : List (List UInt8)) (m : NoteP) (h : madeN kd l = some m) : m.Kind = kd ∧ partsN m = l ∧ hasT kd ≠ [] := by
  obtain ⟨h1, h2, h3⟩ := madeN_some h
  obtain ⟨i1, i2, _⟩ := setAll_spec _ _ _ _ (hasT_nodup kd) h2 h3
  have i2 : m.Kind = kd := i2
  exact ⟨i2, by unfold partsN; rw [i2]; exact i1, h1⟩
theorem hasT_range {k : Int} (h : hasT k ≠ []) : 1 ≤ k ∧ k ≤ 16 := by
  by_cases c : k < 1 ∨ 16 < k
  · exact absurd (by unfold hasT; rw [if_pos c]) h
  · omega
theorem byteOf_small {k : Int} (h0 : 0 ≤ k) (h1 : k < 256) : ((byteOf k).toNat : Int) = k := by rw [byteOf_nat]; omega
theorem byteOf_toNat (c : UInt8) : byteOf (c.toNat : Int) = c := by
  have := c.toNat_lt
  apply UInt8.toNat_inj.1
  have h := byteOf_nat (c.toNat : Int)
  omega
theorem rightN_iff {u : NoteP} : rightN u = true ↔ madeN u.Kind (partsN u) = some u ∧ bigN (partsN u) = false := by
  unfold rightN
  cases e : madeN u.Kind (partsN u) with
  | none => simp
  | some m =>
    simp only [Bool.and_eq_true, Bool.not_eq_true', sameN_iff, Option.some.injEq]
    exact ⟨fun h => ⟨h.1.symm, h.2⟩, fun h => ⟨h.1.symm, h.2⟩⟩
theorem bigN_false {l : List (List UInt8)} : bigN l = false ↔ ∀ p ∈ l, p.length ≤ 500 := by
  unfold bigN
  rw [List.any_eq_false]
  simp
theorem readN_put {u : NoteP} (h : rightN u = true) : readN (byteOf u.Kind :: encs (partsN u)) = some u := by
  obtain ⟨h1, h2⟩ := rightN_iff.1 h
  obtain ⟨_, _, h3⟩ := madeN_parts _ _ _ h1
  have hr := hasT_range h3
  have hs : fsplit 0 (encs (partsN u)) = .ok (partsN u) := fsplit_encs _ 0 (by unfold partsN; rw [List.length_map]; have := hasT_len u.Kind; omega) (bigN_false.1 h2)
  show (match fsplit 0 (encs (partsN u)) with | .ok l => madeN (byteOf u.Kind).toNat l | .error _ => none) = some u
  rw [hs]
  show madeN ((byteOf u.Kind).toNat : Int) (partsN u) = some u
  rw [byteOf_small (by omega) (by omega)]; exact h1
theorem putN_read {b : List UInt8} {m : NoteP} (h : readN b = some m) : rightN m = true ∧ putN m = some b := by
  cases b with
  | nil => cases h
  | cons k r =>
    have h' : (match fsplit 0 r with | .ok l => madeN k.toNat l | .error _ => none) = some m := h
    cases e : fsplit 0 r with
    | error x => rw [e] at h'; cases h'
    | ok l =>
      rw [e] at h'
      have h' : madeN (k.toNat : Int) l = some m := h'
      obtain ⟨h1, h2, _⟩ := madeN_parts _ _ _ h'
      obtain ⟨e1, _, e3⟩ := fsplit_back r 0 l (by omega) e
      have hr : rightN m = true := rightN_iff.2 ⟨by rw [h1, h2]; exact h', by rw [h2]; exact bigN_false.2 e3⟩
      refine ⟨hr, ?_⟩
      unfold putN
      rw [if_pos hr, h1, h2, byteOf_toNat, ← e1]
theorem rightN_len {u : NoteP} (h : rightN u = true) (c : Lt) : (getL u c).length ≤ 500 := by
  obtain ⟨h1, h2⟩ := rightN_iff.1 h
  obtain ⟨a1, a2, a3⟩ := madeN_some h1
  obtain ⟨i1, _, i3⟩ := setAll_spec _ _ _ _ (hasT_nodup u.Kind) a2 a3
  by_cases hc : c ∈ hasT u.Kind
  · exact bigN_false.1 h2 _ (List.mem_map.2 ⟨c, hc, rfl⟩)
  · rw [i3 c hc]
    have e : ∀ c, (getL NoteP.zero c).length ≤ 500 := by intro c; cases c <;> decide
    have := e c
    cases c <;> exact this
theorem rightN_fits {u : NoteP} (h : rightN u = true) : u.Fits := by
  have hA := rightN_len h .A
  have hB := rightN_len h .B
  have hP := rightN_len h .P
  have hQ := rightN_len h .Q
  have hR := rightN_len h .R
  simp only [getL] at hA hB hP hQ hR
  exact ⟨by have e : u.A.data.toList.length = u.A.size := by simp
            omega, by have e : u.B.data.toList.length = u.B.size := by simp
                      omega, by omega, by omega, by omega⟩
end Go.Bz
