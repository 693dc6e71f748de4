/- NoteTellsSaid: whether any note may be, it as bytes; and the note of any bytes. Conditions: those of the statement. -/
import Derived.Test.YtijlkjbmjkmkfaaC5
import Derived.Test.YtijlkjbmjkmkfaaR8
import Derived.Test.YtijlkjbmjkmkfaaC4
import Derived.Test.YtijlkjbmjkmkfaaK0
namespace Go.Proofs.Ytijlkjbmjkmkfaa
open Go.ChangeShapes Go.WideShapes Go.ChangeAt Go.RowKit Go.Bz Go.Proofs

set_option maxRecDepth 100000 in
theorem noteTells_walk (H : Type) (enc : TypeId × Value → H) (W : World) (base : Nat) (args : List Value) (hl : args.length = Try.f4.params.toList.length)
    (hg : ∀ (i : Nat) (t : TypeId) (v : Value), Try.f4.params.toList[i]? = some t → args[i]? = some v → Value.okWide Try.prog W .any base t v ∧ G enc Try.prog W t v.cells.toList) :
    Calls Try.prog 4 args.toArray W fun e W' => e = .returned (.bool true) ∧ Below W.heap.size W W' := by
  obtain ⟨v0, v1, rfl⟩ : ∃ v0 v1, args = [v0, v1] := by
    match args, hl with
    | [v0, v1], _ => exact ⟨v0, v1, rfl⟩
  obtain ⟨o0, g0⟩ := hg 0 36 v0 rfl rfl
  obtain ⟨o1, g1⟩ := hg 1 22 v1 rfl rfl
  obtain ⟨n, u, e0, hn, hw⟩ := note_in (g0.elem (i := 0) (by decide))
  obtain ⟨n', u', e1, hn', hw'⟩ := note_in (g0.elem (i := 1) (by decide))
  obtain ⟨s, l, e2, hb, hl'⟩ := g1.bytes
  have h0 : v0 = .agg (Arr2NoteM.mk n n').cells.toArray := val_cells o0 (by
    unfold Arr2NoteM.cells
    rw [← e0, ← e1]
    exact cut2 _ 38 38 g0.len)
  have h0 : v0 = (Arr2NoteM.mk n n').v := h0
  subst h0
  obtain rfl : v1 = s.v := val_one o1 e2
  exact (Ct.top (noteTells_ok _ ⟨n, n'⟩ u u' s.v l hn hn' hw hw' hb (wide_of hl'))).mono fun e w' ⟨v, he, hb, _, _, _, hv⟩ => ⟨by rw [he, hv.1], hb⟩
theorem noteTells_lifted (os : Os) (started : os.Started) (H : Type) (enc : TypeId × Value → H) :
    ReturnsInHanded {} Try.checked os 4 .any (Rows.noteTellsSpec.pre6 enc Try.prog Try.f4 Rows.noteTellsRow.domain false) (Rows.noteTellsSpec.post enc Try.prog Try.f4 false true false false) :=
  law_lift (C := Try.checked) own started (by kernel_rfl) Try.func4
    (ChangeSpec.witness6 (enc := enc) (C := Try.checked) false ⟨#[], #[Arr2NoteM.zero.v, .slice Option.none 0 0], []⟩ 12 (by kernel_rfl) (by kernel_rfl) (by kernel_rfl) (by kernel_rfl))
    rfl (fun ds h => by
      have h : ds.length = 2 := h
      match ds, h with
      | [_, _], _ => exact ⟨rfl, rfl, rfl⟩) rfl Try.underlying4 laidOut (of_decide_eq_true (by kernel_rfl)) (noteTells_walk H enc)
theorem noteTells_facts : joinedFacts Try.prog 4 Try.f4 Rows.noteTellsSpec Rows.noteTellsRow = true :=
  joined_mk laidOut mapsRowed_ok stops_ok stopKnobs_ok plainKeys_ok stopsHeard_ok mayEnter_ok lifts_ok make_ok (by kernel_rfl) (by kernel_rfl) (by kernel_rfl) (by kernel_rfl) (by kernel_rfl) (by kernel_rfl)
theorem noteTells_over : Rows.noteTellsRow.holds Try.pinned (OpenSpec.ofChange Rows.noteTellsSpec) :=
  OpenClaim.holds_of_wide 4 Try.f4 rfl rfl rfl rfl rfl rfl rfl ⟨rfl, rfl, rfl, rfl, rfl⟩ rfl rfl rfl rfl rfl (by kernel_rfl) Try.func4 noteTells_facts
    (of_decide_eq_true (by kernel_rfl)) (by unfold Func.isWrapper; first | (rw [if_pos (by decide +kernel)]; kernel_rfl) | (rw [if_neg (by decide +kernel)]; exact ⟨rfl, rfl⟩))
    (fun os started H enc _ => noteTells_lifted os started H enc)
theorem noteTells_holds : Rows.NoteTellsSaid := noteTells_over
#print axioms noteTells_holds
end Go.Proofs.Ytijlkjbmjkmkfaa
