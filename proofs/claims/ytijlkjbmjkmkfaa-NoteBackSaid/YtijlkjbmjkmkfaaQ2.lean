/- NoteBackSaid: what was put is read; no bytes are those of two notes. Conditions: those of the statement. -/
import Derived.Test.YtijlkjbmjkmkfaaC5
import Derived.Test.YtijlkjbmjkmkfaaC4
import Derived.Test.YtijlkjbmjkmkfaaK0
namespace Go.Proofs.Ytijlkjbmjkmkfaa
open Go.ChangeShapes Go.WideShapes Go.ChangeAt Go.RowKit Go.Bz Go.Proofs

set_option maxRecDepth 100000 in
theorem noteBack_walk (H : Type) (enc : TypeId × Value → H) (W : World) (base : Nat) (args : List Value) (hl : args.length = Try.f5.params.toList.length)
    (hg : ∀ (i : Nat) (t : TypeId) (v : Value), Try.f5.params.toList[i]? = some t → args[i]? = some v → Value.okWide Try.prog W .any base t v ∧ G enc Try.prog W t v.cells.toList) :
    Calls Try.prog 5 args.toArray W fun e W' => e = .returned (.bool true) ∧ Below W.heap.size W W' := by
  obtain ⟨v0, v1, rfl⟩ : ∃ v0 v1, args = [v0, v1] := by
    match args, hl with
    | [v0, v1], _ => exact ⟨v0, v1, rfl⟩
  obtain ⟨o0, g0⟩ := hg 0 35 v0 rfl rfl
  obtain ⟨o1, g1⟩ := hg 1 22 v1 rfl rfl
  obtain ⟨n, u, e0, hn, hw⟩ := note_in g0
  obtain ⟨s, l, e1, hb, hl'⟩ := g1.bytes
  have h0 : v0 = .agg n.cells.toArray := val_cells o0 e0
  have h0 : v0 = n.v := h0
  subst h0
  obtain rfl : v1 = s.v := val_one o1 e1
  exact (Ct.top (noteBack_ok _ n u s.v l hn hw hb (wide_of hl'))).mono fun e w' ⟨v, he, hb, _, _, _, hv⟩ => ⟨by rw [he, hv.1], hb⟩
theorem noteBack_lifted (os : Os) (started : os.Started) (H : Type) (enc : TypeId × Value → H) :
    ReturnsInHanded {} Try.checked os 5 .any (Rows.noteBackSpec.pre6 enc Try.prog Try.f5 Rows.noteBackRow.domain false) (Rows.noteBackSpec.post enc Try.prog Try.f5 false true false false) :=
  law_lift (C := Try.checked) own started (by kernel_rfl) Try.func5
    (ChangeSpec.witness6 (enc := enc) (C := Try.checked) false ⟨#[], #[NoteM.zero.v, .slice Option.none 0 0], []⟩ 12 (by kernel_rfl) (by kernel_rfl) (by kernel_rfl) (by kernel_rfl))
    rfl (fun ds h => by
      have h : ds.length = 2 := h
      match ds, h with
      | [_, _], _ => exact ⟨rfl, rfl, rfl⟩) rfl Try.underlying4 laidOut (of_decide_eq_true (by kernel_rfl)) (noteBack_walk H enc)
theorem noteBack_facts : joinedFacts Try.prog 5 Try.f5 Rows.noteBackSpec Rows.noteBackRow = true :=
  joined_mk laidOut mapsRowed_ok stops_ok stopKnobs_ok plainKeys_ok stopsHeard_ok mayEnter_ok lifts_ok make_ok (by kernel_rfl) (by kernel_rfl) (by kernel_rfl) (by kernel_rfl) (by kernel_rfl) (by kernel_rfl)
theorem noteBack_over : Rows.noteBackRow.holds Try.pinned (OpenSpec.ofChange Rows.noteBackSpec) :=
  OpenClaim.holds_of_wide 5 Try.f5 rfl rfl rfl rfl rfl rfl rfl ⟨rfl, rfl, rfl, rfl, rfl⟩ rfl rfl rfl rfl rfl (by kernel_rfl) Try.func5 noteBack_facts
    (of_decide_eq_true (by kernel_rfl)) (by unfold Func.isWrapper; first | (rw [if_pos (by decide +kernel)]; kernel_rfl) | (rw [if_neg (by decide +kernel)]; exact ⟨rfl, rfl⟩))
    (fun os started H enc _ => noteBack_lifted os started H enc)
theorem noteBack_holds : Rows.NoteBackSaid := noteBack_over
#print axioms noteBack_holds
end Go.Proofs.Ytijlkjbmjkmkfaa
