/- The program's closed facts, together. Conditions: none. -/
import Derived.Test.YtijlkjbmjkmkfaaK1
import Derived.Test.YtijlkjbmjkmkfaaK3
namespace Go.Proofs.Ytijlkjbmjkmkfaa
open Go
theorem laidOut : laidOutB Try.prog = true := by kernel_rfl
theorem mapsRowed_ok : mapsRowed Try.prog = true := by kernel_rfl
theorem stops_ok : (Try.prog.stops == []) = true := by kernel_rfl
theorem stopKnobs_ok : (Try.prog.stopKnobs == []) = true := by kernel_rfl
theorem plainKeys_ok : (false == Try.prog.plainKeys) = true := by kernel_rfl
theorem stopsHeard_ok : Try.prog.stopsHeard = true := by kernel_rfl
theorem own : ownKnob Try.prog.godebug = Option.none := by kernel_rfl
/-- The facts of a row, of which some speak of the program alone. -/
theorem joined_mk {P : Program} {f : FuncId} {fn : Func} {s : ChangeSpec} {c : OpenClaim}
    (a1 : laidOutB P = true) (a2 : mapsRowed P = true) (a3 : (P.stops == []) = true) (a4 : (P.stopKnobs == []) = true) (a5 : (c.plainKeys == P.plainKeys) = true) (a6 : P.stopsHeard = true) (a7 : P.mayEnter = true)
    (a8 : (c.lifted == P.liftsFinal) = true) (a9 : (P.make == some c.make) = true) (b1 : (c.inPlace == P.inPlace f) = true) (b2 : (c.unfollowed == P.unfollowed f) = true) (b3 : (c.recurses == P.recurses f) = true) (b4 : (c.named == P.varsNamed f) = true)
    (r1 : (c.wf (OpenSpec.ofChange s) && fn.params.all (P.readableRec ·) && namedTie P c.named s.vars && (c.stops == []) && (c.knobs == [])) = true)
    (r2 : ((c.maps == (fn.params.toList ++ s.plain.varTypes P).any (P.mapsRec ·)) && (c.ifaces == (fn.params.toList ++ s.plain.varTypes P).any (P.ifacesRec ·)) && (c.mapsOut == P.mapsAmong fn.resultTypes.toList) &&
      (c.loops == (fn.params.toList ++ s.plain.varTypes P).any (P.loopsFrom ·)) && (c.wideKeys == (fn.params.toList ++ s.plain.varTypes P ++ fn.resultTypes.toList).any (P.wideKeysFrom ·)) &&
      s.vars.all (P.varReadable ·) && fn.resultTypes.all (fun t => P.readableRec t && decide (t < P.types.size)) && (c.ifacesOut == fn.resultTypes.toList.any (P.ifacesRec ·)) && (c.loopsOut == fn.resultTypes.toList.any (P.loopsFrom ·)) && c.shortTexts.isNone &&
      (c.kinds == (if c.domain.isEmpty then [] else fn.params.toList.map fun t => match P.underlying t with | some (.int k) => some k | _ => none)) && (c.pinned == c.pinnedBy) &&
      (c.veiled == (fn.params.toList ++ s.plain.varTypes P ++ fn.resultTypes.toList).any (P.veiledRec ·)) && c.veiledFits P fn.params.toList (fn.params.toList ++ s.plain.varTypes P ++ fn.resultTypes.toList)) = true) :
    joinedFacts P f fn s c = true := by
  simp only [Bool.and_eq_true] at r1 r2
  obtain ⟨⟨⟨⟨r11, r12⟩, r13⟩, r14⟩, r15⟩ := r1
  obtain ⟨⟨⟨⟨⟨⟨⟨⟨⟨⟨⟨⟨⟨q1, q2⟩, q3⟩, q4⟩, q5⟩, q6⟩, q7⟩, q8⟩, q9⟩, q10⟩, q11⟩, q12⟩, q13⟩, q14⟩ := r2
  unfold joinedFacts
  simp only [Bool.and_eq_true]
  exact ⟨⟨⟨⟨⟨⟨⟨⟨⟨⟨⟨⟨⟨⟨⟨⟨⟨⟨⟨⟨⟨⟨⟨⟨⟨⟨⟨⟨⟨⟨⟨r11, a1⟩, a2⟩, r12⟩, r13⟩, r14⟩, a3⟩, r15⟩, a4⟩, b1⟩, b2⟩, b3⟩, b4⟩, q1⟩, q2⟩, q3⟩, q4⟩, q5⟩, q6⟩, q7⟩, q8⟩, q9⟩, a5⟩, q10⟩, a6⟩, a7⟩, a8⟩, a9⟩, q11⟩, q12⟩, q13⟩, q14⟩
end Go.Proofs.Ytijlkjbmjkmkfaa
