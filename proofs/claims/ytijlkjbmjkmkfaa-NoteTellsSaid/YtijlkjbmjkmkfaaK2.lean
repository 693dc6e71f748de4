/- One of the program's closed facts. Conditions: none. -/
import Derived.Test.YtijlkjbmjkmkfaaRows
import Derived.Test.YtijlkjbmjkmkfaaChecked
import Derived.KernelRfl
import Derived.JoinedOf
namespace Go.Proofs.Ytijlkjbmjkmkfaa
open Go
def row0 : OpenClaim := { program := "", sum := "", func := "", spec := "" }
theorem lifts_ok : (row0.lifted == Try.prog.liftsFinal) = true := by kernel_rfl
end Go.Proofs.Ytijlkjbmjkmkfaa
