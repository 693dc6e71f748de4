/- One of the program's closed facts. Conditions: none. -/
import Derived.Test.YtijlkjbmjkmkfaaRows
import Derived.Test.YtijlkjbmjkmkfaaChecked
import Derived.KernelRfl
import Derived.JoinedOf
namespace Go.Proofs.Ytijlkjbmjkmkfaa
open Go
theorem mayEnter_ok : Try.prog.mayEnter = true := by kernel_rfl
end Go.Proofs.Ytijlkjbmjkmkfaa
