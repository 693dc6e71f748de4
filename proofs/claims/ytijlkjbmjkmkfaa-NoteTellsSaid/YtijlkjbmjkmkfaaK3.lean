/- One of the program's closed facts. Conditions: none. -/
import Derived.Test.YtijlkjbmjkmkfaaRows
import Derived.Test.YtijlkjbmjkmkfaaChecked
import Derived.KernelRfl
import Derived.JoinedOf
import Derived.Test.YtijlkjbmjkmkfaaK2
namespace Go.Proofs.Ytijlkjbmjkmkfaa
open Go
theorem make_ok : (Try.prog.make == some row0.make) = true := by kernel_rfl
end Go.Proofs.Ytijlkjbmjkmkfaa
