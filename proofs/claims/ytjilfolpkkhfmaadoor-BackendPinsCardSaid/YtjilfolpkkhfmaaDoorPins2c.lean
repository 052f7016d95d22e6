/- BackendPins, the rest of its run, for one page. -/
import Derived.Test.YtjilfolpkkhfmaaDoorPins1
namespace Go.Proofs.YtjilfolpkkhfmaaDoor.Pins
open Go Go.AM Go.Proofs Tab
set_option maxRecDepth 1000000
theorem rest2t : finX F c4.results (execX F (callX A noSum 99999) 99999 (sfxN 4 c4.code) (T1 8 true) s1) = true := by kernel_rfl
theorem rest2f : finX F c4.results (execX F (callX A noSum 99999) 99999 (sfxN 4 c4.code) (T1 8 false) s1) = true := by kernel_rfl
end Go.Proofs.YtjilfolpkkhfmaaDoor.Pins
