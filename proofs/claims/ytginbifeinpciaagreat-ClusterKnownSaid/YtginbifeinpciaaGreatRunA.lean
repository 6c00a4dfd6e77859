/- A run of a small cluster. -/
import Derived.Test.YtginbifeinpciaaGreatPrims
namespace Go.Proofs.YtginbifeinpciaaGreat
open Go Go.Ev
theorem run25 : ev Tryz.prog (primOf 223 117 126 215) 500 500 (.call 8 [] AH.empty) boolR = some true := by kernel_rfl
end Go.Proofs.YtginbifeinpciaaGreat
