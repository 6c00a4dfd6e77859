/- ClusterKnown, known put aside. -/
import Derived.Test.YtginbifeinpciaaGreatPrims
namespace Go.Proofs.YtginbifeinpciaaGreat
open Go Go.Ev
theorem runCK : ev Tryz.prog (orPrim 8 (boolP true) (primOf 223 117 126 215)) 500 500 (.call 3 [] AH.empty) boolR = some true := by kernel_rfl
end Go.Proofs.YtginbifeinpciaaGreat
