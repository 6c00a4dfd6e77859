/- CalmKnown, known put aside. -/
import Derived.Test.YtginbifeinpciaaGreatCmTop
namespace Go.Proofs.YtginbifeinpciaaGreat
open Go Go.Ev
theorem runCA : ev Tryz.prog (orPrim 13 (boolP true) (primOf 223 117 126 215)) 500 500 (.call 4 [] AH.empty) boolR = some true := by kernel_rfl
theorem prims28 : PrimOk Tryz.prog (orPrim 13 (boolP true) (primOf 223 117 126 215)) := by
  obtain ⟨H1, h⟩ := Cmcall
  exact orPrim_ok (fun hp => boolP_ok h hp) prims
theorem calls_ca (W : World) : Calls Tryz.prog 4 #[] W fun e w' => e = .returned (.bool true) ∧ Go.RowKit.Below W.heap.size W w' :=
  closed_run plain mixed prims28 Tryz.func4 (c := _) rfl runCA W
end Go.Proofs.YtginbifeinpciaaGreat
