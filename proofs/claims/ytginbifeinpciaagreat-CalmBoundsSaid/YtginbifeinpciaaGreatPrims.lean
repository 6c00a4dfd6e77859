/- The four primitives of this program. -/
import Derived.Test.YtginbifeinpciaaGreatEvG
import Derived.Test.YtginbifeinpciaaGreatRows
import Derived.ProofKit
namespace Go.Proofs.YtginbifeinpciaaGreat
open Go Go.Ev
theorem usedSh : UsedShape Tryz.prog Tryz.f223 131 128 4 3 38 9 38 5 where
  nt := rfl
  res := rfl
  code := ⟨_, _, _, _, _, _, _, _, _, _, _, _, _, _, _, _, _, _, _, rfl, rfl, rfl, rfl, rfl, rfl, rfl, rfl, rfl, rfl⟩
  fld2 := by kernel_rfl
  fld5 := by kernel_rfl
  aggM := by kernel_rfl
  aggB := by kernel_rfl
  mapM := by kernel_rfl
  slS := by kernel_rfl
theorem settleSh : SettleShape Tryz.prog Tryz.f126 131 128 9 38 129 where
  nt := rfl
  res := rfl
  code := ⟨_, _, _, _, _, _, _, _, _, _, _, _, _, _, _, _, rfl, rfl, rfl, rfl, rfl, rfl, rfl, rfl, rfl⟩
  fld1 := by kernel_rfl
  fld2 := by kernel_rfl
  fld3 := by kernel_rfl
  aggM := by kernel_rfl
  mapM := by kernel_rfl
  strK := by kernel_rfl
  szM := by kernel_rfl
  szP := by kernel_rfl
theorem sumSh : SumShape Tryz.prog Tryz.f215 38 5 366 3 76 where
  nt := rfl
  res := rfl
  code := ⟨_, _, _, _, _, _, _, _, _, _, _, _, _, _, _, _, _, _, _, _, _, _, _, _, _, _, _, _, _, _, _, _, _, _, rfl, rfl, rfl, rfl, rfl, rfl, rfl, rfl, rfl, rfl, rfl, rfl, rfl, rfl, rfl, rfl⟩
  slS := by kernel_rfl
  aggE := by kernel_rfl
  szE := by kernel_rfl
  inE := by kernel_rfl
  inU := by kernel_rfl
theorem plain : Plain Tryz.prog := plain_of (by kernel_rfl)
theorem mixed : Tryz.prog.follows .mixedOrders = true := by kernel_rfl
theorem sort0 (H : AH) : ev Tryz.prog noPrim 20 20 (.call 217 [.snil] H) pairR = some (.tup [], H) := by kernel_rfl
theorem sort1 (H : AH) (b : Nat) : ev Tryz.prog noPrim 20 20 (.call 217 [.slice b 0 1 1] H) pairR = some (.tup [], H) := by kernel_rfl
theorem namesSh : NamesShape Tryz.prog Tryz.f117 131 128 4 9 38 265 217 where
  nt := rfl
  res := rfl
  code := ⟨_, _, _, _, _, _, _, _, _, _, _, _, _, _, _, _, _, _, _, _, _, _, rfl, rfl, rfl, rfl, rfl, rfl, rfl, rfl, rfl, rfl, rfl⟩
  fld2 := by kernel_rfl
  fld5 := by kernel_rfl
  aggM := by kernel_rfl
  aggB := by kernel_rfl
  mapM := by kernel_rfl
  slL := by kernel_rfl
  szK := by kernel_rfl
  byK := by kernel_rfl
  zeK := by kernel_rfl
  sort := by
    rintro H x (rfl | ⟨b, rfl⟩)
    · exact (calls_of_ev plain mixed noPrim_ok (sort0 H)).2
    · exact (calls_of_ev plain mixed noPrim_ok (sort1 H b)).2
theorem prims : PrimOk Tryz.prog (primOf 223 117 126 215) :=
  prim4_ok (fun h => used_sound plain Tryz.func223 usedSh h) (fun h => names_sound plain Tryz.func117 namesSh h) (fun h => settle_sound plain Tryz.func126 settleSh h) (fun h => sum_sound plain Tryz.func215 sumSh h)
end Go.Proofs.YtginbifeinpciaaGreat
