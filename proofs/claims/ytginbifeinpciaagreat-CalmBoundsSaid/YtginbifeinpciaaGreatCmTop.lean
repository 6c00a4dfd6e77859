/- The closed run, the runs from state to state put in. -/
import Derived.Test.YtginbifeinpciaaGreatPrims
import Derived.Test.YtginbifeinpciaaGreatEvG
import Derived.Test.YtginbifeinpciaaGreatCm0
import Derived.Test.YtginbifeinpciaaGreatCm1
import Derived.Test.YtginbifeinpciaaGreatCm2
import Derived.Test.YtginbifeinpciaaGreatCm3
import Derived.Test.YtginbifeinpciaaGreatCm4
import Derived.Test.YtginbifeinpciaaGreatCm5
import Derived.Test.YtginbifeinpciaaGreatCm6
import Derived.Test.YtginbifeinpciaaGreatCm7
import Derived.Test.YtginbifeinpciaaGreatCm8
import Derived.Test.YtginbifeinpciaaGreatCm9
import Derived.Test.YtginbifeinpciaaGreatCm10
import Derived.Test.YtginbifeinpciaaGreatCm11
namespace Go.Proofs.YtginbifeinpciaaGreat
open Go Go.Ev
noncomputable def CmT29 : List TEnt := [Cme0, Cme1, Cme3, Cme5, Cme7, Cme9, Cme11, Cme13, Cme15, Cme17, Cme19, Cme21, Cme23, Cme25, Cme27, Cme29, Cme31, Cme33, Cme35, Cme37, Cme39, Cme41, Cme43, Cme45, Cme47, Cme49, Cme51, Cme52]
set_option maxRecDepth 10000 in
theorem CmP29 : PrimOk Tryz.prog (orPrim 29 (tabP CmT29) (primOf 223 117 126 215)) := orPrim_ok (fun h => tabP_ok (l := CmT29) (List.forall_mem_cons.2 ⟨Cmk0, List.forall_mem_cons.2 ⟨Cmk1, List.forall_mem_cons.2 ⟨Cmk3, List.forall_mem_cons.2 ⟨Cmk5, List.forall_mem_cons.2 ⟨Cmk7, List.forall_mem_cons.2 ⟨Cmk9, List.forall_mem_cons.2 ⟨Cmk11, List.forall_mem_cons.2 ⟨Cmk13, List.forall_mem_cons.2 ⟨Cmk15, List.forall_mem_cons.2 ⟨Cmk17, List.forall_mem_cons.2 ⟨Cmk19, List.forall_mem_cons.2 ⟨Cmk21, List.forall_mem_cons.2 ⟨Cmk23, List.forall_mem_cons.2 ⟨Cmk25, List.forall_mem_cons.2 ⟨Cmk27, List.forall_mem_cons.2 ⟨Cmk29, List.forall_mem_cons.2 ⟨Cmk31, List.forall_mem_cons.2 ⟨Cmk33, List.forall_mem_cons.2 ⟨Cmk35, List.forall_mem_cons.2 ⟨Cmk37, List.forall_mem_cons.2 ⟨Cmk39, List.forall_mem_cons.2 ⟨Cmk41, List.forall_mem_cons.2 ⟨Cmk43, List.forall_mem_cons.2 ⟨Cmk45, List.forall_mem_cons.2 ⟨Cmk47, List.forall_mem_cons.2 ⟨Cmk49, List.forall_mem_cons.2 ⟨Cmk51, List.forall_mem_cons.2 ⟨Cmk52, List.forall_mem_nil _⟩⟩⟩⟩⟩⟩⟩⟩⟩⟩⟩⟩⟩⟩⟩⟩⟩⟩⟩⟩⟩⟩⟩⟩⟩⟩⟩⟩) h) prims
noncomputable def CmT30 : List TEnt := [Cme2, Cme4, Cme6, Cme8, Cme10, Cme12, Cme14, Cme16, Cme18, Cme20, Cme22, Cme24, Cme26, Cme28, Cme30, Cme32, Cme34, Cme36, Cme38, Cme40, Cme42, Cme44, Cme46, Cme48, Cme50]
set_option maxRecDepth 10000 in
theorem CmP30 : PrimOk Tryz.prog (orPrim 30 (tabP CmT30) (orPrim 29 (tabP CmT29) (primOf 223 117 126 215))) := orPrim_ok (fun h => tabP_ok (l := CmT30) (List.forall_mem_cons.2 ⟨Cmk2, List.forall_mem_cons.2 ⟨Cmk4, List.forall_mem_cons.2 ⟨Cmk6, List.forall_mem_cons.2 ⟨Cmk8, List.forall_mem_cons.2 ⟨Cmk10, List.forall_mem_cons.2 ⟨Cmk12, List.forall_mem_cons.2 ⟨Cmk14, List.forall_mem_cons.2 ⟨Cmk16, List.forall_mem_cons.2 ⟨Cmk18, List.forall_mem_cons.2 ⟨Cmk20, List.forall_mem_cons.2 ⟨Cmk22, List.forall_mem_cons.2 ⟨Cmk24, List.forall_mem_cons.2 ⟨Cmk26, List.forall_mem_cons.2 ⟨Cmk28, List.forall_mem_cons.2 ⟨Cmk30, List.forall_mem_cons.2 ⟨Cmk32, List.forall_mem_cons.2 ⟨Cmk34, List.forall_mem_cons.2 ⟨Cmk36, List.forall_mem_cons.2 ⟨Cmk38, List.forall_mem_cons.2 ⟨Cmk40, List.forall_mem_cons.2 ⟨Cmk42, List.forall_mem_cons.2 ⟨Cmk44, List.forall_mem_cons.2 ⟨Cmk46, List.forall_mem_cons.2 ⟨Cmk48, List.forall_mem_cons.2 ⟨Cmk50, List.forall_mem_nil _⟩⟩⟩⟩⟩⟩⟩⟩⟩⟩⟩⟩⟩⟩⟩⟩⟩⟩⟩⟩⟩⟩⟩⟩⟩) h) CmP29
theorem Cmrun : ev Tryz.prog (orPrim 30 (tabP CmT30) (orPrim 29 (tabP CmT29) (primOf 223 117 126 215))) 500 500 (.call 13 [] AH.empty) boolR = some true := by kernel_rfl
theorem Cmcall : ∃ H1, CallS Tryz.prog 13 [] AH.empty (.bool true) H1 := bool_call plain mixed CmP30 Cmrun
end Go.Proofs.YtginbifeinpciaaGreat
