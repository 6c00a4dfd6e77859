/- ClusterKnown: closed facts. -/
import Derived.Test.YtginbifeinpciaaGreatRows
import Derived.ProofKit
import Derived.Below
import Derived.ChangeSame
namespace Go.Proofs.YtginbifeinpciaaGreat
open Go.ChangeShapes Go.WideShapes Go.ChangeAt Go.RowKit Go
theorem ck_0 : Rows.clusterKnownRow.wf (OpenSpec.ofChange Rows.clusterKnownSpec) = true := by kernel_rfl
theorem ck_1 : laidOutB Tryz.prog = true := by kernel_rfl
theorem ck_2 : mapsRowed Tryz.prog = true := by kernel_rfl
theorem ck_3 : Tryz.f3.params.all (Tryz.prog.readableRec ·) = true := by kernel_rfl
theorem ck_4 : namedTie Tryz.prog Rows.clusterKnownRow.named Rows.clusterKnownSpec.vars = true := by kernel_rfl
theorem ck_5 : (Rows.clusterKnownRow.stops == []) = true := by kernel_rfl
theorem ck_6 : (Tryz.prog.stops == []) = true := by kernel_rfl
theorem ck_7 : (Rows.clusterKnownRow.knobs == []) = true := by kernel_rfl
theorem ck_8 : (Tryz.prog.stopKnobs == []) = true := by kernel_rfl
theorem ck_9 : (Rows.clusterKnownRow.inPlace == Tryz.prog.inPlace 3) = true := by kernel_rfl
theorem ck_10 : (Rows.clusterKnownRow.unfollowed == Tryz.prog.unfollowed 3) = true := by kernel_rfl
theorem ck_11 : (Rows.clusterKnownRow.recurses == Tryz.prog.recurses 3) = true := by kernel_rfl
theorem ck_12 : (Rows.clusterKnownRow.named == Tryz.prog.varsNamed 3) = true := by kernel_rfl
theorem ck_13 : (Rows.clusterKnownRow.maps == (Tryz.f3.params.toList ++ Rows.clusterKnownSpec.plain.varTypes Tryz.prog).any (Tryz.prog.mapsRec ·)) = true := by kernel_rfl
theorem ck_14 : (Rows.clusterKnownRow.ifaces == (Tryz.f3.params.toList ++ Rows.clusterKnownSpec.plain.varTypes Tryz.prog).any (Tryz.prog.ifacesRec ·)) = true := by kernel_rfl
theorem ck_15 : (Rows.clusterKnownRow.mapsOut == Tryz.prog.mapsAmong Tryz.f3.resultTypes.toList) = true := by kernel_rfl
theorem ck_16 : (Rows.clusterKnownRow.loops == (Tryz.f3.params.toList ++ Rows.clusterKnownSpec.plain.varTypes Tryz.prog).any (Tryz.prog.loopsFrom ·)) = true := by kernel_rfl
theorem ck_17 : (Rows.clusterKnownRow.wideKeys == (Tryz.f3.params.toList ++ Rows.clusterKnownSpec.plain.varTypes Tryz.prog ++ Tryz.f3.resultTypes.toList).any (Tryz.prog.wideKeysFrom ·)) = true := by kernel_rfl
theorem ck_18 : Rows.clusterKnownSpec.vars.all (Tryz.prog.varReadable ·) = true := by kernel_rfl
theorem ck_19 : Tryz.f3.resultTypes.all (fun t => Tryz.prog.readableRec t && decide (t < Tryz.prog.types.size)) = true := by kernel_rfl
theorem ck_20 : (Rows.clusterKnownRow.ifacesOut == Tryz.f3.resultTypes.toList.any (Tryz.prog.ifacesRec ·)) = true := by kernel_rfl
theorem ck_21 : (Rows.clusterKnownRow.loopsOut == Tryz.f3.resultTypes.toList.any (Tryz.prog.loopsFrom ·)) = true := by kernel_rfl
theorem ck_22 : (Rows.clusterKnownRow.plainKeys == Tryz.prog.plainKeys) = true := by kernel_rfl
theorem ck_23 : Rows.clusterKnownRow.shortTexts.isNone = true := by kernel_rfl
theorem ck_24 : Tryz.prog.stopsHeard = true := by kernel_rfl
theorem ck_25 : Tryz.prog.mayEnter = true := by kernel_rfl
theorem ck_26 : (Rows.clusterKnownRow.lifted == Tryz.prog.liftsFinal) = true := by kernel_rfl
theorem ck_27 : (Tryz.prog.make == some Rows.clusterKnownRow.make) = true := by kernel_rfl
theorem ck_28 : (Rows.clusterKnownRow.kinds == (if Rows.clusterKnownRow.domain.isEmpty then [] else Tryz.f3.params.toList.map fun t => match Tryz.prog.underlying t with | some (.int k) => some k | _ => none)) = true := by kernel_rfl
theorem ck_29 : (Rows.clusterKnownRow.pinned == Rows.clusterKnownRow.pinnedBy) = true := by kernel_rfl
theorem ck_30 : (Rows.clusterKnownRow.veiled == (Tryz.f3.params.toList ++ Rows.clusterKnownSpec.plain.varTypes Tryz.prog ++ Tryz.f3.resultTypes.toList).any (Tryz.prog.veiledRec ·)) = true := by kernel_rfl
theorem ck_31 : Rows.clusterKnownRow.veiledFits Tryz.prog Tryz.f3.params.toList (Tryz.f3.params.toList ++ Rows.clusterKnownSpec.plain.varTypes Tryz.prog ++ Tryz.f3.resultTypes.toList) = true := by kernel_rfl
set_option maxRecDepth 100000 in
theorem ck_all : joinedFacts Tryz.prog 3 Tryz.f3 Rows.clusterKnownSpec Rows.clusterKnownRow = true := by
  simp only [joinedFacts, Bool.and_eq_true]
  exact ⟨⟨⟨⟨⟨⟨⟨⟨⟨⟨⟨⟨⟨⟨⟨⟨⟨⟨⟨⟨⟨⟨⟨⟨⟨⟨⟨⟨⟨⟨⟨ck_0, ck_1⟩, ck_2⟩, ck_3⟩, ck_4⟩, ck_5⟩, ck_6⟩, ck_7⟩, ck_8⟩, ck_9⟩, ck_10⟩, ck_11⟩, ck_12⟩, ck_13⟩, ck_14⟩, ck_15⟩, ck_16⟩, ck_17⟩, ck_18⟩, ck_19⟩, ck_20⟩, ck_21⟩, ck_22⟩, ck_23⟩, ck_24⟩, ck_25⟩, ck_26⟩, ck_27⟩, ck_28⟩, ck_29⟩, ck_30⟩, ck_31⟩
end Go.Proofs.YtginbifeinpciaaGreat
