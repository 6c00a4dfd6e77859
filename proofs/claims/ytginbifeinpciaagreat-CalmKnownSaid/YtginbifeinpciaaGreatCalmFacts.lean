/- CalmKnown: closed facts. -/
import Derived.Test.YtginbifeinpciaaGreatRows
import Derived.ProofKit
import Derived.Below
import Derived.ChangeSame
namespace Go.Proofs.YtginbifeinpciaaGreat
open Go.ChangeShapes Go.WideShapes Go.ChangeAt Go.RowKit Go
theorem ca_0 : Rows.calmKnownRow.wf (OpenSpec.ofChange Rows.calmKnownSpec) = true := by kernel_rfl
theorem ca_1 : laidOutB Tryz.prog = true := by kernel_rfl
theorem ca_2 : mapsRowed Tryz.prog = true := by kernel_rfl
theorem ca_3 : Tryz.f4.params.all (Tryz.prog.readableRec ·) = true := by kernel_rfl
theorem ca_4 : namedTie Tryz.prog Rows.calmKnownRow.named Rows.calmKnownSpec.vars = true := by kernel_rfl
theorem ca_5 : (Rows.calmKnownRow.stops == []) = true := by kernel_rfl
theorem ca_6 : (Tryz.prog.stops == []) = true := by kernel_rfl
theorem ca_7 : (Rows.calmKnownRow.knobs == []) = true := by kernel_rfl
theorem ca_8 : (Tryz.prog.stopKnobs == []) = true := by kernel_rfl
theorem ca_9 : (Rows.calmKnownRow.inPlace == Tryz.prog.inPlace 4) = true := by kernel_rfl
theorem ca_10 : (Rows.calmKnownRow.unfollowed == Tryz.prog.unfollowed 4) = true := by kernel_rfl
theorem ca_11 : (Rows.calmKnownRow.recurses == Tryz.prog.recurses 4) = true := by kernel_rfl
theorem ca_12 : (Rows.calmKnownRow.named == Tryz.prog.varsNamed 4) = true := by kernel_rfl
theorem ca_13 : (Rows.calmKnownRow.maps == (Tryz.f4.params.toList ++ Rows.calmKnownSpec.plain.varTypes Tryz.prog).any (Tryz.prog.mapsRec ·)) = true := by kernel_rfl
theorem ca_14 : (Rows.calmKnownRow.ifaces == (Tryz.f4.params.toList ++ Rows.calmKnownSpec.plain.varTypes Tryz.prog).any (Tryz.prog.ifacesRec ·)) = true := by kernel_rfl
theorem ca_15 : (Rows.calmKnownRow.mapsOut == Tryz.prog.mapsAmong Tryz.f4.resultTypes.toList) = true := by kernel_rfl
theorem ca_16 : (Rows.calmKnownRow.loops == (Tryz.f4.params.toList ++ Rows.calmKnownSpec.plain.varTypes Tryz.prog).any (Tryz.prog.loopsFrom ·)) = true := by kernel_rfl
theorem ca_17 : (Rows.calmKnownRow.wideKeys == (Tryz.f4.params.toList ++ Rows.calmKnownSpec.plain.varTypes Tryz.prog ++ Tryz.f4.resultTypes.toList).any (Tryz.prog.wideKeysFrom ·)) = true := by kernel_rfl
theorem ca_18 : Rows.calmKnownSpec.vars.all (Tryz.prog.varReadable ·) = true := by kernel_rfl
theorem ca_19 : Tryz.f4.resultTypes.all (fun t => Tryz.prog.readableRec t && decide (t < Tryz.prog.types.size)) = true := by kernel_rfl
theorem ca_20 : (Rows.calmKnownRow.ifacesOut == Tryz.f4.resultTypes.toList.any (Tryz.prog.ifacesRec ·)) = true := by kernel_rfl
theorem ca_21 : (Rows.calmKnownRow.loopsOut == Tryz.f4.resultTypes.toList.any (Tryz.prog.loopsFrom ·)) = true := by kernel_rfl
theorem ca_22 : (Rows.calmKnownRow.plainKeys == Tryz.prog.plainKeys) = true := by kernel_rfl
theorem ca_23 : Rows.calmKnownRow.shortTexts.isNone = true := by kernel_rfl
theorem ca_24 : Tryz.prog.stopsHeard = true := by kernel_rfl
theorem ca_25 : Tryz.prog.mayEnter = true := by kernel_rfl
theorem ca_26 : (Rows.calmKnownRow.lifted == Tryz.prog.liftsFinal) = true := by kernel_rfl
theorem ca_27 : (Tryz.prog.make == some Rows.calmKnownRow.make) = true := by kernel_rfl
theorem ca_28 : (Rows.calmKnownRow.kinds == (if Rows.calmKnownRow.domain.isEmpty then [] else Tryz.f4.params.toList.map fun t => match Tryz.prog.underlying t with | some (.int k) => some k | _ => none)) = true := by kernel_rfl
theorem ca_29 : (Rows.calmKnownRow.pinned == Rows.calmKnownRow.pinnedBy) = true := by kernel_rfl
theorem ca_30 : (Rows.calmKnownRow.veiled == (Tryz.f4.params.toList ++ Rows.calmKnownSpec.plain.varTypes Tryz.prog ++ Tryz.f4.resultTypes.toList).any (Tryz.prog.veiledRec ·)) = true := by kernel_rfl
theorem ca_31 : Rows.calmKnownRow.veiledFits Tryz.prog Tryz.f4.params.toList (Tryz.f4.params.toList ++ Rows.calmKnownSpec.plain.varTypes Tryz.prog ++ Tryz.f4.resultTypes.toList) = true := by kernel_rfl
set_option maxRecDepth 100000 in
theorem ca_all : joinedFacts Tryz.prog 4 Tryz.f4 Rows.calmKnownSpec Rows.calmKnownRow = true := by
  simp only [joinedFacts, Bool.and_eq_true]
  exact ⟨⟨⟨⟨⟨⟨⟨⟨⟨⟨⟨⟨⟨⟨⟨⟨⟨⟨⟨⟨⟨⟨⟨⟨⟨⟨⟨⟨⟨⟨⟨ca_0, ca_1⟩, ca_2⟩, ca_3⟩, ca_4⟩, ca_5⟩, ca_6⟩, ca_7⟩, ca_8⟩, ca_9⟩, ca_10⟩, ca_11⟩, ca_12⟩, ca_13⟩, ca_14⟩, ca_15⟩, ca_16⟩, ca_17⟩, ca_18⟩, ca_19⟩, ca_20⟩, ca_21⟩, ca_22⟩, ca_23⟩, ca_24⟩, ca_25⟩, ca_26⟩, ca_27⟩, ca_28⟩, ca_29⟩, ca_30⟩, ca_31⟩
end Go.Proofs.YtginbifeinpciaaGreat
