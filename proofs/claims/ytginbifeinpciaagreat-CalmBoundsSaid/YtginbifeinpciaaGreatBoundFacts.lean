/- CalmBounds: closed facts. -/
import Derived.Test.YtginbifeinpciaaGreatRows
import Derived.ProofKit
import Derived.Below
import Derived.ChangeSame
namespace Go.Proofs.YtginbifeinpciaaGreat
open Go.ChangeShapes Go.WideShapes Go.ChangeAt Go.RowKit Go
theorem cb_0 : Rows.calmBoundsRow.wf (OpenSpec.ofChange Rows.calmBoundsSpec) = true := by kernel_rfl
theorem cb_1 : laidOutB Tryz.prog = true := by kernel_rfl
theorem cb_2 : mapsRowed Tryz.prog = true := by kernel_rfl
theorem cb_3 : Tryz.f5.params.all (Tryz.prog.readableRec ·) = true := by kernel_rfl
theorem cb_4 : namedTie Tryz.prog Rows.calmBoundsRow.named Rows.calmBoundsSpec.vars = true := by kernel_rfl
theorem cb_5 : (Rows.calmBoundsRow.stops == []) = true := by kernel_rfl
theorem cb_6 : (Tryz.prog.stops == []) = true := by kernel_rfl
theorem cb_7 : (Rows.calmBoundsRow.knobs == []) = true := by kernel_rfl
theorem cb_8 : (Tryz.prog.stopKnobs == []) = true := by kernel_rfl
theorem cb_9 : (Rows.calmBoundsRow.inPlace == Tryz.prog.inPlace 5) = true := by kernel_rfl
theorem cb_10 : (Rows.calmBoundsRow.unfollowed == Tryz.prog.unfollowed 5) = true := by kernel_rfl
theorem cb_11 : (Rows.calmBoundsRow.recurses == Tryz.prog.recurses 5) = true := by kernel_rfl
theorem cb_12 : (Rows.calmBoundsRow.named == Tryz.prog.varsNamed 5) = true := by kernel_rfl
theorem cb_13 : (Rows.calmBoundsRow.maps == (Tryz.f5.params.toList ++ Rows.calmBoundsSpec.plain.varTypes Tryz.prog).any (Tryz.prog.mapsRec ·)) = true := by kernel_rfl
theorem cb_14 : (Rows.calmBoundsRow.ifaces == (Tryz.f5.params.toList ++ Rows.calmBoundsSpec.plain.varTypes Tryz.prog).any (Tryz.prog.ifacesRec ·)) = true := by kernel_rfl
theorem cb_15 : (Rows.calmBoundsRow.mapsOut == Tryz.prog.mapsAmong Tryz.f5.resultTypes.toList) = true := by kernel_rfl
theorem cb_16 : (Rows.calmBoundsRow.loops == (Tryz.f5.params.toList ++ Rows.calmBoundsSpec.plain.varTypes Tryz.prog).any (Tryz.prog.loopsFrom ·)) = true := by kernel_rfl
theorem cb_17 : (Rows.calmBoundsRow.wideKeys == (Tryz.f5.params.toList ++ Rows.calmBoundsSpec.plain.varTypes Tryz.prog ++ Tryz.f5.resultTypes.toList).any (Tryz.prog.wideKeysFrom ·)) = true := by kernel_rfl
theorem cb_18 : Rows.calmBoundsSpec.vars.all (Tryz.prog.varReadable ·) = true := by kernel_rfl
theorem cb_19 : Tryz.f5.resultTypes.all (fun t => Tryz.prog.readableRec t && decide (t < Tryz.prog.types.size)) = true := by kernel_rfl
theorem cb_20 : (Rows.calmBoundsRow.ifacesOut == Tryz.f5.resultTypes.toList.any (Tryz.prog.ifacesRec ·)) = true := by kernel_rfl
theorem cb_21 : (Rows.calmBoundsRow.loopsOut == Tryz.f5.resultTypes.toList.any (Tryz.prog.loopsFrom ·)) = true := by kernel_rfl
theorem cb_22 : (Rows.calmBoundsRow.plainKeys == Tryz.prog.plainKeys) = true := by kernel_rfl
theorem cb_23 : Rows.calmBoundsRow.shortTexts.isNone = true := by kernel_rfl
theorem cb_24 : Tryz.prog.stopsHeard = true := by kernel_rfl
theorem cb_25 : Tryz.prog.mayEnter = true := by kernel_rfl
theorem cb_26 : (Rows.calmBoundsRow.lifted == Tryz.prog.liftsFinal) = true := by kernel_rfl
theorem cb_27 : (Tryz.prog.make == some Rows.calmBoundsRow.make) = true := by kernel_rfl
theorem cb_28 : (Rows.calmBoundsRow.kinds == (if Rows.calmBoundsRow.domain.isEmpty then [] else Tryz.f5.params.toList.map fun t => match Tryz.prog.underlying t with | some (.int k) => some k | _ => none)) = true := by kernel_rfl
theorem cb_29 : (Rows.calmBoundsRow.pinned == Rows.calmBoundsRow.pinnedBy) = true := by kernel_rfl
theorem cb_30 : (Rows.calmBoundsRow.veiled == (Tryz.f5.params.toList ++ Rows.calmBoundsSpec.plain.varTypes Tryz.prog ++ Tryz.f5.resultTypes.toList).any (Tryz.prog.veiledRec ·)) = true := by kernel_rfl
theorem cb_31 : Rows.calmBoundsRow.veiledFits Tryz.prog Tryz.f5.params.toList (Tryz.f5.params.toList ++ Rows.calmBoundsSpec.plain.varTypes Tryz.prog ++ Tryz.f5.resultTypes.toList) = true := by kernel_rfl
set_option maxRecDepth 100000 in
theorem cb_all : joinedFacts Tryz.prog 5 Tryz.f5 Rows.calmBoundsSpec Rows.calmBoundsRow = true := by
  simp only [joinedFacts, Bool.and_eq_true]
  exact ⟨⟨⟨⟨⟨⟨⟨⟨⟨⟨⟨⟨⟨⟨⟨⟨⟨⟨⟨⟨⟨⟨⟨⟨⟨⟨⟨⟨⟨⟨⟨cb_0, cb_1⟩, cb_2⟩, cb_3⟩, cb_4⟩, cb_5⟩, cb_6⟩, cb_7⟩, cb_8⟩, cb_9⟩, cb_10⟩, cb_11⟩, cb_12⟩, cb_13⟩, cb_14⟩, cb_15⟩, cb_16⟩, cb_17⟩, cb_18⟩, cb_19⟩, cb_20⟩, cb_21⟩, cb_22⟩, cb_23⟩, cb_24⟩, cb_25⟩, cb_26⟩, cb_27⟩, cb_28⟩, cb_29⟩, cb_30⟩, cb_31⟩
end Go.Proofs.YtginbifeinpciaaGreat
