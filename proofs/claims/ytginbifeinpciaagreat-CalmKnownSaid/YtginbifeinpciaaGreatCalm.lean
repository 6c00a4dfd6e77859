/- CalmKnown: a small cluster comes to a leader; its run, by the kernel, is the law's. -/
import Derived.Test.YtginbifeinpciaaGreatCalmRun
import Derived.Test.YtginbifeinpciaaGreatCalmFacts
import Derived.Test.YtginbifeinpciaaGreatTrue
import Derived.Below
import Derived.ChangeSame
namespace Go.Proofs.YtginbifeinpciaaGreat
open Go.ChangeShapes Go.WideShapes Go.ChangeAt Go.RowKit Go Go.Ev
theorem ca_res : Tryz.f4.resultTypes = #[4] := rfl
set_option maxRecDepth 100000 in
theorem calmKnown_lifted (os : Os) (started : os.Started) (H : Type) (enc : TypeId × Value → H) :
    ReturnsInHanded {} Tryz.checked os 4 .any (Rows.calmKnownSpec.pre6 enc Tryz.prog Tryz.f4 Rows.calmKnownRow.domain false) (Rows.calmKnownSpec.post enc Tryz.prog Tryz.f4 false true false false) := by
  refine returnsInHanded_of_change (C := Tryz.checked) Tryz.own started (by kernel_rfl) Tryz.func4
    (ChangeSpec.witness6 (enc := enc) (C := Tryz.checked) false ⟨#[], #[], []⟩ 8 (by kernel_rfl) (by kernel_rfl) (by kernel_rfl) (by kernel_rfl)) ?_
  intro W base args ds gs before hval0 hW hcnd _
  have hW' := hW
  obtain ⟨p, q, hA0, hV, rfl, hfz, hnd⟩ := hW
  have hA : DataW.TrodAll enc Tryz.prog W 0 (fun _ => true) true Tryz.f4.params.toList args.toList ds p := hA0
  rw [Tryz.params4] at hA
  obtain ⟨h1, rfl, rfl⟩ := trodAll_nil hA
  have hargs : args = #[] := by simpa using h1
  subst hargs
  have hV : DataW.TrodVars enc Tryz.prog W (fun _ => true) [] gs q := hV
  cases gs with
  | cons _ _ => exact absurd hV id
  | nil =>
    have hV : q = [] := hV
    subst hV
    refine (calls_ca W).mono fun e w' he => ?_
    obtain ⟨rfl, hb⟩ := he
    refine ⟨_, rfl, post_of_below hW' (fun b sp hd => trod_true boolT w' b sp hd) (pa := []) (pv := []) (fun sp _ => ?_) (fun sp _ => ?_) rfl hb ?_⟩
    · show DataW.TrodAll enc Tryz.prog w' 0 sp true Tryz.f4.params.toList [] [] []
      rw [Tryz.params4]
      exact rfl
    · exact rfl
    · intro j t r h1 h2
      exact ok_true (P := Tryz.prog) (f := Tryz.f4) boolT ca_res w' j t r h1 h2
theorem calmKnown_holds : Rows.CalmKnownSaid :=
  OpenClaim.holds_of_wide 4 Tryz.f4 rfl rfl rfl rfl rfl rfl rfl ⟨rfl, rfl, rfl, rfl, rfl⟩ rfl rfl rfl rfl rfl (by kernel_rfl) Tryz.func4 ca_all
    (of_decide_eq_true (by kernel_rfl)) (by unfold Func.isWrapper; first | (rw [if_pos (by decide +kernel)]; kernel_rfl) | (rw [if_neg (by decide +kernel)]; exact ⟨rfl, rfl⟩))
    (fun os started H enc _ => calmKnown_lifted os started H enc)
end Go.Proofs.YtginbifeinpciaaGreat
