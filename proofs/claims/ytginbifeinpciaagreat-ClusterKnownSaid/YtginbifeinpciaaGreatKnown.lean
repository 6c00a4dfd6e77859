/- ClusterKnown: a small cluster's run, by the kernel, is the law's. -/
import Derived.Test.YtginbifeinpciaaGreatRunA
import Derived.Test.YtginbifeinpciaaGreatRunB
import Derived.Test.YtginbifeinpciaaGreatFacts
import Derived.Below
import Derived.ChangeSame
namespace Go.Proofs.YtginbifeinpciaaGreat
open Go.ChangeShapes Go.WideShapes Go.ChangeAt Go.RowKit Go Go.Ev
section
variable {H : Type} {enc : TypeId × Value → H} {P : Program}
theorem post_of_below {f : Func} {s : ChangeSpec} {apart fresh handsOn again : Bool} {W W' : World} {args : Array Value} {v : Value} {ds gs : List (DataW H)} {before pa pv : List MemPlace}
    (hW : DataW.Whole enc P f.params.toList s.vars apart W args.toList ds gs before)
    (hres : ∀ (b : Nat) (sp : Nat → Bool) (hd : Bool), DataW.TrodAll enc P W' b sp hd f.resultTypes.toList (v.resultList f.resultTypes.size) (s.fn H (ds ++ gs)).results [])
    (hargs : ∀ sp : Nat → Bool, (∀ p ∈ before, sp p.block = true) → DataW.TrodAll enc P W' 0 sp true f.params.toList args.toList (s.fn H (ds ++ gs)).args pa)
    (hvars : ∀ sp : Nat → Bool, (∀ p ∈ before, sp p.block = true) → DataW.TrodVars enc P W' sp s.vars (s.fn H (ds ++ gs)).vars pv)
    (hps : before = pa ++ pv) (hb : Below W.heap.size W W')
    (hok : ∀ (j : Nat) (t : TypeId) (r : Value), f.resultTypes[j]? = some t → (v.resultList f.resultTypes.size)[j]? = some r → Value.okWide P W' .any 0 t r) :
    s.post enc P f apart fresh handsOn again W args v W' := by
  have hlt : ∀ p ∈ before, p.block < W.heap.size := fun p hp => hW.lt p hp
  have hold : ∀ p ∈ before, (fun b => decide (b < W.heap.size)) p.block = true := fun p hp => by simpa using hlt p hp
  refine ⟨ds, gs, before, [], pa, pv, hW, hres _ _ _, hargs _ hold, hvars _ hold, World.keptBut_mono (fun p hp => ⟨hp, ?_⟩) (hb.frame (· ∈ before)), fun _ => ?_⟩
  · rw [hps, List.mem_append] at hp
    exact Or.inr hp
  · obtain ⟨_, _, _, _, _, hz, hn⟩ := hW
    refine ⟨hok, _, _, ([] ++ pa) ++ pv, ⟨[] ++ pa, pv, trodAll_append (hargs _ (fun _ _ => rfl)) (hres _ _ _), hvars _ (fun _ _ => rfl), rfl, ?_, ?_⟩, ?_⟩
    · intro b off hp
      have hin : MemPlace.cell b off ∈ before := by rw [hps]; simpa using hp
      rw [hb.frozen (hlt _ hin)]
      exact hz b off hin
    · intro ha
      have := hn ha
      rw [hps] at this
      simpa using this
    · intro p hp _
      rw [hps]
      simpa using hp
theorem trod_true {tB : TypeId} (ht : P.underlying tB = some .bool) (W' : World) (b : Nat) (sp : Nat → Bool) (hd : Bool) : DataW.TrodAll enc P W' b sp hd [tB] [.bool true] [.lit (.bool true)] [] := by
  refine ⟨[], [], ⟨1, ?_⟩, rfl, rfl⟩
  show DataW.trod enc P W' b sp hd 1 tB [.bool true] = _
  simp [DataW.trod, ht]
theorem ok_true {tB : TypeId} (ht : P.underlying tB = some .bool) {f : Func} (hf : f.resultTypes = #[tB]) (W' : World) : ∀ (j : Nat) (t : TypeId) (r : Value), f.resultTypes[j]? = some t → ((Value.bool true).resultList f.resultTypes.size)[j]? = some r → Value.okWide P W' .any 0 t r := by
  intro j t r h1 h2
  rw [hf] at h1 h2
  cases j with
  | zero =>
    have h1 : some tB = some t := h1
    have h2 : some (Value.bool true) = some r := h2
    injection h1 with h1
    injection h2 with h2
    subst h1; subst h2
    exact okWide_bool_mk ht true
  | succ j => simp at h1
end
theorem prims25 : PrimOk Tryz.prog (orPrim 8 (boolP true) (primOf 223 117 126 215)) := by
  obtain ⟨H1, h⟩ := bool_call plain mixed prims run25
  exact orPrim_ok (fun hp => boolP_ok h hp) prims
theorem calls_ck (W : World) : Calls Tryz.prog 3 #[] W fun e w' => e = .returned (.bool true) ∧ Below W.heap.size W w' :=
  closed_run plain mixed prims25 Tryz.func3 (c := _) rfl runCK W
theorem Tryz.own : ownKnob Tryz.prog.godebug = none := by kernel_rfl
theorem ck_res : Tryz.f3.resultTypes = #[4] := rfl
theorem boolT : Tryz.prog.underlying 4 = some .bool := by kernel_rfl
set_option maxRecDepth 100000 in
theorem clusterKnown_lifted (os : Os) (started : os.Started) (H : Type) (enc : TypeId × Value → H) :
    ReturnsInHanded {} Tryz.checked os 3 .any (Rows.clusterKnownSpec.pre6 enc Tryz.prog Tryz.f3 Rows.clusterKnownRow.domain false) (Rows.clusterKnownSpec.post enc Tryz.prog Tryz.f3 false true false false) := by
  refine returnsInHanded_of_change (C := Tryz.checked) Tryz.own started (by kernel_rfl) Tryz.func3
    (ChangeSpec.witness6 (enc := enc) (C := Tryz.checked) false ⟨#[], #[], []⟩ 8 (by kernel_rfl) (by kernel_rfl) (by kernel_rfl) (by kernel_rfl)) ?_
  intro W base args ds gs before hval0 hW hcnd _
  have hW' := hW
  obtain ⟨p, q, hA0, hV, rfl, hfz, hnd⟩ := hW
  have hA : DataW.TrodAll enc Tryz.prog W 0 (fun _ => true) true Tryz.f3.params.toList args.toList ds p := hA0
  rw [Tryz.params3] at hA
  obtain ⟨h1, rfl, rfl⟩ := trodAll_nil hA
  have hargs : args = #[] := by simpa using h1
  subst hargs
  have hV : DataW.TrodVars enc Tryz.prog W (fun _ => true) [] gs q := hV
  cases gs with
  | cons _ _ => exact absurd hV id
  | nil =>
    have hV : q = [] := hV
    subst hV
    refine (calls_ck W).mono fun e w' he => ?_
    obtain ⟨rfl, hb⟩ := he
    refine ⟨_, rfl, post_of_below hW' (fun b sp hd => trod_true boolT w' b sp hd) (pa := []) (pv := []) (fun sp _ => ?_) (fun sp _ => ?_) rfl hb ?_⟩
    · show DataW.TrodAll enc Tryz.prog w' 0 sp true Tryz.f3.params.toList [] [] []
      rw [Tryz.params3]
      exact rfl
    · exact rfl
    · intro j t r h1 h2
      exact ok_true (P := Tryz.prog) (f := Tryz.f3) boolT ck_res w' j t r h1 h2
theorem clusterKnown_holds : Rows.ClusterKnownSaid :=
  OpenClaim.holds_of_wide 3 Tryz.f3 rfl rfl rfl rfl rfl rfl rfl ⟨rfl, rfl, rfl, rfl, rfl⟩ rfl rfl rfl rfl rfl (by kernel_rfl) Tryz.func3 ck_all
    (of_decide_eq_true (by kernel_rfl)) (by unfold Func.isWrapper; first | (rw [if_pos (by decide +kernel)]; kernel_rfl) | (rw [if_neg (by decide +kernel)]; exact ⟨rfl, rfl⟩))
    (fun os started H enc _ => clusterKnown_lifted os started H enc)
end Go.Proofs.YtginbifeinpciaaGreat
