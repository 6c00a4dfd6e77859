/- CalmBounds: whatever the config, the raw numbers and the way. -/
import Derived.Test.YtginbifeinpciaaGreatBoundCode
import Derived.Test.YtginbifeinpciaaGreatBoundFacts
import Derived.Test.YtginbifeinpciaaGreatTrue
import Derived.Test.YtginbifeinpciaaGreatEvN
import Derived.Below
import Derived.ChangeSame
namespace Go.Proofs.YtginbifeinpciaaGreat
open Go.ChangeShapes Go.WideShapes Go.ChangeAt Go.RowKit Go Go.Ev
theorem cb_res : Tryz.f5.resultTypes = #[4] := rfl
def kC (i : Nat) : IntKind := match Nat.beq i 12 with
  | true => .u64
  | false => .i64
def kR (_ : Nat) : IntKind := .i64
theorem flat24 : flatB Tryz.prog 24 kC = true := by kernel_rfl
theorem flat27 : flatB Tryz.prog 27 kR = true := by kernel_rfl
theorem calls_cb (c : Cfg) (r : Raw) (how : Int) (W : World) {us : Array Value} (hl : LRel (fun _ => none) [.agg c.l, .agg r.l, iv how] us.toList) : Calls Tryz.prog 5 us W fun e w' => e = .returned (.bool true) ∧ Below W.heap.size W w' := by
  obtain ⟨H', h⟩ := bounds_code c r how
  obtain ⟨_, _, _, _, _, _, _, _, _, hb, _⟩ := Sh.sh5
  exact open_run plain Tryz.func5 hb h W hl
section
variable {H : Type} {enc : TypeId × Value → H}
set_option maxRecDepth 100000 in
theorem cfg_of {W : World} {b : Nat} {sp : Nat → Bool} {hd : Bool} {v : Value} {d : DataW H} {p : List MemPlace} (hok : Value.okWide Tryz.prog W .any b 24 v) (h : DataW.Trod enc Tryz.prog W 0 sp hd 24 v d p) : ∃ c : Cfg, VRel (fun _ => none) (.agg c.l) v := by
  have hv : ∃ cs, v = .agg cs := by
    obtain ⟨fs, hs⟩ := flat_spec flat24
    have hw := okWide_struct hs.1 hok
    exact hw.elim fun cs hc => ⟨cs, hc.1⟩
  obtain ⟨cs, hv⟩ := hv
  subst hv
  obtain ⟨n, hn⟩ := h
  obtain ⟨ns, hns⟩ := flat_vals flat24 hn
  have hns : cs.toList = (List.range 13).map fun i => .int (kC i) (ns i) := hns
  refine ⟨⟨ns 0, ns 1, ns 2, ns 3, ns 4, ns 5, ns 6, ns 7, ns 8, ns 9, ns 10, ns 11, ns 12⟩, .agg ?_⟩
  rw [hns]
  exact .cons (.int _ _) (.cons (.int _ _) (.cons (.int _ _) (.cons (.int _ _) (.cons (.int _ _) (.cons (.int _ _) (.cons (.int _ _) (.cons (.int _ _) (.cons (.int _ _) (.cons (.int _ _) (.cons (.int _ _) (.cons (.int _ _) (.cons (.int _ _) .nil))))))))))))
set_option maxRecDepth 100000 in
theorem raw_of {W : World} {b : Nat} {sp : Nat → Bool} {hd : Bool} {v : Value} {d : DataW H} {p : List MemPlace} (hok : Value.okWide Tryz.prog W .any b 27 v) (h : DataW.Trod enc Tryz.prog W 0 sp hd 27 v d p) : ∃ c : Raw, VRel (fun _ => none) (.agg c.l) v := by
  have hv : ∃ cs, v = .agg cs := by
    obtain ⟨fs, hs⟩ := flat_spec flat27
    have hw := okWide_struct hs.1 hok
    exact hw.elim fun cs hc => ⟨cs, hc.1⟩
  obtain ⟨cs, hv⟩ := hv
  subst hv
  obtain ⟨n, hn⟩ := h
  obtain ⟨ns, hns⟩ := flat_vals flat27 hn
  have hns : cs.toList = (List.range 13).map fun i => .int (kR i) (ns i) := hns
  refine ⟨⟨ns 0, ns 1, ns 2, ns 3, ns 4, ns 5, ns 6, ns 7, ns 8, ns 9, ns 10, ns 11, ns 12⟩, .agg ?_⟩
  rw [hns]
  exact .cons (.int _ _) (.cons (.int _ _) (.cons (.int _ _) (.cons (.int _ _) (.cons (.int _ _) (.cons (.int _ _) (.cons (.int _ _) (.cons (.int _ _) (.cons (.int _ _) (.cons (.int _ _) (.cons (.int _ _) (.cons (.int _ _) (.cons (.int _ _) .nil))))))))))))
end
set_option maxRecDepth 100000 in
theorem calmBounds_lifted (os : Os) (started : os.Started) (H : Type) (enc : TypeId × Value → H) :
    ReturnsInHanded {} Tryz.checked os 5 .any (Rows.calmBoundsSpec.pre6 enc Tryz.prog Tryz.f5 Rows.calmBoundsRow.domain false) (Rows.calmBoundsSpec.post enc Tryz.prog Tryz.f5 false true false false) := by
  refine returnsInHanded_of_change (C := Tryz.checked) Tryz.own started (by kernel_rfl) Tryz.func5
    (ChangeSpec.witness6 (enc := enc) (C := Tryz.checked) false ⟨#[], #[.agg #[.int .i64 0, .int .i64 0, .int .i64 0, .int .i64 0, .int .i64 0, .int .i64 0, .int .i64 0, .int .i64 0, .int .i64 0, .int .i64 0, .int .i64 0, .int .i64 0, .int .u64 0], .agg #[.int .i64 0, .int .i64 0, .int .i64 0, .int .i64 0, .int .i64 0, .int .i64 0, .int .i64 0, .int .i64 0, .int .i64 0, .int .i64 0, .int .i64 0, .int .i64 0, .int .i64 0], .int .i64 0], []⟩ 8 (by kernel_rfl) (by kernel_rfl) (by kernel_rfl) (by kernel_rfl)) ?_
  intro W base args ds gs before hval0 hW hcnd _
  have hW' := hW
  obtain ⟨p, q, hA0, hV, rfl, hfz, hnd⟩ := hW
  have hA : DataW.TrodAll enc Tryz.prog W 0 (fun _ => true) true Tryz.f5.params.toList args.toList ds p := hA0
  rw [Tryz.params5] at hA hval0
  obtain ⟨v1, vs1, d1, ds1, p1, q1, e1, e2, rfl, t1, hA1⟩ := trodAll_cons hA
  obtain ⟨v2, vs2, d2, ds2, p2, q2, rfl, rfl, rfl, t2, hA2⟩ := trodAll_cons hA1
  obtain ⟨v3, vs3, d3, ds3, p3, q3, rfl, rfl, rfl, t3, hA3⟩ := trodAll_cons hA2
  obtain ⟨rfl, rfl, rfl⟩ := trodAll_nil hA3
  subst e2
  have hargs : args = #[v1, v2, v3] := by
    apply Array.ext'
    simpa using e1
  subst hargs
  have hV : DataW.TrodVars enc Tryz.prog W (fun _ => true) [] gs q := hV
  cases gs with
  | cons _ _ => exact absurd hV id
  | nil =>
    have hV : q = [] := hV
    subst hV
    obtain ⟨c, hc⟩ := cfg_of (hval0 0 24 v1 rfl rfl) t1
    obtain ⟨r, hr⟩ := raw_of (hval0 1 27 v2 rfl rfl) t2
    obtain ⟨how, rfl⟩ := okWide_int u3 (hval0 2 3 v3 rfl rfl)
    refine (calls_cb c r how W (us := #[v1, v2, .int .i64 how]) (.cons hc (.cons hr (.cons (.int _ _) .nil)))).mono fun e w' he => ?_
    obtain ⟨rfl, hb⟩ := he
    refine ⟨_, rfl, post_of_below hW' (fun b sp hd => trod_true boolT w' b sp hd) (pa := p1 ++ (p2 ++ (p3 ++ []))) (pv := []) (fun sp _ => ?_) (fun sp _ => ?_) rfl hb ?_⟩
    · show DataW.TrodAll enc Tryz.prog w' 0 sp true Tryz.f5.params.toList [v1, v2, .int .i64 how] [d1, d2, d3] _
      rw [Tryz.params5]
      obtain ⟨n1, t1⟩ := t1
      obtain ⟨n2, t2⟩ := t2
      obtain ⟨n3, t3⟩ := t3
      exact ⟨p1, _, ⟨n1, by rw [← t1]; exact trod_flat_any flat24⟩, ⟨p2, _, ⟨n2, by rw [← t2]; exact trod_flat_any flat27⟩, ⟨p3, _, ⟨n3, by rw [← t3]; exact trod_int_any u3⟩, rfl, rfl⟩, rfl⟩, rfl⟩
    · exact rfl
    · intro j t r h1 h2
      exact ok_true (P := Tryz.prog) (f := Tryz.f5) boolT cb_res w' j t r h1 h2
theorem calmBounds_holds : Rows.CalmBoundsSaid :=
  OpenClaim.holds_of_wide 5 Tryz.f5 rfl rfl rfl rfl rfl rfl rfl ⟨rfl, rfl, rfl, rfl, rfl⟩ rfl rfl rfl rfl rfl (by kernel_rfl) Tryz.func5 cb_all
    (of_decide_eq_true (by kernel_rfl)) (by unfold Func.isWrapper; first | (rw [if_pos (by decide +kernel)]; kernel_rfl) | (rw [if_neg (by decide +kernel)]; exact ⟨rfl, rfl⟩))
    (fun os started H enc _ => calmBounds_lifted os started H enc)
end Go.Proofs.YtginbifeinpciaaGreat
