/- Pick, and the regions that fill a config. -/
import Derived.Test.YtginbifeinpciaaGreatForms
namespace Go.Proofs.YtginbifeinpciaaGreat
open Go Go.Ev
set_option linter.unusedSimpArgs false
def remI (a b : Int) : Int := match remA .i64 a b with
  | some (.int _ n) => n
  | _ => 0
theorem bin_rem64 {P : Program} {t : TypeId} (a b : Int) (h : iEq b 0 = false) : binA P .rem t (iv a) (iv b) = some (iv (remI a b)) := by
  show remA .i64 a b = _
  have h' : iEq b (.ofNat 0) = false := h
  unfold remI remA
  simp only [h']
  unfold small
  split
  · split <;> rfl
  · rfl
def pickI (a b : Int) : Int := match iLt (remI a b) 0 with
  | true => addI (remI a b) b
  | false => remI a b
def pickT : List AV → Option (AV × Nat)
  | [.int .i64 a, .int .i64 b] => match iEq b 0 with
    | true => none
    | false => some (iv (pickI a b), 0)
  | _ => none
theorem pickT_eq {a b : Int} (h : iEq b 0 = false) : pickT [iv a, iv b] = some (iv (pickI a b), 0) := by
  show (match iEq b 0 with
    | true => none
    | false => some (iv (pickI a b), 0)) = _
  rw [h]
theorem pick_ok (args : List AV) (v : AV) (d : Nat) (h : pickT args = some (v, d)) (H : AH) (hroom : H.nx + d < mH) : CallS Tryz.prog 19 args H v ⟨H.bl, H.nx + d⟩ := by
  unfold pickT at h
  split at h
  · rename_i a b
    split at h
    · cases h
    rename_i hb0
    injection h with h
    injection h with h1 h2
    subst h1; subst h2
    obtain ⟨hn, hr, r0, r1, r2, r3, r4, hb, e0, e1, e2, e3, e4⟩ := sh19
    refine (fn_codeS (H' := H) plain Tryz.func19 hb (by rw [hn]; omega) (by rw [hn]; simp) fun f hdf hrd hnt hget => ?_).2
    have hnt : f.nt = 14 := hnt.trans hn
    have g0 : f.get 0 = iv a := hget 0
    have g1 : f.get 1 = iv b := hget 1
    have s0 : ∃ f1, seqP Tryz.prog (fun _ _ => none) ((r0.toList.map strip).map (·.1)) (r0.toList.map strip) f H = some (f1, H) ∧ f1.get 0 = iv a ∧ f1.get 1 = iv b ∧ f1.nt = 14 ∧ f1.df = [] := by
      rw [e0]
      simp only [List.map_cons, List.map_nil]
      refine ⟨_, pval rfl rfl rfl (by rw [hnt]; decide) pnil, ?_, ?_, ?_, ?_⟩
      · simp only [Fr.get_putT, Nat.reduceLT, Nat.reduceEqDiff, if_true, if_false, g0]
      · simp only [Fr.get_putT, Nat.reduceLT, Nat.reduceEqDiff, if_true, if_false, g1]
      · simp only [Fr.nt_putT, hnt]
      · simp only [Fr.df_putT, hdf]
    obtain ⟨f1, q0, a0, a1, n1, d1⟩ := s0
    have s1 : ∃ f2, seqP Tryz.prog (fun _ _ => none) ((r1.toList.map strip).map (·.1)) (r1.toList.map strip) f1 H = some (f2, H) ∧ f2.get 0 = iv (remI a b) ∧ f2.get 1 = iv b ∧ f2.nt = 14 ∧ f2.df = [] := by
      rw [e1]
      simp only [List.map_cons, List.map_nil]
      refine ⟨_, pval rfl rfl (v := iv a) (H1 := H) ?_ (by simp only [Fr.nt_putT, n1]; decide) (pval rfl rfl (v := iv b) (H1 := H) ?_ (by simp only [Fr.nt_putT, n1]; decide) (pval rfl rfl (v := iv (remI a b)) (H1 := H) ?_ (by simp only [Fr.nt_putT, n1]; decide) (pval rfl rfl (v := iv (remI a b)) (H1 := H) ?_ (by simp only [Fr.nt_putT, n1]; decide) pnil))), ?_, ?_, ?_, ?_⟩
      · simp only [opA, aev, vA, Fr.get_putT, Nat.reduceLT, Nat.reduceEqDiff, if_true, if_false, a0]
      · simp only [opA, aev, vA, Fr.get_putT, Nat.reduceLT, Nat.reduceEqDiff, if_true, if_false, a1]
      · simp only [opA, aev, vA, opBin, Fr.get_putT, Nat.reduceLT, Nat.reduceEqDiff, if_true, if_false, bin_rem64 _ _ hb0]
      · simp only [opA, aev, vA, Fr.get_putT, Nat.reduceLT, Nat.reduceEqDiff, if_true, if_false]
      · simp only [Fr.get_putT, Nat.reduceLT, Nat.reduceEqDiff, if_true, if_false]
      · simp only [Fr.get_putT, Nat.reduceLT, Nat.reduceEqDiff, if_true, if_false, a1]
      · simp only [Fr.nt_putT, n1]
      · simp only [Fr.df_putT, d1]
    obtain ⟨f2, q1, b0, b1, n2, d2⟩ := s1
    have s2 : ∃ f3, seqP Tryz.prog (fun _ _ => none) ((r2.toList.map strip).map (·.1)) (r2.toList.map strip) f2 H = some (f3, H) ∧ f3.get 9 = .bool (iLt (remI a b) 0) ∧ f3.get 0 = iv (remI a b) ∧ f3.get 1 = iv b ∧ f3.nt = 14 ∧ f3.df = [] := by
      rw [e2]
      simp only [List.map_cons, List.map_nil]
      refine ⟨_, pval rfl rfl (v := iv (remI a b)) (H1 := H) ?_ (by simp only [Fr.nt_putT, n2]; decide) (pval rfl rfl (v := .bool (iLt (remI a b) 0)) (H1 := H) ?_ (by simp only [Fr.nt_putT, n2]; decide) pnil), ?_, ?_, ?_, ?_, ?_⟩
      · simp only [opA, aev, vA, Fr.get_putT, Nat.reduceLT, Nat.reduceEqDiff, if_true, if_false, b0]
      · simp only [opA, aev, convZ, conv, vA, opBin, Fr.get_putT, Nat.reduceLT, Nat.reduceEqDiff, if_true, if_false, bin_lss64]
      · simp only [Fr.get_putT, Nat.reduceLT, Nat.reduceEqDiff, if_true, if_false]
      · simp only [Fr.get_putT, Nat.reduceLT, Nat.reduceEqDiff, if_true, if_false, b0]
      · simp only [Fr.get_putT, Nat.reduceLT, Nat.reduceEqDiff, if_true, if_false, b1]
      · simp only [Fr.nt_putT, n2]
      · simp only [Fr.df_putT, d2]
    obtain ⟨f3, q2, c9, c0, c1, n3, d3⟩ := s2
    have s3 : ∃ f4, CodeS Tryz.prog (.cond (.tmp 9) (.region 3 r3 false) .skip) f3 H .normal f4 H ∧ f4.get 0 = iv (pickI a b) ∧ f4.nt = 14 ∧ f4.df = [] := by
      cases hlt : iLt (remI a b) 0 with
      | true =>
        have s : ∃ f4, seqP Tryz.prog (fun _ _ => none) ((r3.toList.map strip).map (·.1)) (r3.toList.map strip) f3 H = some (f4, H) ∧ f4.get 0 = iv (pickI a b) ∧ f4.nt = 14 ∧ f4.df = [] := by
          rw [e3]
          simp only [List.map_cons, List.map_nil]
          refine ⟨_, pval rfl rfl (v := iv (remI a b)) (H1 := H) ?_ (by simp only [Fr.nt_putT, n3]; decide) (pval rfl rfl (v := iv b) (H1 := H) ?_ (by simp only [Fr.nt_putT, n3]; decide) (pval rfl rfl (v := iv (addI (remI a b) b)) (H1 := H) ?_ (by simp only [Fr.nt_putT, n3]; decide) (pval rfl rfl (v := iv (addI (remI a b) b)) (H1 := H) ?_ (by simp only [Fr.nt_putT, n3]; decide) pnil))), ?_, ?_, ?_⟩
          · simp only [opA, aev, vA, Fr.get_putT, Nat.reduceLT, Nat.reduceEqDiff, if_true, if_false, c0]
          · simp only [opA, aev, vA, Fr.get_putT, Nat.reduceLT, Nat.reduceEqDiff, if_true, if_false, c1]
          · simp only [opA, aev, vA, opBin, Fr.get_putT, Nat.reduceLT, Nat.reduceEqDiff, if_true, if_false, bin_add64]
          · simp only [opA, aev, vA, Fr.get_putT, Nat.reduceLT, Nat.reduceEqDiff, if_true, if_false]
          · simp only [Fr.get_putT, Nat.reduceLT, Nat.reduceEqDiff, if_true, if_false, pickI, hlt]
          · simp only [Fr.nt_putT, n3]
          · simp only [Fr.df_putT, d3]
        obtain ⟨f4, q3, g0, n4, d4⟩ := s
        exact ⟨f4, codeS_true (by show some (f3.get 9) = _; rw [c9, hlt]) (seqP_region pure_none rfl (by rw [e3]; simp [isDefer]) q3), g0, n4, d4⟩
      | false =>
        exact ⟨f3, codeS_false (by show some (f3.get 9) = _; rw [c9, hlt]) codeS_skip, by rw [c0]; simp only [pickI, hlt], n3, d3⟩
    obtain ⟨f4, q3, g0, n4, d4⟩ := s3
    have s4 : ∃ f5, seqP Tryz.prog (fun _ _ => none) ((r4.toList.map strip).map (·.1)) (r4.toList.map strip) f4 H = some (f5, H) ∧ f5.get 4 = iv (pickI a b) ∧ f5.df = [] := by
      rw [e4]
      simp only [List.map_cons, List.map_nil]
      refine ⟨_, pval rfl rfl (v := iv (pickI a b)) (H1 := H) ?_ (by simp only [Fr.nt_putT, n4]; decide) (pval rfl rfl (v := iv (pickI a b)) (H1 := H) ?_ (by simp only [Fr.nt_putT, n4]; decide) pnil), ?_, ?_⟩
      · simp only [opA, aev, vA, Fr.get_putT, Nat.reduceLT, Nat.reduceEqDiff, if_true, if_false, g0]
      · simp only [opA, aev, vA, Fr.get_putT, Nat.reduceLT, Nat.reduceEqDiff, if_true, if_false]
      · simp only [Fr.get_putT, Nat.reduceLT, Nat.reduceEqDiff, if_true, if_false]
      · simp only [Fr.df_putT, d4]
    obtain ⟨f5, q4, r4', d5⟩ := s4
    refine ⟨.ret, f5, [iv (pickI a b)], .inr rfl, codeS_seq (seqP_region pure_none rfl (by rw [e0]; simp [isDefer]) q0) (codeS_seq (seqP_region pure_none rfl (by rw [e1]; simp [isDefer]) q1) (codeS_seq (codeS_seq (seqP_region pure_none rfl (by rw [e2]; simp [isDefer]) q2) q3) (codeS_seq (seqP_region pure_none rfl (by rw [e4]; simp [isDefer]) q4) codeS_ret))), d5, ?_, rfl⟩
    rw [hr]
    simp [resA, res1, consO, r4']
  · cases h
end Go.Proofs.YtginbifeinpciaaGreat
