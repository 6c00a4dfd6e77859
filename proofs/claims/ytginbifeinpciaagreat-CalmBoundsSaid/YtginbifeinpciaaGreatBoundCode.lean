/- CalmBounds: its code gives true, of any numbers. -/
import Derived.Test.YtginbifeinpciaaGreatLast
namespace Go.Proofs.YtginbifeinpciaaGreat
open Go Go.Ev
set_option maxHeartbeats 1000000 in
theorem bounds_code (c : Cfg) (r : Raw) (how : Int) : ∃ H', CallS Tryz.prog 5 [.agg c.l, .agg r.l, iv how] AH.empty (.bool true) H' := by
  obtain ⟨hn, hr, r0, r1, r2, r3, r4, r5, r6, hb, e0, e1, e2, e3, e4, e5, g6, e6⟩ := Sh.sh5
  obtain ⟨f, hdf, _, hnt, hget, hfn⟩ := fn_frame (args := [.agg c.l, .agg r.l, iv how]) plain Tryz.func5 hb (by rw [hn]; omega) (by rw [hn]; simp)
  have hnt : f.nt = 32 := hnt.trans hn
  have a0 : f.get 0 = .agg c.l := hget 0
  have a1 : f.get 1 = .agg r.l := hget 1
  have a2 : f.get 2 = iv how := hget 2
  obtain ⟨H, hH, hnx⟩ : ∃ H : AH, H = AH.empty ∧ H.nx + 40 < mH := ⟨_, rfl, by decide⟩
  rw [← hH]
  -- the two variables
  have s0 : ∃ f1 H1, seqP Tryz.prog (fun _ _ => none) ((r0.toList.map strip).map (·.1)) (r0.toList.map strip) f H = some (f1, H1) ∧ BSt H.nx c.l r.l f1 H1 ∧ f1.get 2 = iv how ∧ H1.nx = H.nx + 2 := by
    rw [e0]
    have hb1 : opA Tryz.prog f H (.box 24 (.tmp 0)) = some (.val (.ptr H.nx 0) (H.grown (.cells false 0 c.l))) := by
      show newVarA H (some (f.get 0)) = _
      rw [a0]
      show newA H (.cells false 0 c.l) (fun b => .ptr b 0) = _
      unfold newA
      rw [room_of (by omega)]
    have hb2 : opA Tryz.prog (f.putT 3 (.ptr H.nx 0)) (H.grown (.cells false 0 c.l)) (.box 27 (.tmp 1)) = some (.val (.ptr (H.nx + 1) 0) ((H.grown (.cells false 0 c.l)).grown (.cells false 0 r.l))) := by
      show newVarA (H.grown (.cells false 0 c.l)) (some (Fr.get _ 1)) = _
      rw [get_other (by omega) (by omega), a1]
      show newA (H.grown (.cells false 0 c.l)) (.cells false 0 r.l) (fun b => .ptr b 0) = _
      unfold newA
      rw [room_of (by rw [AH.nx_grown]; omega)]
      rfl
    refine ⟨_, _, pval rfl rfl hb1 (by omega) (pval rfl rfl hb2 (by rw [Fr.nt_putT]; omega) (pval (v := .bool false) rfl rfl rfl (by rw [Fr.nt_putT, Fr.nt_putT]; omega) pnil)), ⟨?_, ?_, hnt, hdf, ?_, ?_, ?_, ?_, by omega⟩, ?_, rfl⟩
    · rw [get_other (by omega) (by omega), get_other (by omega) (by omega), get_same (by omega)]
    · rw [get_other (by omega) (by omega), get_same (by omega)]
    · rw [AH.get_grown _ _ _ (by rw [AH.nx_grown]; omega) (by omega), if_neg (by rw [AH.nx_grown]; omega), AH.get_grown _ _ _ (by omega) (by omega), if_pos rfl]
    · rw [AH.get_grown _ _ _ (by rw [AH.nx_grown]; omega) (by omega), if_pos (by rw [AH.nx_grown])]
    · show H.nx + 1 < H.nx + 1 + 1; omega
    · show H.nx + 1 + 1 < H.nx + 10; omega
    · rw [get_other (by omega) (by omega), get_other (by omega) (by omega), get_other (by omega) (by omega), a2]
  obtain ⟨f1, H1, q0, k1, m2, x1⟩ := s0
  have s1 : ∃ f2, seqP Tryz.prog (fun _ _ => none) ((r1.toList.map strip).map (·.1)) (r1.toList.map strip) f1 H1 = some (f2, H1) ∧ BSt H.nx c.l r.l f2 H1 ∧ f2.get 8 = iv (remI how 3) := by
    rw [e1]
    have k2 := k1.frame (t := 7) (iv how) (by omega) (by omega)
    have k3 := k2.frame (t := 8) (iv (remI how 3)) (by omega) (by omega)
    exact ⟨_, pval rfl rfl (mv m2) (k1.nt_lt (by omega)) (pval rfl rfl (remK (n := how) (get_same (by omega)) (by decide)) (k2.nt_lt (by omega)) pnil), k3, get_same (by omega)⟩
  obtain ⟨f2, q1, k2, m8⟩ := s1
  have s2 : ∃ f3, seqP Tryz.prog (fun _ _ => none) ((r2.toList.map strip).map (·.1)) (r2.toList.map strip) f2 H1 = some (f3, H1) ∧ BSt H.nx c.l r.l f3 H1 ∧ f3.get 8 = iv (remI how 3) ∧ f3.get 9 = .bool (iEq (remI how 3) 0) := by
    rw [e2]
    have k3 := k2.frame (t := 10) (.bool (iEq (remI how 3) 0)) (by omega) (by omega)
    have k4 := k3.frame (t := 9) (.bool (iEq (remI how 3) 0)) (by omega) (by omega)
    refine ⟨_, pval rfl rfl (eqlK m8) (k2.nt_lt (by omega)) (pval rfl rfl (asg (get_same (by omega))) (k3.nt_lt (by omega)) pnil), k4, ?_, get_same (by omega)⟩
    rw [get_other (by omega) (by omega), get_other (by omega) (by omega), m8]
  obtain ⟨f3, q2, k3, m8', m9⟩ := s2
  have p0 := seqP_region (id := 0) pure_none rfl (by rw [e0]; simp [isDefer]) q0
  have p1 := seqP_region (id := 1) pure_none rfl (by rw [e1]; simp [isDefer]) q1
  have p2 := seqP_region (id := 2) pure_none rfl (by rw [e2]; simp [isDefer]) q2
  have s3 : ∃ f4 H4 c', CodeS Tryz.prog (.cond (.tmp 9) (.region 3 r3 false) (.seq (.region 4 r4 false) (.cond (.tmp 13) (.region 5 r5 false) .skip))) f3 H1 .normal f4 H4 ∧ BSt H.nx (Cfg.l c') r.l f4 H4 := by
    cases h0 : iEq (remI how 3) 0 with
    | true =>
      rw [h0] at m9
      obtain ⟨f4, H4, q3, k4⟩ := made (g := 16) (id := 3) (q := configC r) (d := 3) 11 e3 rfl (by omega) (by omega) (by omega) rfl x1 k3
      exact ⟨f4, H4, _, codeS_true (aev_tmp m9) q3, k4⟩
    | false =>
      rw [h0] at m9
      have s4 : ∃ f4, seqP Tryz.prog (fun _ _ => none) ((r4.toList.map strip).map (·.1)) (r4.toList.map strip) f3 H1 = some (f4, H1) ∧ BSt H.nx c.l r.l f4 H1 ∧ f4.get 13 = .bool (iEq (remI how 3) 1) := by
        rw [e4]
        have k4 := k3.frame (t := 14) (.bool (iEq (remI how 3) 1)) (by omega) (by omega)
        have k5 := k4.frame (t := 13) (.bool (iEq (remI how 3) 1)) (by omega) (by omega)
        exact ⟨_, pval rfl rfl (eqlK m8') (k3.nt_lt (by omega)) (pval rfl rfl (asg (get_same (by omega))) (k4.nt_lt (by omega)) pnil), k5, get_same (by omega)⟩
      obtain ⟨f4, q4, k4, m13⟩ := s4
      have p4 := seqP_region (id := 4) pure_none rfl (by rw [e4]; simp [isDefer]) q4
      cases h1 : iEq (remI how 3) 1 with
      | true =>
        rw [h1] at m13
        obtain ⟨f5, H5, q5, k5⟩ := made (g := 6) (id := 5) (q := quietR r) (d := 6) 15 e5 rfl (by omega) (by omega) (by omega) rfl x1 k4
        exact ⟨f5, H5, _, codeS_false (aev_tmp m9) (codeS_seq p4 (codeS_true (aev_tmp m13) q5)), k5⟩
      | false =>
        rw [h1] at m13
        exact ⟨f4, H1, c, codeS_false (aev_tmp m9) (codeS_seq p4 (codeS_false (aev_tmp m13) codeS_skip)), k4⟩
  obtain ⟨f4, H4, c', q3, k4⟩ := s3
  obtain ⟨f5, H5, q6, d5, m6⟩ := lastR (rid := 6) rfl g6 e6 k4
  refine ⟨H5, (hfn H H5 (.bool true) ⟨.ret, f5, [.bool true], .inr rfl, codeS_seq p0 (codeS_seq (codeS_seq p1 (codeS_block (codeS_seq p2 q3) (by intro h; cases h))) (codeS_seq q6 codeS_ret)), d5, ?_, rfl⟩).2⟩
  rw [hr]
  simp [resA, res1, consO, m6]
end Go.Proofs.YtginbifeinpciaaGreat
