/- bursarhand.Config and bursarhand.Quiet, of any raw numbers. -/
import Derived.Test.YtginbifeinpciaaGreatSteps
import Derived.Test.YtginbifeinpciaaGreatEvM
namespace Go.Proofs.YtginbifeinpciaaGreat
open Go Go.Ev
structure Raw where
  c0 : Int
  c1 : Int
  c2 : Int
  c3 : Int
  c4 : Int
  c5 : Int
  c6 : Int
  c7 : Int
  c8 : Int
  c9 : Int
  c10 : Int
  c11 : Int
  c12 : Int
def Raw.l (c : Raw) : List AV := [iv c.c0, iv c.c1, iv c.c2, iv c.c3, iv c.c4, iv c.c5, iv c.c6, iv c.c7, iv c.c8, iv c.c9, iv c.c10, iv c.c11, iv c.c12]
def configC (r : Raw) : Cfg where
  c0 := addI 1 (pickI r.c0 5)
  c1 := mulI 2 (addI 1 (pickI r.c1 (subI (shlU (wr .u64 (addI 1 (pickI r.c0 5)))) 1)))
  c2 := addI 4 (pickI r.c2 8)
  c3 := addI (addI 4 (pickI r.c2 8)) (pickI r.c3 30)
  c4 := addI 1 (pickI r.c4 2)
  c5 := addI 6 (pickI r.c5 60)
  c6 := addI 64 (pickI r.c6 600)
  c7 := match iEq (remI r.c7 4) 3 with
    | true => pickI r.c7 3000
    | false => 1048576
  c8 := addI 8 (pickI r.c8 80)
  c9 := addI 1 (pickI r.c9 8)
  c10 := addI 1 (pickI r.c10 8)
  c11 := addI 1 (pickI r.c11 4)
  c12 := wr .u64 (addI 1 (pickI r.c12 60))
theorem config_code {r : Raw} {H : AH} (hroom : H.nx + 3 < mH) : CallS Tryz.prog 16 [.agg r.l] H (.agg (configC r).l) ⟨H.bl, H.nx + 3⟩ := by
  obtain ⟨hn, hr, r0, r1, r2, r3, r4, r5, r6, r7, r8, r9, r10, r11, r12, r13, r14, r15, hb, e0, g1, b1, s1, e1, e2, g3, b3, e3, e4, e5, e6, e7, e8, e9, e10, e11, e12, e13, e14, e15⟩ := Sh.sh16
  obtain ⟨f, hdf, _, hnt, hget, hfn⟩ := fn_frame (args := [.agg r.l]) plain Tryz.func16 hb (by rw [hn]; omega) (by rw [hn]; simp)
  have hnt : f.nt = 82 := hnt.trans hn
  obtain ⟨f0, H0, q0, k0⟩ := boxed (id := 0) 82 (by omega) (by omega) e0 (hget 0) hnt hdf hroom
  obtain ⟨f1, H1, q1, k1⟩ := ka1 (id := 1) g1 b1 s1 e1 (by omega) (r0 := r.c0) (r2 := r.c2) rfl rfl k0
  obtain ⟨w1, w2⟩ := width_ok r.c0
  obtain ⟨f2, H2, q2, k2⟩ := seats (id := 2) e2 (by omega) (r := r.c1) (c0 := addI 1 (pickI r.c0 5)) rfl rfl (by simp) w1 w2 k1
  obtain ⟨f3, H3, q3, k3⟩ := ks3 (id := 3) g3 b3 e3 (by omega) (r := r.c3) (c2 := addI 4 (pickI r.c2 8)) rfl rfl (by simp) k2
  obtain ⟨f4, H4, q4, k4⟩ := fill (id := 4) (i := 4) (j := 4) (k := 1) (K := 2) (r := r.c4) 31 e4 (by decide) (by omega) (by omega) (by omega) (by omega) (by omega) (by simp) rfl k3
  obtain ⟨f5, H5, q5, k5⟩ := fill (id := 5) (i := 5) (j := 5) (k := 6) (K := 60) (r := r.c5) 36 e5 (by decide) (by omega) (by omega) (by omega) (by omega) (by omega) (by simp) rfl k4
  obtain ⟨f6, H6, q6, k6⟩ := fill (id := 6) (i := 6) (j := 6) (k := 64) (K := 600) (r := r.c6) 41 e6 (by decide) (by omega) (by omega) (by omega) (by omega) (by omega) (by simp) rfl k5
  obtain ⟨f7, H7, q7, k7⟩ := fillK (id := 7) (i := 7) (k := 1048576) 46 e7 (by omega) (by omega) (by omega) (by omega) (by simp) k6
  obtain ⟨f8, H8, q8, k8⟩ := disk (id := 8) (id' := 9) e8 e9 (by omega) (r := r.c7) (k := 1048576) rfl (by simp) rfl k7
  obtain ⟨f9, H9, q9, k9⟩ := fill (id := 10) (i := 8) (j := 8) (k := 8) (K := 80) (r := r.c8) 55 e10 (by decide) (by omega) (by omega) (by omega) (by omega) (by omega) (by simp) rfl k8
  obtain ⟨f10, H10, q10, k10⟩ := fill (id := 11) (i := 9) (j := 9) (k := 1) (K := 8) (r := r.c9) 60 e11 (by decide) (by omega) (by omega) (by omega) (by omega) (by omega) (by simp) rfl k9
  obtain ⟨f11, H11, q11, k11⟩ := fill (id := 12) (i := 10) (j := 10) (k := 1) (K := 8) (r := r.c10) 65 e12 (by decide) (by omega) (by omega) (by omega) (by omega) (by omega) (by simp) rfl k10
  obtain ⟨f12, H12, q12, k12⟩ := fill (id := 13) (i := 11) (j := 11) (k := 1) (K := 4) (r := r.c11) 70 e13 (by decide) (by omega) (by omega) (by omega) (by omega) (by omega) (by simp) rfl k11
  obtain ⟨f13, H13, q13, k13⟩ := seed (id := 14) e14 (by omega) (r := r.c12) rfl (by simp) k12
  obtain ⟨f14, H14, q14, nx, d14, old, hres⟩ := leave (id := 15) 81 e15 (by omega) (by omega) (by omega) (by simp) rfl rfl k13
  refine ((hfn H H14 (.agg (configC r).l) ⟨.ret, f14, [.agg (configC r).l], .inr rfl, codeS_seq q0 (codeS_seq q1 (codeS_seq q2 (codeS_seq q3 (codeS_seq q4 (codeS_seq q5 (codeS_seq q6 (codeS_seq q7 (codeS_seq q8 (codeS_seq q9 (codeS_seq q10 (codeS_seq q11 (codeS_seq q12 (codeS_seq q13 (codeS_seq q14 codeS_ret)))))))))))))), d14, ?_, rfl⟩).2).keep nx fun b x h1 _ h3 => old b x h1 h3
  rw [hr]
  exact hres
def cfgT : List AV → Option (AV × Nat)
  | [.agg [.int .i64 a0, .int .i64 a1, .int .i64 a2, .int .i64 a3, .int .i64 a4, .int .i64 a5, .int .i64 a6, .int .i64 a7, .int .i64 a8, .int .i64 a9, .int .i64 a10, .int .i64 a11, .int .i64 a12]] => some (.agg (configC ⟨a0, a1, a2, a3, a4, a5, a6, a7, a8, a9, a10, a11, a12⟩).l, 3)
  | _ => none
theorem cfgT_ok (args : List AV) (v : AV) (d : Nat) (h : cfgT args = some (v, d)) (H : AH) (hroom : H.nx + d < mH) : CallS Tryz.prog 16 args H v ⟨H.bl, H.nx + d⟩ := by
  unfold cfgT at h
  split at h
  · injection h with h
    injection h with h1 h2
    subst h1; subst h2
    exact config_code (r := ⟨_, _, _, _, _, _, _, _, _, _, _, _, _⟩) hroom
  · cases h
def tblCfg : FuncId → List AV → Option (AV × Nat) := tadd 16 cfgT fun _ _ => none
theorem tblCfg_ok : PureOk Tryz.prog tblCfg := pure_add cfgT_ok pure_none
theorem tblCfg_eq (r : Raw) : tblCfg 16 [.agg r.l] = some (.agg (configC r).l, 3) := rfl
def quietR (r : Raw) : Cfg where
  c0 := (configC r).c0
  c1 := (configC r).c1
  c2 := addI 8 (pickI r.c2 5)
  c3 := addI (addI (addI 8 (pickI r.c2 5)) 24) (pickI r.c3 10)
  c4 := (configC r).c4
  c5 := addI 64 (pickI r.c5 100)
  c6 := addI 512 (pickI r.c6 600)
  c7 := 1048576
  c8 := addI 64 (pickI r.c8 60)
  c9 := (configC r).c9
  c10 := (configC r).c10
  c11 := (configC r).c11
  c12 := (configC r).c12
/-- The config that Config makes, in a variable. -/
theorem begun {H0 H : AH} {nr N nt : Nat} {r : Raw} {Z : List AV} {f : Fr} {id : Nat} {ops : Array Oper} (hl : ops.toList.map strip = [(some 4, .load 27 (.tmp 1), none), (some 5, .call ⟨.value (.func 16), #[(.tmp 4)], #[27]⟩, none), (some 3, .alloc 24, none), (none, .store 24 (.tmp 3) (.tmp 5), none)])
    (hnt : 10 ≤ nt) (hroom : N + 4 < mH) (c : CS0 H0 nr N nt r.l Z f H) :
    ∃ f1 H1, CodeS Tryz.prog (.region id ops false) f H .normal f1 H1 ∧ CSt H0 nr (N + 3) (N + 4) nt r.l Z (configC r).l f1 H1 := by
  have hld : opA Tryz.prog f H (.load 27 (.tmp 1)) = some (.val (.agg r.l) H) := by
    show opLoad Tryz.prog H 27 (some (f.get 1)) = _
    rw [c.g1]
    show vA H (loadVarA Tryz.prog H 27 nr 0) = _
    unfold loadVarA
    simp only [agg27, siz27]
    rw [show (some 13 : Option Nat) = some r.l.length from rfl, loadAgg_cells c.raw]
    rfl
  have c1 := c.frame (t := 4) (.agg r.l) (by omega) (by omega)
  have c2 := c1.frame (t := 5) (.agg (configC r).l) (by omega) (by omega)
  have hnx := c.nx
  have c3 : CS0 H0 nr (N + 3) nt r.l Z ((f.putT 4 (.agg r.l)).putT 5 (.agg (configC r).l)) ⟨H.bl, H.nx + 3⟩ :=
    ⟨by rw [← hnx], c2.g1, c2.g2, c2.nt, c2.df, c2.raw, c2.ret, c2.old, by have := c.lt; omega, hroom⟩
  have c4 := c3.made
  have hcall : opA Tryz.prog (f.putT 4 (.agg r.l)) H (.call ⟨.value (.func 16), #[(.tmp 4)], #[27]⟩) = some (.enter 16 [.agg r.l]) := by
    simp only [opA, aev, aevs, get_same (show 4 < 256 by omega), consO, opCall, opCallee]
    rfl
  have hs : ∃ F G, seqP Tryz.prog tblCfg ((ops.toList.map strip).map (·.1)) (ops.toList.map strip) f H = some (F, G) ∧ CSt H0 nr (N + 3) (N + 4) nt r.l Z (configC r).l F G := by
    rw [hl]
    refine ⟨_, _, ?_, c4.putAll _⟩
    refine pval rfl rfl hld (c.nt_lt (by omega)) ?_
    refine pcall rfl rfl hcall (tblCfg_eq r) (by omega) (c1.nt_lt (by omega)) ?_
    refine pval rfl rfl c3.alloc (c3.nt_lt (by omega)) ?_
    refine pstore (c4.storeAll rfl rfl rfl (aev_tmp ?_)) pnil
    rw [get_other (by omega) (by omega), get_same (by omega)]
  obtain ⟨F, G, hs, cF⟩ := hs
  exact ⟨F, G, seqP_region tblCfg_ok rfl (by rw [hl]; simp [isDefer]) hs, cF⟩
theorem quiet_code {r : Raw} {H : AH} (hroom : H.nx + 6 < mH) : CallS Tryz.prog 6 [.agg r.l] H (.agg (quietR r).l) ⟨H.bl, H.nx + 6⟩ := by
  obtain ⟨hn, hr, r0, r1, r2, r3, r4, r5, r6, r7, r8, hb, e0, e1, e2, g3, b3, e3, e4, e5, e6, e7, e8⟩ := Sh.sh6
  obtain ⟨f, hdf, _, hnt, hget, hfn⟩ := fn_frame (args := [.agg r.l]) plain Tryz.func6 hb (by rw [hn]; omega) (by rw [hn]; simp)
  have hnt : f.nt = 36 := hnt.trans hn
  obtain ⟨f0, H0, q0, k0⟩ := boxed (H := H) (id := 0) 36 (by omega) (by omega) e0 (hget 0) hnt hdf (by omega)
  obtain ⟨f1, H1, q1, k1⟩ := begun (N := H.nx + 2) (id := 1) e1 (by omega) (by omega) k0
  obtain ⟨f2, H2, q2, k2⟩ := fill (id := 2) (i := 2) (j := 2) (k := 8) (K := 5) (r := r.c2) 6 e2 (by decide) (by omega) (by omega) (by omega) (by omega) (by omega) (by simp [Cfg.l]) rfl k1
  obtain ⟨f3, H3, q3, k3⟩ := qs3 (id := 3) g3 b3 e3 (by omega) (r := r.c3) (c2 := addI 8 (pickI r.c2 5)) rfl rfl (by simp [Cfg.l]) k2
  obtain ⟨f4, H4, q4, k4⟩ := fill (id := 4) (i := 8) (j := 8) (k := 64) (K := 60) (r := r.c8) 19 e4 (by decide) (by omega) (by omega) (by omega) (by omega) (by omega) (by simp [Cfg.l]) rfl k3
  obtain ⟨f5, H5, q5, k5⟩ := fillK (id := 5) (i := 7) (k := 1048576) 24 e5 (by omega) (by omega) (by omega) (by omega) (by simp [Cfg.l]) k4
  obtain ⟨f6, H6, q6, k6⟩ := fill (id := 6) (i := 6) (j := 6) (k := 512) (K := 600) (r := r.c6) 25 e6 (by decide) (by omega) (by omega) (by omega) (by omega) (by omega) (by simp [Cfg.l]) rfl k5
  obtain ⟨f7, H7, q7, k7⟩ := fill (id := 7) (i := 5) (j := 5) (k := 64) (K := 100) (r := r.c5) 30 e7 (by decide) (by omega) (by omega) (by omega) (by omega) (by omega) (by simp [Cfg.l]) rfl k6
  obtain ⟨f8, H8, q8, nx, d8, old, hres⟩ := leave (id := 8) 35 e8 (by omega) (by omega) (by omega) (by simp [Cfg.l]) rfl rfl k7
  refine ((hfn H H8 (.agg (quietR r).l) ⟨.ret, f8, [.agg (quietR r).l], .inr rfl, codeS_seq q0 (codeS_seq q1 (codeS_seq q2 (codeS_seq q3 (codeS_seq q4 (codeS_seq q5 (codeS_seq q6 (codeS_seq q7 (codeS_seq q8 codeS_ret)))))))), d8, ?_, rfl⟩).2).keep nx fun b x h1 _ h3 => old b x h1 h3
  rw [hr]
  exact hres
end Go.Proofs.YtginbifeinpciaaGreat
