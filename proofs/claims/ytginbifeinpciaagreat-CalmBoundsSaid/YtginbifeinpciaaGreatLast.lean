/- CalmBounds: its code gives true, of any numbers. -/
import Derived.Test.YtginbifeinpciaaGreatConfigs
import Derived.Test.YtginbifeinpciaaGreatCmTop
namespace Go.Proofs.YtginbifeinpciaaGreat
open Go Go.Ev
def calmT : List AV → Option (AV × Nat)
  | [] => some (.bool true, 0)
  | _ => none
theorem calmT_ok (args : List AV) (v : AV) (d : Nat) (h : calmT args = some (v, d)) (H : AH) (_ : H.nx + d < mH) : CallS Tryz.prog 13 args H v ⟨H.bl, H.nx + d⟩ := by
  unfold calmT at h
  split at h
  · injection h with h
    injection h with h1 h2
    subst h1; subst h2
    obtain ⟨H1, h⟩ := Cmcall
    exact closed_call h H
  · cases h
def boundT : List AV → Option (AV × Nat)
  | [.agg [.int .i64 a0, .int .i64 a1, .int .i64 a2, .int .i64 a3, .int .i64 a4, .int .i64 a5, .int .i64 a6, .int .i64 a7, .int .i64 a8, .int .i64 a9, .int .i64 a10, .int .i64 a11, .int .u64 a12]] => some (iv (boundC ⟨a0, a1, a2, a3, a4, a5, a6, a7, a8, a9, a10, a11, a12⟩), 2)
  | _ => none
def quietT : List AV → Option (AV × Nat)
  | [.agg [.int .i64 a0, .int .i64 a1, .int .i64 a2, .int .i64 a3, .int .i64 a4, .int .i64 a5, .int .i64 a6, .int .i64 a7, .int .i64 a8, .int .i64 a9, .int .i64 a10, .int .i64 a11, .int .u64 a12]] => some (.bool (quietC ⟨a0, a1, a2, a3, a4, a5, a6, a7, a8, a9, a10, a11, a12⟩), 2)
  | _ => none
theorem boundT_ok {g : FuncId} (hg : ∀ (c : Cfg) (H : AH), H.nx + 2 < mH → CallS Tryz.prog g [.agg c.l] H (iv (boundC c)) ⟨H.bl, H.nx + 2⟩) (args : List AV) (v : AV) (d : Nat) (h : boundT args = some (v, d)) (H : AH) (hroom : H.nx + d < mH) : CallS Tryz.prog g args H v ⟨H.bl, H.nx + d⟩ := by
  unfold boundT at h
  split at h
  · injection h with h
    injection h with h1 h2
    subst h1; subst h2
    exact hg ⟨_, _, _, _, _, _, _, _, _, _, _, _, _⟩ H hroom
  · cases h
theorem quietT_ok {g : FuncId} (hg : ∀ (c : Cfg) (H : AH), H.nx + 2 < mH → CallS Tryz.prog g [.agg c.l] H (.bool (quietC c)) ⟨H.bl, H.nx + 2⟩) (args : List AV) (v : AV) (d : Nat) (h : quietT args = some (v, d)) (H : AH) (hroom : H.nx + d < mH) : CallS Tryz.prog g args H v ⟨H.bl, H.nx + d⟩ := by
  unfold quietT at h
  split at h
  · injection h with h
    injection h with h1 h2
    subst h1; subst h2
    exact hg ⟨_, _, _, _, _, _, _, _, _, _, _, _, _⟩ H hroom
  · cases h
def tblB : FuncId → List AV → Option (AV × Nat) := tadd 13 calmT (tadd 14 boundT (tadd 17 boundT (tadd 15 quietT (tadd 18 quietT fun _ _ => none))))
theorem tblB_ok : PureOk Tryz.prog tblB := pure_add calmT_ok (pure_add (boundT_ok fun _ _ h => bound_code14 h) (pure_add (boundT_ok fun _ _ h => bound_code17 h) (pure_add (quietT_ok fun _ _ h => quiet_code15 h) (pure_add (quietT_ok fun _ _ h => quiet_code18 h) pure_none))))
def qtT : List AV → Option (AV × Nat)
  | [.agg [.int .i64 a0, .int .i64 a1, .int .i64 a2, .int .i64 a3, .int .i64 a4, .int .i64 a5, .int .i64 a6, .int .i64 a7, .int .i64 a8, .int .i64 a9, .int .i64 a10, .int .i64 a11, .int .i64 a12]] => some (.agg (quietR ⟨a0, a1, a2, a3, a4, a5, a6, a7, a8, a9, a10, a11, a12⟩).l, 6)
  | _ => none
theorem qtT_ok (args : List AV) (v : AV) (d : Nat) (h : qtT args = some (v, d)) (H : AH) (hroom : H.nx + d < mH) : CallS Tryz.prog 6 args H v ⟨H.bl, H.nx + d⟩ := by
  unfold qtT at h
  split at h
  · injection h with h
    injection h with h1 h2
    subst h1; subst h2
    exact quiet_code (r := ⟨_, _, _, _, _, _, _, _, _, _, _, _, _⟩) hroom
  · cases h
def tblQ : FuncId → List AV → Option (AV × Nat) := tadd 16 cfgT (tadd 6 qtT fun _ _ => none)
theorem tblQ_ok : PureOk Tryz.prog tblQ := pure_add cfgT_ok (pure_add qtT_ok pure_none)
theorem abeq_cfg (c : Cfg) : abeq (.agg c.l) (.agg c.l) = true := by
  have h : ∀ (k : IntKind) (n : Int), sbeq (.int k n) (.int k n) = true := fun k n => by
    show and (kEq k k) (iEq n n) = true
    rw [iEq_self]
    cases k <;> rfl
  show lbeq c.l c.l = true
  simp only [Cfg.l, lbeq, h, Bool.and_self]
theorem eq_bool (b : Bool) : binA Tryz.prog .eql 4 (.bool b) (.bool b) = some (.bool true) := by
  cases b <;> kernel_rfl
/-- Where the config and the raw numbers lie. -/
structure BSt (n : Nat) (C R : List AV) (f : Fr) (H : AH) : Prop where
  g3 : f.get 3 = .ptr n 0
  g4 : f.get 4 = .ptr (n + 1) 0
  nt : f.nt = 32
  df : f.df = []
  cel : H.get n = some (.cells false 0 C)
  raw : H.get (n + 1) = some (.cells false 0 R)
  lt : n + 1 < H.nx
  room : H.nx < n + 10
  roomH : n + 30 < mH
section
variable {n : Nat} {C R : List AV} {f : Fr} {H : AH} {t : Nat}
theorem BSt.frame (c : BSt n C R f H) {t : Nat} (v : AV) (h4 : 5 ≤ t) (ht : t < 256) : BSt n C R (f.putT t v) H := by
  refine ⟨?_, ?_, c.nt, c.df, c.cel, c.raw, c.lt, c.room, c.roomH⟩
  · rw [Fr.get_putT _ _ _ _ ht, if_neg (by omega)]; exact c.g3
  · rw [Fr.get_putT _ _ _ _ ht, if_neg (by omega)]; exact c.g4
theorem BSt.load24 (c : BSt n C R f H) (hC : C.length = 13) {m : Nat} : opA Tryz.prog f ⟨H.bl, m⟩ (.load 24 (.tmp 3)) = some (.val (.agg C) ⟨H.bl, m⟩) := by
  show opLoad Tryz.prog ⟨H.bl, m⟩ 24 (some (f.get 3)) = _
  rw [c.g3]
  show vA ⟨H.bl, m⟩ (loadVarA Tryz.prog ⟨H.bl, m⟩ 24 n 0) = _
  unfold loadVarA
  simp only [agg24, siz24]
  have : (⟨H.bl, m⟩ : AH).get n = some (.cells false 0 C) := c.cel
  rw [show (some 13 : Option Nat) = some C.length by rw [hC], loadAgg_cells this]
  rfl
theorem BSt.load27 (c : BSt n C R f H) (hR : R.length = 13) : opA Tryz.prog f H (.load 27 (.tmp 4)) = some (.val (.agg R) H) := by
  show opLoad Tryz.prog H 27 (some (f.get 4)) = _
  rw [c.g4]
  show vA H (loadVarA Tryz.prog H 27 (n + 1) 0) = _
  unfold loadVarA
  simp only [agg27, siz27]
  rw [show (some 13 : Option Nat) = some R.length by rw [hR], loadAgg_cells c.raw]
  rfl
theorem BSt.nt_lt (c : BSt n C R f H) {t : Nat} (h : t < 32) : t < f.nt := by rw [c.nt]; exact h
/-- A config is made and stored. -/
theorem made {g : FuncId} {id : Nat} {ops : Array Oper} {r : Raw} {q : Cfg} {d : Nat} (t : Nat) (hl : ops.toList.map strip = [(some t, .load 27 (.tmp 4), none), (some (t + 1), .call ⟨.value (.func g), #[(.tmp t)], #[27]⟩, none), (none, .store 24 (.tmp 3) (.tmp (t + 1)), none)])
    (hq : tblQ g [.agg r.l] = some (.agg q.l, d)) (hd : d ≤ 6) (ht : 5 ≤ t) (ht' : t + 1 < 32) (hC : C.length = 13) (hnx : H.nx = n + 2) (c : BSt n C r.l f H) :
    ∃ f1 H1, CodeS Tryz.prog (.region id ops false) f H .normal f1 H1 ∧ BSt n q.l r.l f1 H1 := by
  have c1 := c.frame (t := t) (.agg r.l) ht (by omega)
  have c2 := c1.frame (t := t + 1) (.agg q.l) (by omega) (by omega)
  have hroom := c.roomH
  have c3 : BSt n q.l r.l ((f.putT t (.agg r.l)).putT (t + 1) (.agg q.l)) ((⟨H.bl, H.nx + d⟩ : AH).put n (.cells false 0 q.l)) := by
    refine ⟨c2.g3, c2.g4, c2.nt, c2.df, ?_, ?_, by show n + 1 < H.nx + d; omega, by show H.nx + d < n + 10; omega, hroom⟩
    · rw [AH.get_put _ _ _ _ (by omega) (by omega), if_pos rfl]
    · rw [AH.get_put _ _ _ _ (by omega) (by omega), if_neg (by omega)]; exact c.raw
  have hcall : opA Tryz.prog (f.putT t (.agg r.l)) H (.call ⟨.value (.func g), #[(.tmp t)], #[27]⟩) = some (.enter g [.agg r.l]) := by
    simp only [opA, aev, aevs, get_same (show t < 256 by omega), consO, opCall, opCallee]
    rfl
  have hst : opA Tryz.prog ((f.putT t (.agg r.l)).putT (t + 1) (.agg q.l)) ⟨H.bl, H.nx + d⟩ (.store 24 (.tmp 3) (.tmp (t + 1))) = some (.val Ev.und ((⟨H.bl, H.nx + d⟩ : AH).put n (.cells false 0 q.l))) := by
    show opStore Tryz.prog ⟨H.bl, H.nx + d⟩ 24 (some (Fr.get _ (t + 1))) (some (Fr.get _ 3)) = _
    rw [c2.g3, get_same (by omega)]
    show storeN ⟨H.bl, H.nx + d⟩ n 0 q.l (sizeT Tryz.prog 24) = _
    rw [siz24]
    show hA Ev.und (storeA ⟨H.bl, H.nx + d⟩ n 0 q.l) = _
    have hcel : (⟨H.bl, H.nx + d⟩ : AH).get n = some (.cells false 0 C) := c.cel
    rw [store_all hcel (by rw [hC]; rfl) rfl (by show 0 < 13; omega)]
    rfl
  have hs : ∃ F G, seqP Tryz.prog tblQ ((ops.toList.map strip).map (·.1)) (ops.toList.map strip) f H = some (F, G) ∧ BSt n q.l r.l F G := by
    rw [hl]
    exact ⟨_, _, pval rfl rfl (c.load27 rfl) (c.nt_lt (by omega)) (pcall rfl rfl hcall hq (by omega) (c1.nt_lt (by omega)) (pstore hst pnil)), c3⟩
  obtain ⟨F, G, hs, cF⟩ := hs
  exact ⟨F, G, seqP_region tblQ_ok rfl (by rw [hl]; simp [isDefer]) hs, cF⟩
theorem kcall0 {f : Fr} {H : AH} {t g : Nat} {ty : TypeId} {v : AV} (h : f.get t = v) : opA Tryz.prog f H (.call ⟨.value (.func g), #[.tmp t], #[ty]⟩) = some (.enter g [v]) := by
  simp only [opA, aev, aevs, h, consO, opCall, opCallee]
  rfl
theorem gd_true {ds : List (Option Tmp)} {f : Fr} {j d : Nat} (hd : (ds[j]?).bind id = some d) (h : f.get d = .bool true) : gdOk ds f (some (j, true)) = true := by
  unfold gdOk
  simp only [hd, h]
  rfl
theorem pick_true {f : Fr} {H : AH} {t t' : Nat} {v : AV} (h : f.get t = .bool true) (h' : f.get t' = v) : opA Tryz.prog f H (.pick (.tmp t) (.tmp t') (.const (.bool false))) = some (.val v H) := by
  simp only [opA, aev, opPick, h, h', vA]
theorem mv {f : Fr} {H : AH} {t : Nat} {v : AV} (h : f.get t = v) : opA Tryz.prog f H (.move (.tmp t)) = some (.val v H) := by
  simp only [opA, aev, h, vA]
theorem asg {f : Fr} {H : AH} {t : Nat} {v : AV} (h : f.get t = v) : opA Tryz.prog f H (.assign (.tmp t)) = some (.val v H) := by
  simp only [opA, aev, h, vA]
/-- The law's last word. -/
theorem lastR {n : Nat} {R : List AV} {f : Fr} {H : AH} {c : Cfg} {rid : Nat} {ops : Array Oper} {l : List S3} (hle : l = ((some 17, .call ⟨.value (.func 13), #[], #[]⟩, none) :: (some 18, .move (.tmp 17), none) :: (some 19, .load 24 (.tmp 3), some (1, true)) :: (some 20, .call ⟨.value (.func 14), #[(.tmp 19)], #[24]⟩, some (1, true)) :: (some 21, .load 24 (.tmp 3), some (1, true)) :: (some 22, .call ⟨.value (.func 17), #[(.tmp 21)], #[24]⟩, some (1, true)) :: (some 23, .binOp .eql 3 (.tmp 20) (.tmp 22) 3, some (1, true)) :: (some 24, .pick (.tmp 18) (.tmp 23) (.const (.bool false)), none) :: (some 25, .move (.tmp 24), none) :: (some 26, .load 24 (.tmp 3), some (8, true)) :: (some 27, .call ⟨.value (.func 15), #[(.tmp 26)], #[24]⟩, some (8, true)) :: (some 28, .load 24 (.tmp 3), some (8, true)) :: (some 29, .call ⟨.value (.func 18), #[(.tmp 28)], #[24]⟩, some (8, true)) :: (some 30, .binOp .eql 4 (.tmp 27) (.tmp 29) 4, some (8, true)) :: (some 31, .pick (.tmp 25) (.tmp 30) (.const (.bool false)), none) :: (some 6, .assign (.tmp 31), none) :: []))
    (hreg : regOk Tryz.prog ops = true) (hl : ops.toList.map strip = l) (b : BSt n c.l R f H) :
    ∃ f1 H1, CodeS Tryz.prog (.region rid ops true) f H .normal f1 H1 ∧ f1.df = [] ∧ f1.get 6 = .bool true := by
  have hroom := b.roomH
  have hr2 := b.room
  have b1 := b.frame (t := 17) (.bool true) (by omega) (by omega)
  have b2 := b1.frame (t := 18) (.bool true) (by omega) (by omega)
  have b3 := b2.frame (t := 19) (.agg c.l) (by omega) (by omega)
  have b4 := b3.frame (t := 20) (iv (boundC c)) (by omega) (by omega)
  have b5 := b4.frame (t := 21) (.agg c.l) (by omega) (by omega)
  have b6 := b5.frame (t := 22) (iv (boundC c)) (by omega) (by omega)
  have b7 := b6.frame (t := 23) (.bool true) (by omega) (by omega)
  have b8 := b7.frame (t := 24) (.bool true) (by omega) (by omega)
  have b9 := b8.frame (t := 25) (.bool true) (by omega) (by omega)
  have b10 := b9.frame (t := 26) (.agg c.l) (by omega) (by omega)
  have b11 := b10.frame (t := 27) (.bool (quietC c)) (by omega) (by omega)
  have b12 := b11.frame (t := 28) (.agg c.l) (by omega) (by omega)
  have b13 := b12.frame (t := 29) (.bool (quietC c)) (by omega) (by omega)
  have b14 := b13.frame (t := 30) (.bool true) (by omega) (by omega)
  have b15 := b14.frame (t := 31) (.bool true) (by omega) (by omega)
  have b16 := b15.frame (t := 6) (.bool true) (by omega) (by omega)
  have hab : ∀ m : Nat, kdPR (.agg c.l) (.load 24 (.tmp 3)) (kindOf Tryz.prog (.load 24 (.tmp 3))) = true := fun _ => by
    show and true (abeq (.agg c.l) (.agg c.l)) = true
    rw [abeq_cfg]
    rfl
  have hs : ∃ F, seqK Tryz.prog tblB (l.map (·.1)) l f H = some (F, ⟨H.bl, H.nx + 8⟩) ∧ F.df = [] ∧ F.get 6 = .bool true := by
    obtain ⟨ds, hds⟩ : ∃ ds, ds = l.map (·.1) := ⟨_, rfl⟩
    have d1 : (ds[1]?).bind id = some 18 := by rw [hds, hle]; rfl
    have d8 : (ds[8]?).bind id = some 25 := by rw [hds, hle]; rfl
    rw [← hds, hle]
    refine ⟨_, ?_, b16.df, get_same (by omega)⟩
    refine kcall rfl rfl (fn := 13) (args := []) (by simp only [opA, aevs, opCall, opCallee]; rfl) (show tblB 13 [] = some (.bool true, 0) from rfl) (by omega) (b.nt_lt (by omega)) ?_
    rw [nx_eta]
    refine kval rfl rfl (mv (get_same (by omega))) rfl (b1.nt_lt (by omega)) ?_
    refine kval rfl (gd_true d1 (get_same (by omega))) (b2.load24 rfl (m := H.nx)) (hab 0) (b2.nt_lt (by omega)) ?_
    refine kcall rfl (gd_true d1 (by simp only [Fr.get_putT, Nat.reduceLT, Nat.reduceEqDiff, if_true, if_false])) (kcall0 (get_same (by omega))) (show tblB 14 [.agg c.l] = some (iv (boundC c), 2) from rfl) (by omega) (b3.nt_lt (by omega)) ?_
    refine kval rfl (gd_true d1 (by simp only [Fr.get_putT, Nat.reduceLT, Nat.reduceEqDiff, if_true, if_false])) (b4.load24 rfl) (hab 0) (b4.nt_lt (by omega)) ?_
    refine kcall rfl (gd_true d1 (by simp only [Fr.get_putT, Nat.reduceLT, Nat.reduceEqDiff, if_true, if_false])) (kcall0 (get_same (by omega))) (show tblB 17 [.agg c.l] = some (iv (boundC c), 2) from rfl) (by show H.nx + 2 + 2 < mH; omega) (b5.nt_lt (by omega)) ?_
    refine kval (v := .bool true) (H2 := ⟨H.bl, H.nx + 2 + 2⟩) rfl (gd_true d1 (by simp only [Fr.get_putT, Nat.reduceLT, Nat.reduceEqDiff, if_true, if_false])) ?_ rfl (b6.nt_lt (by omega)) ?_
    · simp only [opA, aev, opBin, Fr.get_putT, Nat.reduceLT, Nat.reduceEqDiff, if_true, if_false, bin_eql64, iEq_self, vA]
    refine kval rfl rfl (pick_true (v := .bool true) (by simp only [Fr.get_putT, Nat.reduceLT, Nat.reduceEqDiff, if_true, if_false]) (get_same (by omega))) rfl (b7.nt_lt (by omega)) ?_
    refine kval rfl rfl (mv (get_same (by omega))) rfl (b8.nt_lt (by omega)) ?_
    refine kval rfl (gd_true d8 (get_same (by omega))) (b9.load24 rfl) (hab 0) (b9.nt_lt (by omega)) ?_
    refine kcall rfl (gd_true d8 (by simp only [Fr.get_putT, Nat.reduceLT, Nat.reduceEqDiff, if_true, if_false])) (kcall0 (get_same (by omega))) (show tblB 15 [.agg c.l] = some (.bool (quietC c), 2) from rfl) (by show H.nx + 2 + 2 + 2 < mH; omega) (b10.nt_lt (by omega)) ?_
    refine kval rfl (gd_true d8 (by simp only [Fr.get_putT, Nat.reduceLT, Nat.reduceEqDiff, if_true, if_false])) (b11.load24 rfl) (hab 0) (b11.nt_lt (by omega)) ?_
    refine kcall rfl (gd_true d8 (by simp only [Fr.get_putT, Nat.reduceLT, Nat.reduceEqDiff, if_true, if_false])) (kcall0 (get_same (by omega))) (show tblB 18 [.agg c.l] = some (.bool (quietC c), 2) from rfl) (by show H.nx + 2 + 2 + 2 + 2 < mH; omega) (b12.nt_lt (by omega)) ?_
    refine kval (v := .bool true) (H2 := ⟨H.bl, H.nx + 2 + 2 + 2 + 2⟩) rfl (gd_true d8 (by simp only [Fr.get_putT, Nat.reduceLT, Nat.reduceEqDiff, if_true, if_false])) ?_ rfl (b13.nt_lt (by omega)) ?_
    · simp only [opA, aev, opBin, Fr.get_putT, Nat.reduceLT, Nat.reduceEqDiff, if_true, if_false, eq_bool, vA]
    refine kval rfl rfl (pick_true (v := .bool true) (by simp only [Fr.get_putT, Nat.reduceLT, Nat.reduceEqDiff, if_true, if_false]) (get_same (by omega))) rfl (b14.nt_lt (by omega)) ?_
    exact kval rfl rfl (asg (v := .bool true) (get_same (by omega))) rfl (b15.nt_lt (by omega)) knil
  obtain ⟨F, hs, h1, h2⟩ := hs
  exact ⟨F, _, seqK_region mixed tblB_ok hl (fun _ => hreg) (by rw [hle]; simp [isDefer]) hs, h1, h2⟩
end
end Go.Proofs.YtginbifeinpciaaGreat
