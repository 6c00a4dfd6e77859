/- bursarhand.Config and bursarhand.Quiet, region by region. -/
import Derived.Test.YtginbifeinpciaaGreatRegions
namespace Go.Proofs.YtginbifeinpciaaGreat
open Go Go.Ev
def shlU (n : Int) : Int := match shiftA shlA .i64 1 n with
  | some (.int _ m) => m
  | _ => 0
theorem width_ok (r : Int) : binA Tryz.prog .shl 3 (iv 1) (uv (wr .u64 (addI 1 (pickI r 5)))) = some (iv (shlU (wr .u64 (addI 1 (pickI r 5))))) ∧ iEq (subI (shlU (wr .u64 (addI 1 (pickI r 5)))) 1) 0 = false := by
  rcases pick5 r with h | h | h | h | h <;> rw [h] <;> exact ⟨rfl, rfl⟩
section
variable {H0 : AH} {nr nc N nt : Nat} {R Z L : List AV} {f : Fr} {H : AH} {t : Nat}
theorem get_same {f : Fr} {t : Nat} {v : AV} (h : t < 256) : (f.putT t v).get t = v := by rw [Fr.get_putT _ _ _ _ h, if_pos rfl]
theorem get_other {f : Fr} {t j : Nat} {v : AV} (h : t < 256) (hj : j ≠ t) : (f.putT t v).get j = f.get j := by rw [Fr.get_putT _ _ _ _ h, if_neg hj]
theorem aev_tmp {f : Fr} {t : Nat} {v : AV} (h : f.get t = v) : aev f (.tmp t) = some v := by rw [← h]; rfl
theorem addK {k n : Int} (h : f.get t = iv n) : opA Tryz.prog f H (.binOp .add 3 (.const (.int .i64 k)) (.tmp t) 3) = some (.val (iv (addI k n)) H) := by
  simp only [opA, aev, convZ, conv, vA, opBin, h, bin_add64]
theorem addR {k n : Int} (h : f.get t = iv n) : opA Tryz.prog f H (.binOp .add 3 (.tmp t) (.const (.int .i64 k)) 3) = some (.val (iv (addI n k)) H) := by
  simp only [opA, aev, convZ, conv, vA, opBin, h, bin_add64]
theorem addT {t' : Nat} {k n : Int} (h : f.get t = iv n) (h' : f.get t' = iv k) : opA Tryz.prog f H (.binOp .add 3 (.tmp t) (.tmp t') 3) = some (.val (iv (addI n k)) H) := by
  simp only [opA, aev, vA, opBin, h, h', bin_add64]
theorem build24 {a b : Int} (h : f.get 7 = iv a) (h' : f.get 11 = iv b) : opA Tryz.prog f H (.build 24 #[(0, (.tmp 7)), (2, (.tmp 11))]) = some (.val (.agg [iv a, iv 0, iv b, iv 0, iv 0, iv 0, iv 0, iv 0, iv 0, iv 0, iv 0, iv 0, uv 0]) H) := by
  simp only [opA, aev, pairsA, consO, opBuild, h, h']
  show vA H (buildA Tryz.prog 24 [(0, iv a), (2, iv b)]) = _
  rw [bld24]
  rfl
def kaL : List S3 := [(some 4, .fieldAddr 27 (.tmp 1) 0, none), (some 5, .load 3 (.tmp 4), none), (some 6, .call ⟨.value (.func 19), #[(.tmp 5), (.const (.int .i64 (5)))], #[3, 3]⟩, none), (some 7, .binOp .add 3 (.const (.int .i64 (1))) (.tmp 6) 3, none), (some 8, .fieldAddr 27 (.tmp 1) 2, none), (some 9, .load 3 (.tmp 8), none), (some 10, .call ⟨.value (.func 19), #[(.tmp 9), (.const (.int .i64 (8)))], #[3, 3]⟩, none), (some 11, .binOp .add 3 (.const (.int .i64 (4))) (.tmp 10) 3, none), (some 12, .build 24 #[(0, (.tmp 7)), (2, (.tmp 11))], none)]
theorem ka1 {id : Nat} {ops : Array Oper} (hreg : regOk Tryz.prog ops = true) (hbit : bit ((Region.before ops).getD 10 0) 9 = true) (hst : stopsOk Tryz.prog ops ((ops.toList.map strip).take 9) = true)
    (hl : ops.toList.map strip = kaL ++ [(some 3, .alloc 24, none), (none, .store 24 (.tmp 3) (.tmp 12), none)])
    (hnt : 20 ≤ nt) {r0 r2 : Int} (hR0 : R[0]? = some (iv r0)) (hR2 : R[2]? = some (iv r2)) (c : CS0 H0 nr N nt R Z f H) :
    ∃ f1 H1, CodeS Tryz.prog (.region id ops true) f H .normal f1 H1 ∧ CSt H0 nr N (N + 1) nt R Z [iv (addI 1 (pickI r0 5)), iv 0, iv (addI 4 (pickI r2 8)), iv 0, iv 0, iv 0, iv 0, iv 0, iv 0, iv 0, iv 0, iv 0, uv 0] f1 H1 := by
  have c1 := c.frame (t := 4) (.ptr nr 0) (by omega) (by omega)
  have c2 := c1.frame (t := 5) (iv r0) (by omega) (by omega)
  have c3 := c2.frame (t := 6) (iv (pickI r0 5)) (by omega) (by omega)
  have c4 := c3.frame (t := 7) (iv (addI 1 (pickI r0 5))) (by omega) (by omega)
  have c5 := c4.frame (t := 8) (.ptr nr 2) (by omega) (by omega)
  have c6 := c5.frame (t := 9) (iv r2) (by omega) (by omega)
  have c7 := c6.frame (t := 10) (iv (pickI r2 8)) (by omega) (by omega)
  have c8 := c7.frame (t := 11) (iv (addI 4 (pickI r2 8))) (by omega) (by omega)
  have c9 := c8.frame (t := 12) (.agg [iv (addI 1 (pickI r0 5)), iv 0, iv (addI 4 (pickI r2 8)), iv 0, iv 0, iv 0, iv 0, iv 0, iv 0, iv 0, iv 0, iv 0, uv 0]) (by omega) (by omega)
  have hroom := c.room
  have hnx := c.nx
  have hs : ∃ F, seqK Tryz.prog tblPick ((kaL ++ [((some 3, .alloc 24, none) : S3), (none, .store 24 (.tmp 3) (.tmp 12), none)]).map (·.1)) kaL f H = some (F, H) ∧ CS0 H0 nr N nt R Z F H ∧ F.get 12 = .agg [iv (addI 1 (pickI r0 5)), iv 0, iv (addI 4 (pickI r2 8)), iv 0, iv 0, iv 0, iv 0, iv 0, iv 0, iv 0, iv 0, iv 0, uv 0] := by
    refine ⟨_, ?_, c9, get_same (by omega)⟩
    refine kval rfl rfl (c.fieldR (by omega)) rfl (c.nt_lt (by omega)) ?_
    refine kval rfl rfl (c1.loadR (n := r0) (get_same (by omega)) hR0) (show and true (abeq (iv r0) (iv r0)) = true by rw [abeq_int]; rfl) (c1.nt_lt (by omega)) ?_
    refine kcall rfl rfl (call19 (n := r0) (aev_tmp (get_same (by omega)))) (tblPick_eq (by decide)) (by omega) (c2.nt_lt (by omega)) ?_
    rw [nx_eta]
    refine kval (v := iv (addI 1 (pickI r0 5))) (H2 := H) rfl rfl (addK (get_same (by omega))) rfl (c3.nt_lt (by omega)) ?_
    refine kval rfl rfl (c4.fieldR (by omega)) rfl (c4.nt_lt (by omega)) ?_
    refine kval rfl rfl (c5.loadR (n := r2) (get_same (by omega)) hR2) (show and true (abeq (iv r2) (iv r2)) = true by rw [abeq_int]; rfl) (c5.nt_lt (by omega)) ?_
    refine kcall rfl rfl (call19 (n := r2) (aev_tmp (get_same (by omega)))) (tblPick_eq (by decide)) (by omega) (c6.nt_lt (by omega)) ?_
    rw [nx_eta]
    refine kval (v := iv (addI 4 (pickI r2 8))) (H2 := H) rfl rfl (addK (get_same (by omega))) rfl (c7.nt_lt (by omega)) ?_
    refine kval rfl rfl (build24 (a := addI 1 (pickI r0 5)) (b := addI 4 (pickI r2 8)) ?_ (get_same (by omega))) rfl (c8.nt_lt (by omega)) knil
    rw [get_other (by omega) (by omega), get_other (by omega) (by omega), get_other (by omega) (by omega), get_other (by omega) (by omega), get_same (by omega)]
  obtain ⟨F, hs, cF, gF⟩ := hs
  have cm := cF.made
  refine ⟨_, _, seqKA_region (l := kaL) mixed tblPick_ok hl ⟨hreg, hbit, ?_⟩ (by simp [kaL, isDefer]) hs cF.alloc ?_ (by rw [Fr.put_some (cF.nt_lt (by omega))]) cF.aroom (cm.storeAll (L' := [iv (addI 1 (pickI r0 5)), iv 0, iv (addI 4 (pickI r2 8)), iv 0, iv 0, iv 0, iv 0, iv 0, iv 0, iv 0, iv 0, iv 0, uv 0]) rfl rfl rfl ?_), cm.putAll _⟩
  · rw [hl] at hst
    exact hst
  · rfl
  · show some (Fr.get _ _) = _
    rw [get_other (by omega) (by omega), gF]
theorem shlK {n : Int} (h : f.get t = uv n) (hb : binA Tryz.prog .shl 3 (iv 1) (uv n) = some (iv (shlU n))) : opA Tryz.prog f H (.binOp .shl 3 (.const (.int .i64 1)) (.tmp t) 76) = some (.val (iv (shlU n)) H) := by
  have hb : binA Tryz.prog .shl 3 (.int .i64 1) (uv n) = some (iv (shlU n)) := hb
  simp only [opA, aev, convZ, conv, vA, opBin, h, hb]
theorem subK {k n : Int} (h : f.get t = iv n) : opA Tryz.prog f H (.binOp .sub 3 (.tmp t) (.const (.int .i64 k)) 3) = some (.val (iv (subI n k)) H) := by
  simp only [opA, aev, convZ, conv, vA, opBin, h, bin_sub64]
theorem mulK {k n : Int} (h : f.get t = iv n) : opA Tryz.prog f H (.binOp .mul 3 (.const (.int .i64 k)) (.tmp t) 3) = some (.val (iv (mulI k n)) H) := by
  simp only [opA, aev, convZ, conv, vA, opBin, h, bin_mul64]
theorem remK {k n : Int} (h : f.get t = iv n) (hk : iEq k 0 = false) : opA Tryz.prog f H (.binOp .rem 3 (.tmp t) (.const (.int .i64 k)) 3) = some (.val (iv (remI n k)) H) := by
  simp only [opA, aev, convZ, conv, vA, opBin, h, bin_rem64 _ _ hk]
theorem eqlK {k n : Int} (h : f.get t = iv n) : opA Tryz.prog f H (.binOp .eql 3 (.tmp t) (.const (.int .i64 k)) 3) = some (.val (.bool (iEq n k)) H) := by
  simp only [opA, aev, convZ, conv, vA, opBin, h, bin_eql64]
theorem cv76 {n : Int} (h : f.get t = iv n) : opA Tryz.prog f H (.convert 3 76 (.tmp t)) = some (.val (uv (wr .u64 n)) H) := by
  simp only [opA, aev, opConv, h, conv76]
theorem cv22 {n : Int} (h : f.get t = iv n) : opA Tryz.prog f H (.convert 3 22 (.tmp t)) = some (.val (uv (wr .u64 n)) H) := by
  simp only [opA, aev, opConv, h, conv22]
theorem call19T {t' : Nat} {n K : Int} (h : f.get t = iv n) (h' : f.get t' = iv K) : opA Tryz.prog f H (.call ⟨.value (.func 19), #[.tmp t, .tmp t'], #[3, 3]⟩) = some (.enter 19 [iv n, iv K]) := by
  simp only [opA, aev, aevs, h, h', consO, opCall, opCallee]
  rfl
theorem CSt.store22 (c : CSt H0 nr nc N nt R Z L f H) {i : Nat} {w : Int} {x : Operand} (hg : f.get t = .ptr nc i) (hi : i < L.length) (hw : aev f x = some (uv w)) : opA Tryz.prog f H (.store 22 (.tmp t) x) = some (.val Ev.und (H.put nc (.cells false 0 (L.set i (uv w))))) := by
  show opStore Tryz.prog H 22 (aev f x) (some (f.get t)) = _
  rw [hw, hg]
  show storeN H nc i [uv w] (sizeT Tryz.prog 22) = _
  rw [siz22]
  show hA Ev.und (storeA H nc i [uv w]) = _
  rw [store_set c.cel hi (show (uv w).one = true from rfl)]
  rfl
/-- The width and the number of seats. -/
theorem seats {id : Nat} {ops : Array Oper}
    (hl : ops.toList.map strip = [(some 13, .fieldAddr 27 (.tmp 1) 1, none), (some 14, .load 3 (.tmp 13), none), (some 15, .fieldAddr 24 (.tmp 3) 0, none), (some 16, .load 3 (.tmp 15), none), (some 17, .convert 3 76 (.tmp 16), none), (some 18, .binOp .shl 3 (.const (.int .i64 (1))) (.tmp 17) 76, none), (some 19, .binOp .sub 3 (.tmp 18) (.const (.int .i64 (1))) 3, none), (some 20, .call ⟨.value (.func 19), #[(.tmp 14), (.tmp 19)], #[3, 3]⟩, none), (some 21, .binOp .add 3 (.const (.int .i64 (1))) (.tmp 20) 3, none), (some 22, .binOp .mul 3 (.const (.int .i64 (2))) (.tmp 21) 3, none), (some 23, .fieldAddr 24 (.tmp 3) 1, none), (none, .store 3 (.tmp 23) (.tmp 22), none)])
    (hnt : 30 ≤ nt) {r c0 : Int} (hR : R[1]? = some (iv r)) (hL0 : L[0]? = some (iv c0)) (hL : 1 < L.length) (hw : binA Tryz.prog .shl 3 (iv 1) (uv (wr .u64 c0)) = some (iv (shlU (wr .u64 c0)))) (hK : iEq (subI (shlU (wr .u64 c0)) 1) 0 = false) (c : CSt H0 nr nc N nt R Z L f H) :
    ∃ f1 H1, CodeS Tryz.prog (.region id ops false) f H .normal f1 H1 ∧ CSt H0 nr nc N nt R Z (L.set 1 (iv (mulI 2 (addI 1 (pickI r (subI (shlU (wr .u64 c0)) 1)))))) f1 H1 := by
  have c1 := c.frame (t := 13) (.ptr nr 1) (by omega) (by omega)
  have c2 := c1.frame (t := 14) (iv r) (by omega) (by omega)
  have c3 := c2.frame (t := 15) (.ptr nc 0) (by omega) (by omega)
  have c4 := c3.frame (t := 16) (iv c0) (by omega) (by omega)
  have c5 := c4.frame (t := 17) (uv (wr .u64 c0)) (by omega) (by omega)
  have c6 := c5.frame (t := 18) (iv (shlU (wr .u64 c0))) (by omega) (by omega)
  have c7 := c6.frame (t := 19) (iv (subI (shlU (wr .u64 c0)) 1)) (by omega) (by omega)
  have c8 := c7.frame (t := 20) (iv (pickI r (subI (shlU (wr .u64 c0)) 1))) (by omega) (by omega)
  have c9 := c8.frame (t := 21) (iv (addI 1 (pickI r (subI (shlU (wr .u64 c0)) 1)))) (by omega) (by omega)
  have c10 := c9.frame (t := 22) (iv (mulI 2 (addI 1 (pickI r (subI (shlU (wr .u64 c0)) 1))))) (by omega) (by omega)
  have c11 := c10.frame (t := 23) (.ptr nc 1) (by omega) (by omega)
  have hroom := c.room
  have hnx := c.nx
  have hs : ∃ F G, seqP Tryz.prog tblPick ((ops.toList.map strip).map (·.1)) (ops.toList.map strip) f H = some (F, G) ∧ CSt H0 nr nc N nt R Z (L.set 1 (iv (mulI 2 (addI 1 (pickI r (subI (shlU (wr .u64 c0)) 1)))))) F G := by
    rw [hl]
    refine ⟨_, _, ?_, c11.put _ 1⟩
    refine pval rfl rfl (c.fieldR (by omega)) (c.nt_lt (by omega)) ?_
    refine pval rfl rfl (c1.loadR (n := r) (get_same (by omega)) hR) (c1.nt_lt (by omega)) ?_
    refine pval rfl rfl (c2.fieldC (by omega)) (c2.nt_lt (by omega)) ?_
    refine pval rfl rfl (c3.loadC (n := c0) (get_same (by omega)) hL0) (c3.nt_lt (by omega)) ?_
    refine pval rfl rfl (cv76 (n := c0) (get_same (by omega))) (c4.nt_lt (by omega)) ?_
    refine pval rfl rfl (shlK (n := wr .u64 c0) (get_same (by omega)) hw) (c5.nt_lt (by omega)) ?_
    refine pval rfl rfl (subK (n := shlU (wr .u64 c0)) (get_same (by omega))) (c6.nt_lt (by omega)) ?_
    refine pcall rfl rfl (call19T (n := r) (K := subI (shlU (wr .u64 c0)) 1) ?_ (get_same (by omega))) (tblPick_eq hK) (by omega) (c7.nt_lt (by omega)) ?_
    · rw [get_other (by omega) (by omega), get_other (by omega) (by omega), get_other (by omega) (by omega), get_other (by omega) (by omega), get_other (by omega) (by omega), get_same (by omega)]
    rw [nx_eta]
    refine pval rfl rfl (addK (n := pickI r (subI (shlU (wr .u64 c0)) 1)) (get_same (by omega))) (c8.nt_lt (by omega)) ?_
    refine pval rfl rfl (mulK (n := addI 1 (pickI r (subI (shlU (wr .u64 c0)) 1))) (get_same (by omega))) (c9.nt_lt (by omega)) ?_
    refine pval rfl rfl (c10.fieldC (by omega)) (c10.nt_lt (by omega)) ?_
    refine pstore (c11.store (get_same (by omega)) hL (aev_tmp ?_)) pnil
    rw [get_other (by omega) (by omega), get_same (by omega)]
  obtain ⟨F, G, hs, cF⟩ := hs
  exact ⟨F, G, seqP_region tblPick_ok rfl (by rw [hl]; simp [isDefer]) hs, cF⟩
def k3L : List S3 := [(some 24, .fieldAddr 24 (.tmp 3) 2, none), (some 25, .load 3 (.tmp 24), none), (some 26, .fieldAddr 27 (.tmp 1) 3, none), (some 27, .load 3 (.tmp 26), none), (some 28, .call ⟨.value (.func 19), #[(.tmp 27), (.const (.int .i64 (30)))], #[3, 3]⟩, none), (some 29, .binOp .add 3 (.tmp 25) (.tmp 28) 3, none), (some 30, .fieldAddr 24 (.tmp 3) 3, none)]
/-- Config's fourth number. -/
theorem ks3 {id : Nat} {ops : Array Oper} (hreg : regOk Tryz.prog ops = true) (hbit : allBits ((Region.before ops).getD 7 0) 7 = true) (hl : ops.toList.map strip = k3L ++ [(none, .store 3 (.tmp 30) (.tmp 29), none)])
    (hnt : 40 ≤ nt) {r c2 : Int} (hR : R[3]? = some (iv r)) (hL2 : L[2]? = some (iv c2)) (hL : 3 < L.length) (c : CSt H0 nr nc N nt R Z L f H) :
    ∃ f1 H1, CodeS Tryz.prog (.region id ops true) f H .normal f1 H1 ∧ CSt H0 nr nc N nt R Z (L.set 3 (iv (addI c2 (pickI r 30)))) f1 H1 := by
  have c1 := c.frame (t := 24) (.ptr nc 2) (by omega) (by omega)
  have c3 := c1.frame (t := 25) (iv c2) (by omega) (by omega)
  have c4 := c3.frame (t := 26) (.ptr nr 3) (by omega) (by omega)
  have c5 := c4.frame (t := 27) (iv r) (by omega) (by omega)
  have c6 := c5.frame (t := 28) (iv (pickI r 30)) (by omega) (by omega)
  have c7 := c6.frame (t := 29) (iv (addI c2 (pickI r 30))) (by omega) (by omega)
  have c8 := c7.frame (t := 30) (.ptr nc 3) (by omega) (by omega)
  have hroom := c.room
  have hnx := c.nx
  have hs : ∃ F, seqK Tryz.prog tblPick ((k3L ++ [((none, .store 3 (.tmp 30) (.tmp 29), none) : S3)]).map (·.1)) k3L f H = some (F, H) ∧ CSt H0 nr nc N nt R Z L F H ∧ F.get 30 = .ptr nc 3 ∧ F.get 29 = iv (addI c2 (pickI r 30)) := by
    refine ⟨_, ?_, c8, get_same (by omega), by rw [get_other (by omega) (by omega), get_same (by omega)]⟩
    refine kval rfl rfl (c.fieldC (by omega)) rfl (c.nt_lt (by omega)) ?_
    refine kval rfl rfl (c1.loadC (n := c2) (get_same (by omega)) hL2) (show and true (abeq (iv c2) (iv c2)) = true by rw [abeq_int]; rfl) (c1.nt_lt (by omega)) ?_
    refine kval rfl rfl (c3.fieldR (by omega)) rfl (c3.nt_lt (by omega)) ?_
    refine kval rfl rfl (c4.loadR (n := r) (get_same (by omega)) hR) (show and true (abeq (iv r) (iv r)) = true by rw [abeq_int]; rfl) (c4.nt_lt (by omega)) ?_
    refine kcall rfl rfl (call19 (n := r) (aev_tmp (get_same (by omega)))) (tblPick_eq (by decide)) (by omega) (c5.nt_lt (by omega)) ?_
    rw [nx_eta]
    refine kval rfl rfl (addT (n := c2) (k := pickI r 30) ?_ (get_same (by omega))) rfl (c6.nt_lt (by omega)) ?_
    · rw [get_other (by omega) (by omega), get_other (by omega) (by omega), get_other (by omega) (by omega), get_same (by omega)]
    exact kval rfl rfl (c7.fieldC (by omega)) rfl (c7.nt_lt (by omega)) knil
  obtain ⟨F, hs, cF, g1, g2⟩ := hs
  exact ⟨_, _, seqKS_region (l := k3L) mixed tblPick_ok hl (fun _ => ⟨hreg, hbit⟩) (by simp [k3L, isDefer]) hs (cF.store g1 hL (aev_tmp g2)), cF.put _ 3⟩
def q3L : List S3 := [(some 11, .fieldAddr 24 (.tmp 3) 2, none), (some 12, .load 3 (.tmp 11), none), (some 13, .binOp .add 3 (.tmp 12) (.const (.int .i64 (24))) 3, none), (some 14, .fieldAddr 27 (.tmp 1) 3, none), (some 15, .load 3 (.tmp 14), none), (some 16, .call ⟨.value (.func 19), #[(.tmp 15), (.const (.int .i64 (10)))], #[3, 3]⟩, none), (some 17, .binOp .add 3 (.tmp 13) (.tmp 16) 3, none), (some 18, .fieldAddr 24 (.tmp 3) 3, none)]
/-- Quiet's fourth number. -/
theorem qs3 {id : Nat} {ops : Array Oper} (hreg : regOk Tryz.prog ops = true) (hbit : allBits ((Region.before ops).getD 8 0) 8 = true) (hl : ops.toList.map strip = q3L ++ [(none, .store 3 (.tmp 18) (.tmp 17), none)])
    (hnt : 30 ≤ nt) {r c2 : Int} (hR : R[3]? = some (iv r)) (hL2 : L[2]? = some (iv c2)) (hL : 3 < L.length) (c : CSt H0 nr nc N nt R Z L f H) :
    ∃ f1 H1, CodeS Tryz.prog (.region id ops true) f H .normal f1 H1 ∧ CSt H0 nr nc N nt R Z (L.set 3 (iv (addI (addI c2 24) (pickI r 10)))) f1 H1 := by
  have c1 := c.frame (t := 11) (.ptr nc 2) (by omega) (by omega)
  have c3 := c1.frame (t := 12) (iv c2) (by omega) (by omega)
  have c3' := c3.frame (t := 13) (iv (addI c2 24)) (by omega) (by omega)
  have c4 := c3'.frame (t := 14) (.ptr nr 3) (by omega) (by omega)
  have c5 := c4.frame (t := 15) (iv r) (by omega) (by omega)
  have c6 := c5.frame (t := 16) (iv (pickI r 10)) (by omega) (by omega)
  have c7 := c6.frame (t := 17) (iv (addI (addI c2 24) (pickI r 10))) (by omega) (by omega)
  have c8 := c7.frame (t := 18) (.ptr nc 3) (by omega) (by omega)
  have hroom := c.room
  have hnx := c.nx
  have hs : ∃ F, seqK Tryz.prog tblPick ((q3L ++ [((none, .store 3 (.tmp 18) (.tmp 17), none) : S3)]).map (·.1)) q3L f H = some (F, H) ∧ CSt H0 nr nc N nt R Z L F H ∧ F.get 18 = .ptr nc 3 ∧ F.get 17 = iv (addI (addI c2 24) (pickI r 10)) := by
    refine ⟨_, ?_, c8, get_same (by omega), by rw [get_other (by omega) (by omega), get_same (by omega)]⟩
    refine kval rfl rfl (c.fieldC (by omega)) rfl (c.nt_lt (by omega)) ?_
    refine kval rfl rfl (c1.loadC (n := c2) (get_same (by omega)) hL2) (show and true (abeq (iv c2) (iv c2)) = true by rw [abeq_int]; rfl) (c1.nt_lt (by omega)) ?_
    refine kval rfl rfl (addR (n := c2) (get_same (by omega))) rfl (c3.nt_lt (by omega)) ?_
    refine kval rfl rfl (c3'.fieldR (by omega)) rfl (c3'.nt_lt (by omega)) ?_
    refine kval rfl rfl (c4.loadR (n := r) (get_same (by omega)) hR) (show and true (abeq (iv r) (iv r)) = true by rw [abeq_int]; rfl) (c4.nt_lt (by omega)) ?_
    refine kcall rfl rfl (call19 (n := r) (aev_tmp (get_same (by omega)))) (tblPick_eq (by decide)) (by omega) (c5.nt_lt (by omega)) ?_
    rw [nx_eta]
    refine kval rfl rfl (addT (n := addI c2 24) (k := pickI r 10) ?_ (get_same (by omega))) rfl (c6.nt_lt (by omega)) ?_
    · rw [get_other (by omega) (by omega), get_other (by omega) (by omega), get_other (by omega) (by omega), get_same (by omega)]
    exact kval rfl rfl (c7.fieldC (by omega)) rfl (c7.nt_lt (by omega)) knil
  obtain ⟨F, hs, cF, g1, g2⟩ := hs
  exact ⟨_, _, seqKS_region (l := q3L) mixed tblPick_ok hl (fun _ => ⟨hreg, hbit⟩) (by simp [q3L, isDefer]) hs (cF.store g1 hL (aev_tmp g2)), cF.put _ 3⟩
/-- The disk. -/
theorem disk {id id' : Nat} {ops ops' : Array Oper} (hl : ops.toList.map strip = [(some 47, .fieldAddr 27 (.tmp 1) 7, none), (some 48, .load 3 (.tmp 47), none), (some 49, .binOp .rem 3 (.tmp 48) (.const (.int .i64 (4))) 3, none), (some 50, .binOp .eql 3 (.tmp 49) (.const (.int .i64 (3))) 3, none)])
    (hl' : ops'.toList.map strip = [(some 51, .fieldAddr 27 (.tmp 1) 7, none), (some 52, .load 3 (.tmp 51), none), (some 53, .call ⟨.value (.func 19), #[(.tmp 52), (.const (.int .i64 (3000)))], #[3, 3]⟩, none), (some 54, .fieldAddr 24 (.tmp 3) 7, none), (none, .store 3 (.tmp 54) (.tmp 53), none)])
    (hnt : 60 ≤ nt) {r k : Int} (hR : R[7]? = some (iv r)) (hL : 7 < L.length) (hL7 : L[7]? = some (iv k)) (c : CSt H0 nr nc N nt R Z L f H) :
    ∃ f1 H1, CodeS Tryz.prog (.seq (.region id ops false) (.cond (.tmp 50) (.region id' ops' false) .skip)) f H .normal f1 H1 ∧ CSt H0 nr nc N nt R Z (L.set 7 (iv (match iEq (remI r 4) 3 with
      | true => pickI r 3000
      | false => k))) f1 H1 := by
  have c1 := c.frame (t := 47) (.ptr nr 7) (by omega) (by omega)
  have c2 := c1.frame (t := 48) (iv r) (by omega) (by omega)
  have c3 := c2.frame (t := 49) (iv (remI r 4)) (by omega) (by omega)
  have c4 := c3.frame (t := 50) (.bool (iEq (remI r 4) 3)) (by omega) (by omega)
  have hroom := c.room
  have hnx := c.nx
  have hs : ∃ F, seqP Tryz.prog tblPick ((ops.toList.map strip).map (·.1)) (ops.toList.map strip) f H = some (F, H) ∧ CSt H0 nr nc N nt R Z L F H ∧ F.get 50 = .bool (iEq (remI r 4) 3) := by
    rw [hl]
    refine ⟨_, ?_, c4, get_same (by omega)⟩
    refine pval rfl rfl (c.fieldR (by omega)) (c.nt_lt (by omega)) ?_
    refine pval rfl rfl (c1.loadR (n := r) (get_same (by omega)) hR) (c1.nt_lt (by omega)) ?_
    refine pval rfl rfl (remK (n := r) (get_same (by omega)) (by decide)) (c2.nt_lt (by omega)) ?_
    exact pval rfl rfl (eqlK (n := remI r 4) (get_same (by omega))) (c3.nt_lt (by omega)) pnil
  obtain ⟨F, hs, d0, g50⟩ := hs
  have hq := seqP_region tblPick_ok (id := id) rfl (by rw [hl]; simp [isDefer]) hs
  cases hb : iEq (remI r 4) 3 with
  | false =>
    rw [hb] at g50
    have : L.set 7 (iv k) = L := by
      apply List.ext_getElem?
      intro i
      rw [List.getElem?_set]
      by_cases h : 7 = i
      · subst h; rw [if_pos rfl, if_pos hL, hL7]
      · rw [if_neg h]
    dsimp only
    rw [this]
    exact ⟨F, H, codeS_seq hq (codeS_false (aev_tmp g50) codeS_skip), d0⟩
  | true =>
    rw [hb] at g50
    have d1 := d0.frame (t := 51) (.ptr nr 7) (by omega) (by omega)
    have d2 := d1.frame (t := 52) (iv r) (by omega) (by omega)
    have d3 := d2.frame (t := 53) (iv (pickI r 3000)) (by omega) (by omega)
    have d4 := d3.frame (t := 54) (.ptr nc 7) (by omega) (by omega)
    have hs : ∃ F' G, seqP Tryz.prog tblPick ((ops'.toList.map strip).map (·.1)) (ops'.toList.map strip) F H = some (F', G) ∧ CSt H0 nr nc N nt R Z (L.set 7 (iv (pickI r 3000))) F' G := by
      rw [hl']
      refine ⟨_, _, ?_, d4.put _ 7⟩
      refine pval rfl rfl (d0.fieldR (by omega)) (d0.nt_lt (by omega)) ?_
      refine pval rfl rfl (d1.loadR (n := r) (get_same (by omega)) hR) (d1.nt_lt (by omega)) ?_
      refine pcall rfl rfl (call19 (n := r) (aev_tmp (get_same (by omega)))) (tblPick_eq (by decide)) (by omega) (d2.nt_lt (by omega)) ?_
      rw [nx_eta]
      refine pval rfl rfl (d3.fieldC (by omega)) (d3.nt_lt (by omega)) ?_
      refine pstore (d4.store (get_same (by omega)) hL (aev_tmp ?_)) pnil
      rw [get_other (by omega) (by omega), get_same (by omega)]
    obtain ⟨F', G, hs, d5⟩ := hs
    exact ⟨F', G, codeS_seq hq (codeS_true (aev_tmp g50) (seqP_region tblPick_ok rfl (by rw [hl']; simp [isDefer]) hs)), d5⟩
/-- The seed. -/
theorem seed {id : Nat} {ops : Array Oper} (hl : ops.toList.map strip = [(some 75, .fieldAddr 27 (.tmp 1) 12, none), (some 76, .load 3 (.tmp 75), none), (some 77, .call ⟨.value (.func 19), #[(.tmp 76), (.const (.int .i64 (60)))], #[3, 3]⟩, none), (some 78, .binOp .add 3 (.const (.int .i64 (1))) (.tmp 77) 3, none), (some 79, .convert 3 22 (.tmp 78), none), (some 80, .fieldAddr 24 (.tmp 3) 12, none), (none, .store 22 (.tmp 80) (.tmp 79), none)])
    (hnt : 82 ≤ nt) {r : Int} (hR : R[12]? = some (iv r)) (hL : 12 < L.length) (c : CSt H0 nr nc N nt R Z L f H) :
    ∃ f1 H1, CodeS Tryz.prog (.region id ops false) f H .normal f1 H1 ∧ CSt H0 nr nc N nt R Z (L.set 12 (uv (wr .u64 (addI 1 (pickI r 60))))) f1 H1 := by
  have c1 := c.frame (t := 75) (.ptr nr 12) (by omega) (by omega)
  have c2 := c1.frame (t := 76) (iv r) (by omega) (by omega)
  have c3 := c2.frame (t := 77) (iv (pickI r 60)) (by omega) (by omega)
  have c4 := c3.frame (t := 78) (iv (addI 1 (pickI r 60))) (by omega) (by omega)
  have c5 := c4.frame (t := 79) (uv (wr .u64 (addI 1 (pickI r 60)))) (by omega) (by omega)
  have c6 := c5.frame (t := 80) (.ptr nc 12) (by omega) (by omega)
  have hroom := c.room
  have hnx := c.nx
  have hs : ∃ F G, seqP Tryz.prog tblPick ((ops.toList.map strip).map (·.1)) (ops.toList.map strip) f H = some (F, G) ∧ CSt H0 nr nc N nt R Z (L.set 12 (uv (wr .u64 (addI 1 (pickI r 60))))) F G := by
    rw [hl]
    refine ⟨_, _, ?_, c6.put _ 12⟩
    refine pval rfl rfl (c.fieldR (by omega)) (c.nt_lt (by omega)) ?_
    refine pval rfl rfl (c1.loadR (n := r) (get_same (by omega)) hR) (c1.nt_lt (by omega)) ?_
    refine pcall rfl rfl (call19 (n := r) (aev_tmp (get_same (by omega)))) (tblPick_eq (by decide)) (by omega) (c2.nt_lt (by omega)) ?_
    rw [nx_eta]
    refine pval rfl rfl (addK (n := pickI r 60) (get_same (by omega))) (c3.nt_lt (by omega)) ?_
    refine pval rfl rfl (cv22 (n := addI 1 (pickI r 60)) (get_same (by omega))) (c4.nt_lt (by omega)) ?_
    refine pval rfl rfl (c5.fieldC (by omega)) (c5.nt_lt (by omega)) ?_
    refine pstore (c6.store22 (get_same (by omega)) hL (aev_tmp ?_)) pnil
    rw [get_other (by omega) (by omega), get_same (by omega)]
  obtain ⟨F, G, hs, cF⟩ := hs
  exact ⟨F, G, seqP_region tblPick_ok rfl (by rw [hl]; simp [isDefer]) hs, cF⟩
end
end Go.Proofs.YtginbifeinpciaaGreat
