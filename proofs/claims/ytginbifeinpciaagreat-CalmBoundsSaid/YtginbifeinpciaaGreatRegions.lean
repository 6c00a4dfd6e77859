/- The regions of bursarhand.Config and bursarhand.Quiet. -/
import Derived.Test.YtginbifeinpciaaGreatFill
namespace Go.Proofs.YtginbifeinpciaaGreat
open Go Go.Ev
theorem u76 : Tryz.prog.underlying 76 = some (.int .u64) := by kernel_rfl
theorem u22 : Tryz.prog.underlying 22 = some (.int .u64) := by kernel_rfl
theorem u3 : Tryz.prog.underlying 3 = some (.int .i64) := by kernel_rfl
theorem bld24 (a b : Int) : buildA Tryz.prog 24 [(0, iv a), (2, iv b)] = some (.agg [iv a, iv 0, iv b, iv 0, iv 0, iv 0, iv 0, iv 0, iv 0, iv 0, iv 0, iv 0, uv 0]) := by kernel_rfl
def zeroL : List AV := [iv 0, iv 0, iv 0, iv 0, iv 0, iv 0, iv 0, iv 0, iv 0, iv 0, iv 0, iv 0, uv 0]
theorem zero24 : zeroT Tryz.prog 24 = some (.agg zeroL) := by kernel_rfl
theorem conv76 {H : AH} (n : Int) : convA Tryz.prog 3 76 (iv n) H = some (.val (uv (wr .u64 n)) H) := by
  unfold convA
  rw [u3, u76]
  rfl
theorem conv22 {H : AH} (n : Int) : convA Tryz.prog 3 22 (iv n) H = some (.val (uv (wr .u64 n)) H) := by
  unfold convA
  rw [u3, u22]
  rfl
theorem pick5 (n : Int) : pickI n 5 = 0 ∨ pickI n 5 = 1 ∨ pickI n 5 = 2 ∨ pickI n 5 = 3 ∨ pickI n 5 = 4 := by
  have h : remI n 5 = n.tmod 5 := by
    cases n with
    | ofNat x =>
      show (match (some (match and (Nat.ble (Nat.succ x) (top .i64)) (Nat.ble (Nat.succ 5) (top .i64)) with
        | true => AV.int .i64 (.ofNat (Nat.mod x 5))
        | false => AV.int .i64 ((Int.ofNat x).tmod 5)) : Option AV) with
        | some (.int _ n) => n
        | _ => 0) = _
      cases and (Nat.ble (Nat.succ x) (top .i64)) (Nat.ble (Nat.succ 5) (top .i64)) <;> rfl
    | negSucc x => rfl
  have h1 := Int.tmod_lt_of_pos n (show (0 : Int) < 5 by decide)
  have h2 := Int.lt_tmod_of_pos n (show (0 : Int) < 5 by decide)
  unfold pickI
  rw [h]
  generalize n.tmod 5 = r at h1 h2
  have h3 : r = -4 ∨ r = -3 ∨ r = -2 ∨ r = -1 ∨ r = 0 ∨ r = 1 ∨ r = 2 ∨ r = 3 ∨ r = 4 := by omega
  rcases h3 with rfl | rfl | rfl | rfl | rfl | rfl | rfl | rfl | rfl <;> decide
theorem over_all : ∀ (vs l : List AV), vs.length = l.length → over vs l = some vs
  | [], [], _ => rfl
  | v :: vs, a :: l, h => by
    have := over_all vs l (by simpa using h)
    simp [over, this]
theorem store_all {H : AH} {b : Nat} {L vs : List AV} (hg : H.get b = some (.cells false 0 L)) (hl : vs.length = L.length) (h1 : ones vs = true) (h0 : 0 < vs.length) : storeA H b 0 vs = some (H.put b (.cells false 0 vs)) := by
  cases vs with
  | nil => cases h0
  | cons v vs =>
    have hs : splice (v :: vs) 0 L = some (v :: vs) := by
      have := over_all (v :: vs) L hl
      cases L with
      | nil => cases hl
      | cons a L => exact this
    simp only [storeA, h1, hg, storeAt, hs, putCells]
/-- Before the config is made. -/
structure CS0 (H0 : AH) (nr N nt : Nat) (R Z : List AV) (f : Fr) (H : AH) : Prop where
  nx : H.nx = N
  g1 : f.get 1 = .ptr nr 0
  g2 : f.get 2 = .ptr (nr + 1) 0
  nt : f.nt = nt
  df : f.df = []
  raw : H.get nr = some (.cells false 0 R)
  ret : H.get (nr + 1) = some (.cells false 0 Z)
  old : ∀ b x, b < nr → H0.get b = some x → H.get b = some x
  lt : nr + 1 < N
  room : N + 1 < mH
section
variable {H0 : AH} {nr nc N nt : Nat} {R Z L : List AV} {f : Fr} {H : AH} {t : Nat}
theorem CS0.frame (c : CS0 H0 nr N nt R Z f H) {t : Nat} (v : AV) (h4 : 4 ≤ t) (ht : t < 256) : CS0 H0 nr N nt R Z (f.putT t v) H := by
  refine ⟨c.nx, ?_, ?_, c.nt, c.df, c.raw, c.ret, c.old, c.lt, c.room⟩
  · rw [Fr.get_putT _ _ _ _ ht, if_neg (by omega)]; exact c.g1
  · rw [Fr.get_putT _ _ _ _ ht, if_neg (by omega)]; exact c.g2
theorem CS0.fieldR (c : CS0 H0 nr N nt R Z f H) {j : Nat} (hj : j < 13) : opA Tryz.prog f H (.fieldAddr 27 (.tmp 1) j) = some (.val (.ptr nr j) H) := by
  simp only [opA, aev, c.g1, opFieldAddr, fld27 j hj, ptrAdd, Nat.add_eq, Nat.zero_add, vA]
theorem CS0.loadR (c : CS0 H0 nr N nt R Z f H) {j : Nat} {n : Int} (hg : f.get t = .ptr nr j) (hj : R[j]? = some (iv n)) : opA Tryz.prog f H (.load 3 (.tmp t)) = some (.val (iv n) H) := by
  simp only [opA, aev, hg, opLoad, load_int c.raw hj, vA]
theorem CS0.nt_lt (c : CS0 H0 nr N nt R Z f H) {t : Nat} (h : t < nt) : t < f.nt := by rw [c.nt]; exact h
theorem CS0.aroom (c : CS0 H0 nr N nt R Z f H) : H.room = true := by
  have := c.room
  have := c.nx
  exact room_of (by omega)
/-- The new variable. -/
theorem CS0.alloc (c : CS0 H0 nr N nt R Z f H) : opA Tryz.prog f H (.alloc 24) = some (.val (.ptr N 0) (H.grown (.cells false 0 zeroL))) := by
  show newVarA H (zeroT Tryz.prog 24) = _
  rw [zero24]
  show newA H (.cells false 0 zeroL) (fun b => .ptr b 0) = _
  unfold newA
  rw [c.aroom]
  show some (AR.val (.ptr H.nx 0) _) = _
  rw [c.nx]
theorem CS0.made (c : CS0 H0 nr N nt R Z f H) : CSt H0 nr N (N + 1) nt R Z zeroL (f.putT 3 (.ptr N 0)) (H.grown (.cells false 0 zeroL)) := by
  have h1 := c.nx
  have h2 := c.lt
  have h3 := c.room
  refine ⟨by rw [AH.nx_grown, h1], ?_, ?_, ?_, c.nt, c.df, ?_, ?_, ?_, fun b x hb hx => ?_, c.lt, by omega, c.room⟩
  · rw [Fr.get_putT _ _ _ _ (by omega), if_neg (by omega)]; exact c.g1
  · rw [Fr.get_putT _ _ _ _ (by omega), if_neg (by omega)]; exact c.g2
  · rw [Fr.get_putT _ _ _ _ (by omega), if_pos rfl]
  · rw [AH.get_grown _ _ _ (by omega) (by omega), if_neg (by omega)]; exact c.raw
  · rw [AH.get_grown _ _ _ (by omega) (by omega), if_neg (by omega)]; exact c.ret
  · rw [AH.get_grown _ _ _ (by omega) (by omega), if_pos h1.symm]
  · rw [AH.get_grown _ _ _ (by omega) (by omega), if_neg (by omega)]; exact c.old b x hb hx
/-- All of the config at once. -/
theorem CSt.putAll (c : CSt H0 nr nc N nt R Z L f H) (L' : List AV) : CSt H0 nr nc N nt R Z L' f (H.put nc (.cells false 0 L')) := by
  have h1 := c.lt
  have h2 := c.ltN
  have h3 := c.room
  refine ⟨c.nx, c.g1, c.g2, c.g3, c.nt, c.df, ?_, ?_, ?_, fun b x hb hx => ?_, c.lt, c.ltN, c.room⟩
  · rw [AH.get_put _ _ _ _ (by omega) (by omega), if_neg (by omega)]; exact c.raw
  · rw [AH.get_put _ _ _ _ (by omega) (by omega), if_neg (by omega)]; exact c.ret
  · rw [AH.get_put _ _ _ _ (by omega) (by omega), if_pos rfl]
  · rw [AH.get_put _ _ _ _ (by omega) (by omega), if_neg (by omega)]; exact c.old b x hb hx
theorem CSt.storeAll (c : CSt H0 nr nc N nt R Z L f H) {L' : List AV} {x : Operand} (hL : L'.length = 13) (hL0 : L.length = 13) (h1 : ones L' = true) (hx : aev f x = some (.agg L')) : opA Tryz.prog f H (.store 24 (.tmp 3) x) = some (.val Ev.und (H.put nc (.cells false 0 L'))) := by
  show opStore Tryz.prog H 24 (aev f x) (some (f.get 3)) = _
  rw [hx, c.g3]
  show storeN H nc 0 L' (sizeT Tryz.prog 24) = _
  rw [siz24]
  unfold storeN
  rw [len_eq, hL]
  show hA Ev.und (storeA H nc 0 L') = _
  rw [store_all c.cel (by omega) h1 (by omega)]
  rfl
theorem boxed (nt : Nat) (hnt : 4 ≤ nt) (hnt' : nt ≤ 256) {id : Nat} {ops : Array Oper} (hl : ops.toList.map strip = [(some 1, .box 27 (.tmp 0), none), (some 2, .alloc 24, none)]) (h0 : f.get 0 = .agg R) (hn : f.nt = nt) (hd : f.df = []) (hroom : H.nx + 3 < mH) :
    ∃ f1 H1, CodeS Tryz.prog (.region id ops false) f H .normal f1 H1 ∧ CS0 H H.nx (H.nx + 2) nt R zeroL f1 H1 := by
  have hbox : opA Tryz.prog f H (.box 27 (.tmp 0)) = some (.val (.ptr H.nx 0) (H.grown (.cells false 0 R))) := by
    show newVarA H (some (f.get 0)) = _
    rw [h0]
    show newA H (.cells false 0 R) (fun b => .ptr b 0) = _
    unfold newA
    rw [room_of (by omega)]
  have hal : opA Tryz.prog (f.putT 1 (.ptr H.nx 0)) (H.grown (.cells false 0 R)) (.alloc 24) = some (.val (.ptr (H.nx + 1) 0) ((H.grown (.cells false 0 R)).grown (.cells false 0 zeroL))) := by
    show newVarA (H.grown (.cells false 0 R)) (zeroT Tryz.prog 24) = _
    rw [zero24]
    show newA (H.grown (.cells false 0 R)) (.cells false 0 zeroL) (fun b => .ptr b 0) = _
    unfold newA
    rw [room_of (by rw [AH.nx_grown]; omega)]
    rfl
  have hs : seqP Tryz.prog tblPick ((ops.toList.map strip).map (·.1)) (ops.toList.map strip) f H = some ((f.putT 1 (.ptr H.nx 0)).putT 2 (.ptr (H.nx + 1) 0), (H.grown (.cells false 0 R)).grown (.cells false 0 zeroL)) := by
    rw [hl]
    simp only [List.map_cons, List.map_nil]
    refine pval rfl rfl hbox (by omega) (pval rfl rfl hal (by rw [Fr.nt_putT]; omega) pnil)
  refine ⟨_, _, seqP_region tblPick_ok rfl (by rw [hl]; simp [isDefer]) hs, rfl, ?_, ?_, hn, hd, ?_, ?_, fun b x hb hx => ?_, by omega, hroom⟩
  · rw [Fr.get_putT _ _ _ _ (by omega), if_neg (by omega), Fr.get_putT _ _ _ _ (by omega), if_pos rfl]
  · rw [Fr.get_putT _ _ _ _ (by omega), if_pos rfl]
  · rw [AH.get_grown _ _ _ (by rw [AH.nx_grown]; omega) (by omega), if_neg (by rw [AH.nx_grown]; omega), AH.get_grown _ _ _ (by omega) (by omega), if_pos rfl]
  · rw [AH.get_grown _ _ _ (by rw [AH.nx_grown]; omega) (by omega), if_pos (by rw [AH.nx_grown])]
  · rw [AH.get_grown _ _ _ (by rw [AH.nx_grown]; omega) (by omega), if_neg (by rw [AH.nx_grown]; omega), AH.get_grown _ _ _ (by omega) (by omega), if_neg (by omega)]; exact hx
/-- A constant. -/
theorem fillK {i : Nat} {k : Int} {id : Nat} {ops : Array Oper} (t : Nat) (hl : ops.toList.map strip = [(some t, .fieldAddr 24 (.tmp 3) i, none), (none, .store 3 (.tmp t) (.const (.int .i64 k)), none)])
    (hi : i < 13) (h4 : 4 ≤ t) (ht : t < nt) (hnt : nt ≤ 256) (hL : i < L.length) (c : CSt H0 nr nc N nt R Z L f H) :
    ∃ f1 H1, CodeS Tryz.prog (.region id ops false) f H .normal f1 H1 ∧ CSt H0 nr nc N nt R Z (L.set i (iv k)) f1 H1 := by
  have c1 := c.frame (t := t) (.ptr nc i) h4 (by omega)
  have hs : seqP Tryz.prog tblPick ((ops.toList.map strip).map (·.1)) (ops.toList.map strip) f H = some (f.putT t (.ptr nc i), H.put nc (.cells false 0 (L.set i (iv k)))) := by
    rw [hl]
    simp only [List.map_cons, List.map_nil]
    refine pval rfl rfl (c.fieldC hi) (c.nt_lt ht) ?_
    exact pstore (c1.store (w := k) (by rw [Fr.get_putT _ _ _ _ (by omega), if_pos rfl]) hL rfl) pnil
  exact ⟨_, _, seqP_region tblPick_ok rfl (by rw [hl]; simp [isDefer]) hs, c1.put (iv k) i⟩
/-- The answer. -/
theorem leave {id : Nat} {ops : Array Oper} (t : Nat) (hl : ops.toList.map strip = [(some t, .load 24 (.tmp 3), none), (none, .store 24 (.tmp 2) (.tmp t), none)]) (h4 : 4 ≤ t) (ht : t < nt) (hnt : nt ≤ 256) (hL : L.length = 13) (hZ : Z.length = 13) (h1 : ones L = true) (c : CSt H0 nr nc N nt R Z L f H) :
    ∃ f1 H1, CodeS Tryz.prog (.region id ops false) f H .normal f1 H1 ∧ H1.nx = N ∧ f1.df = [] ∧ (∀ b x, b < nr → H0.get b = some x → H1.get b = some x) ∧ resA Tryz.prog H1 f1 [.cell 2 24] = some [.agg L] := by
  have c1 := c.frame (t := t) (.agg L) h4 (by omega)
  have q1 := c.lt
  have q2 := c.ltN
  have q3 := c.room
  have hld : opA Tryz.prog f H (.load 24 (.tmp 3)) = some (.val (.agg L) H) := by
    show opLoad Tryz.prog H 24 (some (f.get 3)) = _
    rw [c.g3]
    show vA H (loadVarA Tryz.prog H 24 nc 0) = _
    unfold loadVarA
    simp only [agg24, siz24]
    rw [show (some 13 : Option Nat) = some L.length by rw [hL], loadAgg_cells c.cel]
    rfl
  have hst : opA Tryz.prog (f.putT t (.agg L)) H (.store 24 (.tmp 2) (.tmp t)) = some (.val Ev.und (H.put (nr + 1) (.cells false 0 L))) := by
    show opStore Tryz.prog H 24 (some ((f.putT t (.agg L)).get t)) (some ((f.putT t (.agg L)).get 2)) = _
    rw [c1.g2, Fr.get_putT _ _ _ _ (by omega), if_pos rfl]
    show storeN H (nr + 1) 0 L (sizeT Tryz.prog 24) = _
    rw [siz24]
    unfold storeN
    rw [len_eq, hL]
    show hA Ev.und (storeA H (nr + 1) 0 L) = _
    rw [store_all c.ret (by omega) h1 (by omega)]
    rfl
  have hs : seqP Tryz.prog tblPick ((ops.toList.map strip).map (·.1)) (ops.toList.map strip) f H = some (f.putT t (.agg L), H.put (nr + 1) (.cells false 0 L)) := by
    rw [hl]
    simp only [List.map_cons, List.map_nil]
    exact pval rfl rfl hld (c.nt_lt ht) (pstore hst pnil)
  refine ⟨_, _, seqP_region tblPick_ok rfl (by rw [hl]; simp [isDefer]) hs, c.nx, c1.df, fun b x hb hx => ?_, ?_⟩
  · rw [AH.get_put _ _ _ _ (by omega) (by omega), if_neg (by omega)]; exact c.old b x hb hx
  · have hld2 : loadVarA Tryz.prog (H.put (nr + 1) (.cells false 0 L)) 24 (nr + 1) 0 = some (.agg L) := by
      unfold loadVarA
      simp only [agg24, siz24]
      rw [show (some 13 : Option Nat) = some L.length by rw [hL]]
      exact loadAgg_cells (by rw [AH.get_put _ _ _ _ (by omega) (by omega), if_pos rfl])
    show consO (resCell Tryz.prog (H.put (nr + 1) (.cells false 0 L)) 24 ((f.putT t (.agg L)).get 2)) (some []) = _
    rw [c1.g2]
    show consO (loadVarA Tryz.prog (H.put (nr + 1) (.cells false 0 L)) 24 (nr + 1) 0) (some []) = _
    rw [hld2]
    rfl
end
end Go.Proofs.YtginbifeinpciaaGreat
