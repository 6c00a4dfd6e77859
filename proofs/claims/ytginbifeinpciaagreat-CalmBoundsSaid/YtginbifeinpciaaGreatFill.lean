/- The regions that fill a config. -/
import Derived.Test.YtginbifeinpciaaGreatPick
namespace Go.Proofs.YtginbifeinpciaaGreat
open Go Go.Ev
theorem fld27 : ∀ i, i < 13 → fieldOff Tryz.prog (fieldOf i (Tryz.prog.underlying 27)) = some i := by
  have h : (List.range 13).all (fun i => match fieldOff Tryz.prog (fieldOf i (Tryz.prog.underlying 27)) with
    | some j => Nat.beq i j
    | none => false) = true := by kernel_rfl
  intro i hi
  have := List.all_eq_true.1 h i (List.mem_range.2 hi)
  split at this
  · rename_i j hj
    rw [hj, Nat.eq_of_beq_eq_true this]
  · cases this
theorem siz3 : sizeT Tryz.prog 3 = some 1 := by kernel_rfl
theorem siz22 : sizeT Tryz.prog 22 = some 1 := by kernel_rfl
theorem siz27 : sizeT Tryz.prog 27 = some 13 := by kernel_rfl
theorem agg27 : aggT Tryz.prog 27 = some true := by kernel_rfl
def tblPick : FuncId → List AV → Option (AV × Nat) := tadd 19 pickT fun _ _ => none
theorem tblPick_ok : PureOk Tryz.prog tblPick := pure_add pick_ok pure_none
theorem tblPick_eq {a b : Int} (h : iEq b 0 = false) : tblPick 19 [iv a, iv b] = some (iv (pickI a b), 0) := pickT_eq h
section
variable {tbl : FuncId → List AV → Option (AV × Nat)} {ds : List (Option Tmp)} {f : Fr} {H H1 : AH} {l : List S3} {v : AV} {res : Option (Fr × AH)}
theorem pstore {ty : TypeId} {a x : Operand} (hop : opA Tryz.prog f H (.store ty a x) = some (.val v H1)) (h : seqP Tryz.prog tbl ds l f H1 = res) : seqP Tryz.prog tbl ds ((none, .store ty a x, none) :: l) f H = res := by
  rw [← h]
  simp only [seqP, gdOk, hop]
  rfl
end
/-- Where the raw numbers, the answer and the config lie. -/
structure CSt (H0 : AH) (nr nc N nt : Nat) (R Z L : List AV) (f : Fr) (H : AH) : Prop where
  nx : H.nx = N
  g1 : f.get 1 = .ptr nr 0
  g2 : f.get 2 = .ptr (nr + 1) 0
  g3 : f.get 3 = .ptr nc 0
  nt : f.nt = nt
  df : f.df = []
  raw : H.get nr = some (.cells false 0 R)
  ret : H.get (nr + 1) = some (.cells false 0 Z)
  cel : H.get nc = some (.cells false 0 L)
  old : ∀ b x, b < nr → H0.get b = some x → H.get b = some x
  lt : nr + 1 < nc
  ltN : nc < N
  room : N < mH
theorem load1_cells {H : AH} {b : Nat} {s : Bool} {z : Nat} {l : List AV} (h : H.get b = some (.cells s z l)) (i : Nat) : load1 H b i = l[i]? := by
  unfold load1
  rw [h]
  show nth l i = _
  rw [nth_eq]
theorem load1_nx (H : AH) (n b i : Nat) : load1 ⟨H.bl, n⟩ b i = load1 H b i := rfl
theorem loadAgg_cells {H : AH} {b : Nat} {s : Bool} {z : Nat} {l : List AV} (h : H.get b = some (.cells s z l)) : loadAgg H b 0 (some l.length) = some (.agg l) := by
  show aggO (loadA H b 0 l.length) = _
  unfold loadA
  rw [h]
  show aggO (inRange 0 l.length l) = _
  unfold inRange
  rw [len_eq, show Nat.ble (Nat.add 0 l.length) l.length = true from Nat.ble_eq_true_of_le (by show 0 + l.length ≤ l.length; omega)]
  show some (AV.agg (cut l 0 l.length)) = _
  rw [cut_eq]
  simp
theorem load_int {H : AH} {b i : Nat} {n : Int} {R : List AV} {s : Bool} {z : Nat} (h : H.get b = some (.cells s z R)) (hi : R[i]? = some (iv n)) : loadVarA Tryz.prog H 3 b i = some (iv n) := by
  unfold loadVarA
  simp only [agg3, load1_cells h, hi]
/-- A store into the config. -/
theorem CSt.put {H0 : AH} {nr nc N nt : Nat} {R Z L : List AV} {f : Fr} {H : AH} (c : CSt H0 nr nc N nt R Z L f H) (w : AV) (i : Nat) : CSt H0 nr nc N nt R Z (L.set i w) f (H.put nc (.cells false 0 (L.set i w))) := by
  have h1 := c.lt
  have h2 := c.ltN
  have h3 := c.room
  refine ⟨c.nx, c.g1, c.g2, c.g3, c.nt, c.df, ?_, ?_, ?_, fun b x hb hx => ?_, c.lt, c.ltN, c.room⟩
  · rw [AH.get_put _ _ _ _ (by omega) (by omega), if_neg (by omega)]; exact c.raw
  · rw [AH.get_put _ _ _ _ (by omega) (by omega), if_neg (by omega)]; exact c.ret
  · rw [AH.get_put _ _ _ _ (by omega) (by omega), if_pos rfl]
  · rw [AH.get_put _ _ _ _ (by omega) (by omega), if_neg (by omega)]; exact c.old b x hb hx
theorem store_set {H : AH} {b o : Nat} {L : List AV} {v : AV} (hg : H.get b = some (.cells false 0 L)) (ho : o < L.length) (hv : v.one = true) : storeA H b o [v] = some (H.put b (.cells false 0 (L.set o v))) := by
  obtain ⟨c', h1, h2, h3⟩ := store1 hg ho hv
  have : c' = L.set o v := by
    apply List.ext_getElem?
    intro i
    rw [h3 i, List.getElem?_set]
    by_cases h : i = o
    · subst h; simp [ho]
    · rw [if_neg h, if_neg (fun e => h e.symm)]
  rw [h1, this]
/-- A frame in which later variables are set. -/
theorem CSt.frame {H0 : AH} {nr nc N nt : Nat} {R Z L : List AV} {f : Fr} {H : AH} (c : CSt H0 nr nc N nt R Z L f H) {t : Nat} (v : AV) (h4 : 4 ≤ t) (ht : t < 256) : CSt H0 nr nc N nt R Z L (f.putT t v) H := by
  refine ⟨c.nx, ?_, ?_, ?_, c.nt, c.df, c.raw, c.ret, c.cel, c.old, c.lt, c.ltN, c.room⟩
  · rw [Fr.get_putT _ _ _ _ ht, if_neg (by omega)]; exact c.g1
  · rw [Fr.get_putT _ _ _ _ ht, if_neg (by omega)]; exact c.g2
  · rw [Fr.get_putT _ _ _ _ ht, if_neg (by omega)]; exact c.g3
section
variable {H0 : AH} {nr nc N nt : Nat} {R Z L : List AV} {f : Fr} {H : AH} {t : Nat}
theorem CSt.fieldR (c : CSt H0 nr nc N nt R Z L f H) {j : Nat} (hj : j < 13) : opA Tryz.prog f H (.fieldAddr 27 (.tmp 1) j) = some (.val (.ptr nr j) H) := by
  simp only [opA, aev, c.g1, opFieldAddr, fld27 j hj, ptrAdd, Nat.add_eq, Nat.zero_add, vA]
theorem CSt.fieldC (c : CSt H0 nr nc N nt R Z L f H) {i : Nat} (hi : i < 13) : opA Tryz.prog f H (.fieldAddr 24 (.tmp 3) i) = some (.val (.ptr nc i) H) := by
  simp only [opA, aev, c.g3, opFieldAddr, fld24 i hi, ptrAdd, Nat.add_eq, Nat.zero_add, vA]
theorem CSt.loadR (c : CSt H0 nr nc N nt R Z L f H) {j : Nat} {n : Int} (hg : f.get t = .ptr nr j) (hj : R[j]? = some (iv n)) : opA Tryz.prog f H (.load 3 (.tmp t)) = some (.val (iv n) H) := by
  simp only [opA, aev, hg, opLoad, load_int c.raw hj, vA]
theorem CSt.loadC (c : CSt H0 nr nc N nt R Z L f H) {j : Nat} {n : Int} (hg : f.get t = .ptr nc j) (hj : L[j]? = some (iv n)) : opA Tryz.prog f H (.load 3 (.tmp t)) = some (.val (iv n) H) := by
  simp only [opA, aev, hg, opLoad, load_int c.cel hj, vA]
theorem CSt.store (c : CSt H0 nr nc N nt R Z L f H) {i : Nat} {w : Int} {x : Operand} (hg : f.get t = .ptr nc i) (hi : i < L.length) (hw : aev f x = some (iv w)) : opA Tryz.prog f H (.store 3 (.tmp t) x) = some (.val Ev.und (H.put nc (.cells false 0 (L.set i (iv w))))) := by
  show opStore Tryz.prog H 3 (aev f x) (some (f.get t)) = _
  rw [hw, hg]
  show storeN H nc i [iv w] (sizeT Tryz.prog 3) = _
  rw [siz3]
  show hA Ev.und (storeA H nc i [iv w]) = _
  rw [store_set c.cel hi (show (iv w).one = true from rfl)]
  rfl
theorem call19 {f : Fr} {H : AH} {a : Operand} {n K : Int} (h : aev f a = some (iv n)) : opA Tryz.prog f H (.call ⟨.value (.func 19), #[a, .const (.int .i64 K)], #[3, 3]⟩) = some (.enter 19 [iv n, iv K]) := by
  simp only [opA, aevs, h, consO, opCall, opCallee]
  rfl
theorem nx_eta (H : AH) : (⟨H.bl, H.nx + 0⟩ : AH) = H := rfl
theorem CSt.nt_lt (c : CSt H0 nr nc N nt R Z L f H) {t : Nat} (h : t < nt) : t < f.nt := by rw [c.nt]; exact h
/-- One number, k and a pick below K. -/
theorem fill {i j : Nat} {k K r : Int} {id : Nat} {ops : Array Oper} (t : Nat) (hl : ops.toList.map strip = [(some t, .fieldAddr 27 (.tmp 1) j, none), (some (t + 1), .load 3 (.tmp t), none), (some (t + 2), .call ⟨.value (.func 19), #[(.tmp (t + 1)), (.const (.int .i64 K))], #[3, 3]⟩, none), (some (t + 3), .binOp .add 3 (.const (.int .i64 k)) (.tmp (t + 2)) 3, none), (some (t + 4), .fieldAddr 24 (.tmp 3) i, none), (none, .store 3 (.tmp (t + 4)) (.tmp (t + 3)), none)])
    (hK : iEq K 0 = false) (hi : i < 13) (hj : j < 13) (h4 : 4 ≤ t) (ht : t + 4 < nt) (hnt : nt ≤ 256) (hL : i < L.length) (hR : R[j]? = some (iv r)) (c : CSt H0 nr nc N nt R Z L f H) :
    ∃ f1 H1, CodeS Tryz.prog (.region id ops false) f H .normal f1 H1 ∧ CSt H0 nr nc N nt R Z (L.set i (iv (addI k (pickI r K)))) f1 H1 := by
  have c1 := c.frame (t := t) (.ptr nr j) h4 (by omega)
  have c2 := c1.frame (t := t + 1) (iv r) (by omega) (by omega)
  have c3 := c2.frame (t := t + 2) (iv (pickI r K)) (by omega) (by omega)
  have c4 := c3.frame (t := t + 3) (iv (addI k (pickI r K))) (by omega) (by omega)
  have c5 := c4.frame (t := t + 4) (.ptr nc i) (by omega) (by omega)
  have c6 := c5.put (iv (addI k (pickI r K))) i
  have hs : seqP Tryz.prog tblPick ((ops.toList.map strip).map (·.1)) (ops.toList.map strip) f H = some (((((f.putT t (.ptr nr j)).putT (t + 1) (iv r)).putT (t + 2) (iv (pickI r K))).putT (t + 3) (iv (addI k (pickI r K)))).putT (t + 4) (.ptr nc i), H.put nc (.cells false 0 (L.set i (iv (addI k (pickI r K)))))) := by
    rw [hl]
    simp only [List.map_cons, List.map_nil]
    refine pval rfl rfl (c.fieldR hj) (c.nt_lt (by omega)) ?_
    refine pval rfl rfl (c1.loadR (n := r) (by rw [Fr.get_putT _ _ _ _ (by omega), if_pos rfl]) hR) (c1.nt_lt (by omega)) ?_
    refine pcall rfl rfl (call19 (n := r) (by show some (Fr.get _ _) = _; rw [Fr.get_putT _ _ _ _ (by omega), if_pos rfl])) (tblPick_eq hK) (by rw [c.nx]; exact c.room) (c2.nt_lt (by omega)) ?_
    rw [nx_eta]
    refine pval rfl rfl (v := iv (addI k (pickI r K))) (H1 := H) ?_ (c3.nt_lt (by omega)) ?_
    · simp only [opA, aev, convZ, conv, vA, opBin, Fr.get_putT _ _ _ _ (show t + 2 < 256 by omega), if_true, bin_add64]
    refine pval rfl rfl (c4.fieldC hi) (c4.nt_lt (by omega)) ?_
    refine pstore (c5.store (w := addI k (pickI r K)) (by rw [Fr.get_putT _ _ _ _ (by omega), if_pos rfl]) hL ?_) pnil
    show some (Fr.get _ _) = _
    rw [Fr.get_putT _ _ _ _ (by omega), if_neg (by omega), Fr.get_putT _ _ _ _ (by omega), if_pos rfl]
  exact ⟨_, _, seqP_region tblPick_ok rfl (by rw [hl]; simp [isDefer]) hs, c6⟩
end
end Go.Proofs.YtginbifeinpciaaGreat
