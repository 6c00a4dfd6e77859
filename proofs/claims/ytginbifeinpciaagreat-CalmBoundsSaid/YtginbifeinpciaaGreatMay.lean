/- api.May of any numbers. -/
import Derived.Test.YtginbifeinpciaaGreatIn
namespace Go.Proofs.YtginbifeinpciaaGreat
open Go Go.Ev
set_option linter.unusedSimpArgs false
theorem fld24 : ∀ i, i < 13 → fieldOff Tryz.prog (fieldOf i (Tryz.prog.underlying 24)) = some i := by
  have h : (List.range 13).all (fun i => match fieldOff Tryz.prog (fieldOf i (Tryz.prog.underlying 24)) with
    | some j => Nat.beq i j
    | none => false) = true := by kernel_rfl
  intro i hi
  have := List.all_eq_true.1 h i (List.mem_range.2 hi)
  split at this
  · rename_i j hj
    rw [hj, Nat.eq_of_beq_eq_true this]
  · cases this
theorem agg3 : aggT Tryz.prog 3 = some false := by kernel_rfl
theorem agg22 : aggT Tryz.prog 22 = some false := by kernel_rfl
theorem agg24 : aggT Tryz.prog 24 = some true := by kernel_rfl
theorem siz24 : sizeT Tryz.prog 24 = some 13 := by kernel_rfl
theorem tadd_same {g0 : Nat} {t : List AV → Option (AV × Nat)} {tbl : FuncId → List AV → Option (AV × Nat)} (args : List AV) : tadd g0 t tbl g0 args = t args := by
  unfold tadd
  rw [show Nat.beq g0 g0 = true from Nat.beq_refl g0]
theorem tadd_other {g0 g : Nat} {t : List AV → Option (AV × Nat)} {tbl : FuncId → List AV → Option (AV × Nat)} (args : List AV) (h : Nat.beq g g0 = false) : tadd g0 t tbl g args = tbl g args := by
  unfold tadd
  rw [h]
def inB (a b c : Int) : Bool := and (iLe b a) (iLe a c)
theorem inT_eq (a b c : Int) : inT [iv a, iv b, iv c] = some (.bool (inB a b c), 0) := rfl
def andI (a b : Int) : Int := match andA .i64 a b with
  | .int _ n => n
  | _ => 0
theorem andA_eq (a b : Int) : andA .i64 a b = iv (andI a b) := by
  unfold andI
  unfold andA small
  split
  · split <;> rfl
  · rfl
theorem bin_and64 {P : Program} {t : TypeId} (a b : Int) : binA P .and t (iv a) (iv b) = some (iv (andI a b)) := by
  show some (andA .i64 a b) = _
  rw [andA_eq]
def shlI (a b : Int) : Int := match b with
  | .ofNat y => (match shlA .i64 a (nmin y 64) with
    | .int _ n => n
    | _ => 0)
  | _ => 0
theorem bin_shl64 {P : Program} {t : TypeId} (a b : Int) (h : iLe 1 b = true) : binA P .shl t (iv a) (iv b) = some (iv (shlI a b)) := by
  cases b with
  | ofNat y => rfl
  | negSucc y => cases h
def subI (a b : Int) : Int := wr .i64 (Int.sub a b)
def addI (a b : Int) : Int := wr .i64 (Int.add a b)
def mulI (a b : Int) : Int := wr .i64 (Int.mul a b)
theorem bin_sub64 {P : Program} {t : TypeId} (a b : Int) : binA P .sub t (iv a) (iv b) = some (iv (subI a b)) := rfl
theorem bin_add64 {P : Program} {t : TypeId} (a b : Int) : binA P .add t (iv a) (iv b) = some (iv (addI a b)) := rfl
theorem bin_mul64 {P : Program} {t : TypeId} (a b : Int) : binA P .mul t (iv a) (iv b) = some (iv (mulI a b)) := rfl
theorem bin_gtr64 {P : Program} {t : TypeId} (a b : Int) : binA P .gtr t (iv a) (iv b) = some (.bool (iLt b a)) := rfl
theorem bin_lss64 {P : Program} {t : TypeId} (a b : Int) : binA P .lss t (iv a) (iv b) = some (.bool (iLt a b)) := rfl
theorem bin_eql64 {P : Program} {t : TypeId} (a b : Int) : binA P .eql t (iv a) (iv b) = some (.bool (iEq a b)) := rfl
theorem bin_geqU {P : Program} {t : TypeId} (a b : Int) : binA P .geq t (uv a) (uv b) = some (.bool (iLe b a)) := rfl
theorem bin_leqU {P : Program} {t : TypeId} (a b : Int) : binA P .leq t (uv a) (uv b) = some (.bool (iLe a b)) := rfl
theorem inB_lo {a b c : Int} (h : inB a b c = true) : iLe b a = true := by
  have h' : (iLe b a && iLe a c) = true := h
  rw [Bool.and_eq_true] at h'
  exact h'.1
structure Cfg where
  c0 : Int
  c1 : Int
  c2 : Int
  c3 : Int
  c4 : Int
  c5 : Int
  c6 : Int
  c7 : Int
  c8 : Int
  c9 : Int
  c10 : Int
  c11 : Int
  c12 : Int
def Cfg.l (c : Cfg) : List AV := [iv c.c0, iv c.c1, iv c.c2, iv c.c3, iv c.c4, iv c.c5, iv c.c6, iv c.c7, iv c.c8, iv c.c9, iv c.c10, iv c.c11, uv c.c12]
def mayA (c : Cfg) : Bool := and (inB c.c0 1 7) (and (iLt 0 c.c1) (and (iEq (andI c.c1 1) 0) (and (iLt c.c1 (shlI 2 c.c0)) (and (inB c.c2 2 1000) (and (inB c.c3 c.c2 2000) (inB c.c4 1 (subI c.c2 1)))))))
def mayC (c : Cfg) : Bool := and (inB c.c5 4 1024) (and (inB c.c6 64 16384) (and (inB c.c7 0 1048576) (and (inB c.c8 1 256) (inB c.c9 1 32))))
def mayD (c : Cfg) : Bool := and (mayA c) (and (mayC c) (and (inB c.c10 1 64) (and (inB c.c11 1 16) (and (iLe 1 c.c12) (iLe c.c12 72057594037927935)))))
/-- The cells of a variable that has just been made. -/
theorem load_new {H : AH} (hroom : H.nx < mH) (s : Bool) (z : Nat) (l : List AV) (n i : Nat) : load1 ⟨(H.grown (.cells s z l)).bl, n⟩ H.nx i = l[i]? := by
  have h : (⟨(H.grown (.cells s z l)).bl, n⟩ : AH).get H.nx = some (.cells s z l) := by
    show (H.grown (.cells s z l)).get H.nx = _
    rw [AH.get_grown H _ _ hroom hroom, if_pos rfl]
  unfold load1
  rw [h]
  show nth l i = _
  rw [nth_eq]
section
variable {tbl : FuncId → List AV → Option (AV × Nat)} {ds : List (Option Tmp)} {f : Fr} {H H2 : AH} {l : List S3} {t : Nat} {op : Op} {g : Option (Nat × Bool)} {v : AV} {res : Option (Fr × AH)}
theorem knil : seqK Tryz.prog tbl ds [] f H = some (f, H) := rfl
@[reducible] def notCall : Op → Bool
  | .call _ => false
  | _ => true
theorem kval (_hc : notCall op = true) (hg : gdOk ds f g = true) (hop : opA Tryz.prog f H op = some (.val v H2)) (hk : kdPR v op (kindOf Tryz.prog op) = true) (ht : t < f.nt) (h : seqK Tryz.prog tbl ds l (f.putT t v) H = res) : seqK Tryz.prog tbl ds ((some t, op, g) :: l) f H = res := by
  rw [← h]
  simp only [seqK, hg, hop, hk, Fr.put_some ht]
theorem kskip (hg : gdOk ds f g = false) (ht : t < f.nt) (h : seqK Tryz.prog tbl ds l (f.putT t Ev.und) H = res) : seqK Tryz.prog tbl ds ((some t, op, g) :: l) f H = res := by
  rw [← h]
  simp only [seqK, hg, Fr.put_some ht]
@[reducible] def isCall : Op → Bool
  | .call _ => true
  | _ => false
theorem kcall {fn : FuncId} {args : List AV} {d : Nat} (_hc : isCall op = true) (hg : gdOk ds f g = true) (hop : opA Tryz.prog f H op = some (.enter fn args)) (hb : tbl fn args = some (v, d)) (hr : H.nx + d < mH) (ht : t < f.nt) (h : seqK Tryz.prog tbl ds l (f.putT t v) ⟨H.bl, H.nx + d⟩ = res) :
    seqK Tryz.prog tbl ds ((some t, op, g) :: l) f H = res := by
  rw [← h]
  have hr' : Nat.ble (Nat.succ (H.nx + d)) mH = true := Nat.ble_eq_true_of_le hr
  simp only [seqK, hg, hop, hb, hr', Fr.put_some ht]
end
set_option maxRecDepth 100000 in
set_option maxHeartbeats 2000000 in
theorem may_code {c : Cfg} {H : AH} (hroom : H.nx + 1 < mH) : CallS Tryz.prog 20 [.agg c.l] H (.bool (mayD c)) ⟨H.bl, H.nx + 1⟩ := by
  obtain ⟨hn, hr, r0, r1, r2, r3, hb, e0, g1, e1, e2, e3⟩ := sh20
  obtain ⟨t, ht⟩ : ∃ t, t = (H.grown (.cells false 0 c.l)).bl := ⟨_, rfl⟩
  have ld : ∀ n i, load1 ⟨t, n⟩ H.nx i = c.l[i]? := fun n i => by rw [ht]; exact load_new (by omega) _ _ _ n i
  have htb : PureOk Tryz.prog (tadd 31 inT fun _ _ => none) := pure_add in_ok pure_none
  have hfn := fn_codeS (args := [.agg c.l]) (H := H) (H' := ⟨t, H.nx + 1⟩) (v := .bool (mayD c)) plain Tryz.func20 hb (by rw [hn]; omega) (by rw [hn]; simp) fun f hdf hrd hnt hget => ?_
  · refine hfn.2.keep rfl fun b x hb1 hb2 hx => ?_
    have : (H.grown (.cells false 0 c.l)).get b = some x := by
      rw [AH.get_grown H _ _ (by omega) hb2, if_neg (by omega)]
      exact hx
    rw [ht]
    exact this
  have hnt : f.nt = 94 := hnt.trans hn
  have a0 : f.get 0 = .agg c.l := hget 0
  have hroomT : H.room = true := room_of (by omega)
  have s0 : ∃ f1, seqS Tryz.prog (r0.toList.map strip) f H = some (f1, ⟨t, H.nx + 1⟩) ∧ f1.get 1 = .ptr H.nx 0 ∧ f1.nt = 94 ∧ f1.df = [] := by
    rw [e0]
    have hbox : newVarA H (some (.agg c.l)) = some (.val (.ptr H.nx 0) ⟨t, H.nx + 1⟩) := by
      show newA H (.cells false 0 c.l) (fun b => .ptr b 0) = _
      unfold newA
      rw [hroomT, ht]
      rfl
    simp only [seqS, opA, aev, a0, hbox, convZ, conv, vA, Fr.put_some, hnt, Fr.nt_putT, Nat.reduceLT]
    exact ⟨_, rfl, by simp [Fr.get_putT], by simp [Fr.nt_putT, hnt], by simp [Fr.df_putT, hdf]⟩
  obtain ⟨f1, q0, p1, n1, d1⟩ := s0
  have s1 : ∃ f2, seqK Tryz.prog (tadd 31 inT fun _ _ => none) ((r1.toList.map strip).map (·.1)) (r1.toList.map strip) f1 ⟨t, H.nx + 1⟩ = some (f2, ⟨t, H.nx + 1⟩) ∧ f2.get 3 = .bool (mayA c) ∧ f2.get 1 = .ptr H.nx 0 ∧ f2.nt = 94 ∧ f2.df = [] := by
    rw [e1]
    unfold mayA
    simp only [List.map_cons, List.map_nil]
    cases k0 : inB c.c0 1 7
    · refine ⟨?_, ?_, ?_⟩
      rotate_left
      · skip
        repeat (first
          | (apply kval
             · with_reducible exact rfl
             · simp only [gdOk, boolIs_bool, bEq, Fr.get_putT, Nat.reduceLT, Nat.reduceEqDiff, if_true, if_false, List.getElem?_cons_succ, List.getElem?_cons_zero, Option.bind_some, id, not, k0, p1]
             · simp only [opA, aev, convZ, conv, vA, opBin, opPick, opUn, opLoad, loadVarA, agg3, agg22, opFieldAddr, fld24, ptrAdd, Nat.add_eq, Nat.zero_add, ld, Cfg.l, List.getElem?_cons_succ, List.getElem?_cons_zero, Fr.get_putT, Nat.reduceLT, Nat.reduceEqDiff, if_true, if_false, bin_gtr64, bin_and64, bin_eql64, bin_lss64, bin_sub64, bin_add64, bin_mul64, bin_geqU, bin_leqU, bin_geq, bin_leq, k0, p1]; with_reducible exact rfl
             · simp only [kdPR, kindOf, isLoad, abeq_int, abeq_bool, Bool.and_true, Bool.and_self]
             · simp only [Fr.nt_putT, n1]; decide)
          | (apply kskip
             · simp only [gdOk, boolIs_bool, bEq, Fr.get_putT, Nat.reduceLT, Nat.reduceEqDiff, if_true, if_false, List.getElem?_cons_succ, List.getElem?_cons_zero, Option.bind_some, id, not, k0, p1]
             · simp only [Fr.nt_putT, n1]; decide)
          | (apply kcall
             · with_reducible exact rfl
             · simp only [gdOk, boolIs_bool, bEq, Fr.get_putT, Nat.reduceLT, Nat.reduceEqDiff, if_true, if_false, List.getElem?_cons_succ, List.getElem?_cons_zero, Option.bind_some, id, not, k0, p1]
             · simp only [opA, aev, aevs, consO, convZ, conv, opCall, opCallee, invokeA, app, Fr.get_putT, Nat.reduceLT, Nat.reduceEqDiff, if_true, if_false, k0, p1]; exact rfl
             · rw [tadd_same]; exact inT_eq _ _ _
             · simpa using hroom
             · simp only [Fr.nt_putT, n1]; decide))
        exact knil
      · exact ⟨by simp only [Fr.get_putT, Nat.reduceLT, Nat.reduceEqDiff, if_true, if_false]; rfl, by simp only [Fr.get_putT, Nat.reduceLT, Nat.reduceEqDiff, if_true, if_false, p1], by simp only [Fr.nt_putT, n1], by simp only [Fr.df_putT, d1]⟩
    · have hs : iLe 1 c.c0 = true := inB_lo k0
      cases k1 : iLt 0 c.c1
      · refine ⟨?_, ?_, ?_⟩
        rotate_left
        · skip
          repeat (first
            | (apply kval
               · with_reducible exact rfl
               · simp only [gdOk, boolIs_bool, bEq, Fr.get_putT, Nat.reduceLT, Nat.reduceEqDiff, if_true, if_false, List.getElem?_cons_succ, List.getElem?_cons_zero, Option.bind_some, id, not, k0, k1, p1, bin_shl64 _ _ hs]
               · simp only [opA, aev, convZ, conv, vA, opBin, opPick, opUn, opLoad, loadVarA, agg3, agg22, opFieldAddr, fld24, ptrAdd, Nat.add_eq, Nat.zero_add, ld, Cfg.l, List.getElem?_cons_succ, List.getElem?_cons_zero, Fr.get_putT, Nat.reduceLT, Nat.reduceEqDiff, if_true, if_false, bin_gtr64, bin_and64, bin_eql64, bin_lss64, bin_sub64, bin_add64, bin_mul64, bin_geqU, bin_leqU, bin_geq, bin_leq, k0, k1, p1, bin_shl64 _ _ hs]; with_reducible exact rfl
               · simp only [kdPR, kindOf, isLoad, abeq_int, abeq_bool, Bool.and_true, Bool.and_self]
               · simp only [Fr.nt_putT, n1]; decide)
            | (apply kskip
               · simp only [gdOk, boolIs_bool, bEq, Fr.get_putT, Nat.reduceLT, Nat.reduceEqDiff, if_true, if_false, List.getElem?_cons_succ, List.getElem?_cons_zero, Option.bind_some, id, not, k0, k1, p1, bin_shl64 _ _ hs]
               · simp only [Fr.nt_putT, n1]; decide)
            | (apply kcall
               · with_reducible exact rfl
               · simp only [gdOk, boolIs_bool, bEq, Fr.get_putT, Nat.reduceLT, Nat.reduceEqDiff, if_true, if_false, List.getElem?_cons_succ, List.getElem?_cons_zero, Option.bind_some, id, not, k0, k1, p1, bin_shl64 _ _ hs]
               · simp only [opA, aev, aevs, consO, convZ, conv, opCall, opCallee, invokeA, app, Fr.get_putT, Nat.reduceLT, Nat.reduceEqDiff, if_true, if_false, k0, k1, p1, bin_shl64 _ _ hs]; exact rfl
               · rw [tadd_same]; exact inT_eq _ _ _
               · simpa using hroom
               · simp only [Fr.nt_putT, n1]; decide))
          exact knil
        · exact ⟨by simp only [Fr.get_putT, Nat.reduceLT, Nat.reduceEqDiff, if_true, if_false]; rfl, by simp only [Fr.get_putT, Nat.reduceLT, Nat.reduceEqDiff, if_true, if_false, p1], by simp only [Fr.nt_putT, n1], by simp only [Fr.df_putT, d1]⟩
      · skip
        cases k2 : iEq (andI c.c1 1) 0
        · refine ⟨?_, ?_, ?_⟩
          rotate_left
          · skip
            repeat (first
              | (apply kval
                 · with_reducible exact rfl
                 · simp only [gdOk, boolIs_bool, bEq, Fr.get_putT, Nat.reduceLT, Nat.reduceEqDiff, if_true, if_false, List.getElem?_cons_succ, List.getElem?_cons_zero, Option.bind_some, id, not, k0, k1, k2, p1, bin_shl64 _ _ hs]
                 · simp only [opA, aev, convZ, conv, vA, opBin, opPick, opUn, opLoad, loadVarA, agg3, agg22, opFieldAddr, fld24, ptrAdd, Nat.add_eq, Nat.zero_add, ld, Cfg.l, List.getElem?_cons_succ, List.getElem?_cons_zero, Fr.get_putT, Nat.reduceLT, Nat.reduceEqDiff, if_true, if_false, bin_gtr64, bin_and64, bin_eql64, bin_lss64, bin_sub64, bin_add64, bin_mul64, bin_geqU, bin_leqU, bin_geq, bin_leq, k0, k1, k2, p1, bin_shl64 _ _ hs]; with_reducible exact rfl
                 · simp only [kdPR, kindOf, isLoad, abeq_int, abeq_bool, Bool.and_true, Bool.and_self]
                 · simp only [Fr.nt_putT, n1]; decide)
              | (apply kskip
                 · simp only [gdOk, boolIs_bool, bEq, Fr.get_putT, Nat.reduceLT, Nat.reduceEqDiff, if_true, if_false, List.getElem?_cons_succ, List.getElem?_cons_zero, Option.bind_some, id, not, k0, k1, k2, p1, bin_shl64 _ _ hs]
                 · simp only [Fr.nt_putT, n1]; decide)
              | (apply kcall
                 · with_reducible exact rfl
                 · simp only [gdOk, boolIs_bool, bEq, Fr.get_putT, Nat.reduceLT, Nat.reduceEqDiff, if_true, if_false, List.getElem?_cons_succ, List.getElem?_cons_zero, Option.bind_some, id, not, k0, k1, k2, p1, bin_shl64 _ _ hs]
                 · simp only [opA, aev, aevs, consO, convZ, conv, opCall, opCallee, invokeA, app, Fr.get_putT, Nat.reduceLT, Nat.reduceEqDiff, if_true, if_false, k0, k1, k2, p1, bin_shl64 _ _ hs]; exact rfl
                 · rw [tadd_same]; exact inT_eq _ _ _
                 · simpa using hroom
                 · simp only [Fr.nt_putT, n1]; decide))
            exact knil
          · exact ⟨by simp only [Fr.get_putT, Nat.reduceLT, Nat.reduceEqDiff, if_true, if_false]; rfl, by simp only [Fr.get_putT, Nat.reduceLT, Nat.reduceEqDiff, if_true, if_false, p1], by simp only [Fr.nt_putT, n1], by simp only [Fr.df_putT, d1]⟩
        · skip
          cases k3 : iLt c.c1 (shlI 2 c.c0)
          · refine ⟨?_, ?_, ?_⟩
            rotate_left
            · skip
              repeat (first
                | (apply kval
                   · with_reducible exact rfl
                   · simp only [gdOk, boolIs_bool, bEq, Fr.get_putT, Nat.reduceLT, Nat.reduceEqDiff, if_true, if_false, List.getElem?_cons_succ, List.getElem?_cons_zero, Option.bind_some, id, not, k0, k1, k2, k3, p1, bin_shl64 _ _ hs]
                   · simp only [opA, aev, convZ, conv, vA, opBin, opPick, opUn, opLoad, loadVarA, agg3, agg22, opFieldAddr, fld24, ptrAdd, Nat.add_eq, Nat.zero_add, ld, Cfg.l, List.getElem?_cons_succ, List.getElem?_cons_zero, Fr.get_putT, Nat.reduceLT, Nat.reduceEqDiff, if_true, if_false, bin_gtr64, bin_and64, bin_eql64, bin_lss64, bin_sub64, bin_add64, bin_mul64, bin_geqU, bin_leqU, bin_geq, bin_leq, k0, k1, k2, k3, p1, bin_shl64 _ _ hs]; with_reducible exact rfl
                   · simp only [kdPR, kindOf, isLoad, abeq_int, abeq_bool, Bool.and_true, Bool.and_self]
                   · simp only [Fr.nt_putT, n1]; decide)
                | (apply kskip
                   · simp only [gdOk, boolIs_bool, bEq, Fr.get_putT, Nat.reduceLT, Nat.reduceEqDiff, if_true, if_false, List.getElem?_cons_succ, List.getElem?_cons_zero, Option.bind_some, id, not, k0, k1, k2, k3, p1, bin_shl64 _ _ hs]
                   · simp only [Fr.nt_putT, n1]; decide)
                | (apply kcall
                   · with_reducible exact rfl
                   · simp only [gdOk, boolIs_bool, bEq, Fr.get_putT, Nat.reduceLT, Nat.reduceEqDiff, if_true, if_false, List.getElem?_cons_succ, List.getElem?_cons_zero, Option.bind_some, id, not, k0, k1, k2, k3, p1, bin_shl64 _ _ hs]
                   · simp only [opA, aev, aevs, consO, convZ, conv, opCall, opCallee, invokeA, app, Fr.get_putT, Nat.reduceLT, Nat.reduceEqDiff, if_true, if_false, k0, k1, k2, k3, p1, bin_shl64 _ _ hs]; exact rfl
                   · rw [tadd_same]; exact inT_eq _ _ _
                   · simpa using hroom
                   · simp only [Fr.nt_putT, n1]; decide))
              exact knil
            · exact ⟨by simp only [Fr.get_putT, Nat.reduceLT, Nat.reduceEqDiff, if_true, if_false]; rfl, by simp only [Fr.get_putT, Nat.reduceLT, Nat.reduceEqDiff, if_true, if_false, p1], by simp only [Fr.nt_putT, n1], by simp only [Fr.df_putT, d1]⟩
          · skip
            cases k4 : inB c.c2 2 1000
            · refine ⟨?_, ?_, ?_⟩
              rotate_left
              · skip
                repeat (first
                  | (apply kval
                     · with_reducible exact rfl
                     · simp only [gdOk, boolIs_bool, bEq, Fr.get_putT, Nat.reduceLT, Nat.reduceEqDiff, if_true, if_false, List.getElem?_cons_succ, List.getElem?_cons_zero, Option.bind_some, id, not, k0, k1, k2, k3, k4, p1, bin_shl64 _ _ hs]
                     · simp only [opA, aev, convZ, conv, vA, opBin, opPick, opUn, opLoad, loadVarA, agg3, agg22, opFieldAddr, fld24, ptrAdd, Nat.add_eq, Nat.zero_add, ld, Cfg.l, List.getElem?_cons_succ, List.getElem?_cons_zero, Fr.get_putT, Nat.reduceLT, Nat.reduceEqDiff, if_true, if_false, bin_gtr64, bin_and64, bin_eql64, bin_lss64, bin_sub64, bin_add64, bin_mul64, bin_geqU, bin_leqU, bin_geq, bin_leq, k0, k1, k2, k3, k4, p1, bin_shl64 _ _ hs]; with_reducible exact rfl
                     · simp only [kdPR, kindOf, isLoad, abeq_int, abeq_bool, Bool.and_true, Bool.and_self]
                     · simp only [Fr.nt_putT, n1]; decide)
                  | (apply kskip
                     · simp only [gdOk, boolIs_bool, bEq, Fr.get_putT, Nat.reduceLT, Nat.reduceEqDiff, if_true, if_false, List.getElem?_cons_succ, List.getElem?_cons_zero, Option.bind_some, id, not, k0, k1, k2, k3, k4, p1, bin_shl64 _ _ hs]
                     · simp only [Fr.nt_putT, n1]; decide)
                  | (apply kcall
                     · with_reducible exact rfl
                     · simp only [gdOk, boolIs_bool, bEq, Fr.get_putT, Nat.reduceLT, Nat.reduceEqDiff, if_true, if_false, List.getElem?_cons_succ, List.getElem?_cons_zero, Option.bind_some, id, not, k0, k1, k2, k3, k4, p1, bin_shl64 _ _ hs]
                     · simp only [opA, aev, aevs, consO, convZ, conv, opCall, opCallee, invokeA, app, Fr.get_putT, Nat.reduceLT, Nat.reduceEqDiff, if_true, if_false, k0, k1, k2, k3, k4, p1, bin_shl64 _ _ hs]; exact rfl
                     · rw [tadd_same]; exact inT_eq _ _ _
                     · simpa using hroom
                     · simp only [Fr.nt_putT, n1]; decide))
                exact knil
              · exact ⟨by simp only [Fr.get_putT, Nat.reduceLT, Nat.reduceEqDiff, if_true, if_false]; rfl, by simp only [Fr.get_putT, Nat.reduceLT, Nat.reduceEqDiff, if_true, if_false, p1], by simp only [Fr.nt_putT, n1], by simp only [Fr.df_putT, d1]⟩
            · skip
              cases k5 : inB c.c3 c.c2 2000
              · refine ⟨?_, ?_, ?_⟩
                rotate_left
                · skip
                  repeat (first
                    | (apply kval
                       · with_reducible exact rfl
                       · simp only [gdOk, boolIs_bool, bEq, Fr.get_putT, Nat.reduceLT, Nat.reduceEqDiff, if_true, if_false, List.getElem?_cons_succ, List.getElem?_cons_zero, Option.bind_some, id, not, k0, k1, k2, k3, k4, k5, p1, bin_shl64 _ _ hs]
                       · simp only [opA, aev, convZ, conv, vA, opBin, opPick, opUn, opLoad, loadVarA, agg3, agg22, opFieldAddr, fld24, ptrAdd, Nat.add_eq, Nat.zero_add, ld, Cfg.l, List.getElem?_cons_succ, List.getElem?_cons_zero, Fr.get_putT, Nat.reduceLT, Nat.reduceEqDiff, if_true, if_false, bin_gtr64, bin_and64, bin_eql64, bin_lss64, bin_sub64, bin_add64, bin_mul64, bin_geqU, bin_leqU, bin_geq, bin_leq, k0, k1, k2, k3, k4, k5, p1, bin_shl64 _ _ hs]; with_reducible exact rfl
                       · simp only [kdPR, kindOf, isLoad, abeq_int, abeq_bool, Bool.and_true, Bool.and_self]
                       · simp only [Fr.nt_putT, n1]; decide)
                    | (apply kskip
                       · simp only [gdOk, boolIs_bool, bEq, Fr.get_putT, Nat.reduceLT, Nat.reduceEqDiff, if_true, if_false, List.getElem?_cons_succ, List.getElem?_cons_zero, Option.bind_some, id, not, k0, k1, k2, k3, k4, k5, p1, bin_shl64 _ _ hs]
                       · simp only [Fr.nt_putT, n1]; decide)
                    | (apply kcall
                       · with_reducible exact rfl
                       · simp only [gdOk, boolIs_bool, bEq, Fr.get_putT, Nat.reduceLT, Nat.reduceEqDiff, if_true, if_false, List.getElem?_cons_succ, List.getElem?_cons_zero, Option.bind_some, id, not, k0, k1, k2, k3, k4, k5, p1, bin_shl64 _ _ hs]
                       · simp only [opA, aev, aevs, consO, convZ, conv, opCall, opCallee, invokeA, app, Fr.get_putT, Nat.reduceLT, Nat.reduceEqDiff, if_true, if_false, k0, k1, k2, k3, k4, k5, p1, bin_shl64 _ _ hs]; exact rfl
                       · rw [tadd_same]; exact inT_eq _ _ _
                       · simpa using hroom
                       · simp only [Fr.nt_putT, n1]; decide))
                  exact knil
                · exact ⟨by simp only [Fr.get_putT, Nat.reduceLT, Nat.reduceEqDiff, if_true, if_false]; rfl, by simp only [Fr.get_putT, Nat.reduceLT, Nat.reduceEqDiff, if_true, if_false, p1], by simp only [Fr.nt_putT, n1], by simp only [Fr.df_putT, d1]⟩
              · skip
                refine ⟨?_, ?_, ?_⟩
                rotate_left
                · skip
                  repeat (first
                    | (apply kval
                       · with_reducible exact rfl
                       · simp only [gdOk, boolIs_bool, bEq, Fr.get_putT, Nat.reduceLT, Nat.reduceEqDiff, if_true, if_false, List.getElem?_cons_succ, List.getElem?_cons_zero, Option.bind_some, id, not, k0, k1, k2, k3, k4, k5, p1, bin_shl64 _ _ hs]
                       · simp only [opA, aev, convZ, conv, vA, opBin, opPick, opUn, opLoad, loadVarA, agg3, agg22, opFieldAddr, fld24, ptrAdd, Nat.add_eq, Nat.zero_add, ld, Cfg.l, List.getElem?_cons_succ, List.getElem?_cons_zero, Fr.get_putT, Nat.reduceLT, Nat.reduceEqDiff, if_true, if_false, bin_gtr64, bin_and64, bin_eql64, bin_lss64, bin_sub64, bin_add64, bin_mul64, bin_geqU, bin_leqU, bin_geq, bin_leq, k0, k1, k2, k3, k4, k5, p1, bin_shl64 _ _ hs]; with_reducible exact rfl
                       · simp only [kdPR, kindOf, isLoad, abeq_int, abeq_bool, Bool.and_true, Bool.and_self]
                       · simp only [Fr.nt_putT, n1]; decide)
                    | (apply kskip
                       · simp only [gdOk, boolIs_bool, bEq, Fr.get_putT, Nat.reduceLT, Nat.reduceEqDiff, if_true, if_false, List.getElem?_cons_succ, List.getElem?_cons_zero, Option.bind_some, id, not, k0, k1, k2, k3, k4, k5, p1, bin_shl64 _ _ hs]
                       · simp only [Fr.nt_putT, n1]; decide)
                    | (apply kcall
                       · with_reducible exact rfl
                       · simp only [gdOk, boolIs_bool, bEq, Fr.get_putT, Nat.reduceLT, Nat.reduceEqDiff, if_true, if_false, List.getElem?_cons_succ, List.getElem?_cons_zero, Option.bind_some, id, not, k0, k1, k2, k3, k4, k5, p1, bin_shl64 _ _ hs]
                       · simp only [opA, aev, aevs, consO, convZ, conv, opCall, opCallee, invokeA, app, Fr.get_putT, Nat.reduceLT, Nat.reduceEqDiff, if_true, if_false, k0, k1, k2, k3, k4, k5, p1, bin_shl64 _ _ hs]; exact rfl
                       · rw [tadd_same]; exact inT_eq _ _ _
                       · simpa using hroom
                       · simp only [Fr.nt_putT, n1]; decide))
                  exact knil
                · exact ⟨by simp only [Fr.get_putT, Nat.reduceLT, Nat.reduceEqDiff, if_true, if_false]; rfl, by simp only [Fr.get_putT, Nat.reduceLT, Nat.reduceEqDiff, if_true, if_false, p1], by simp only [Fr.nt_putT, n1], by simp only [Fr.df_putT, d1]⟩
  obtain ⟨f2, q1, p3, p1', n2, d2⟩ := s1
  have s2 : ∃ f3, seqK Tryz.prog (tadd 31 inT fun _ _ => none) ((r2.toList.map strip).map (·.1)) (r2.toList.map strip) f2 ⟨t, H.nx + 1⟩ = some (f3, ⟨t, H.nx + 1⟩) ∧ f3.get 4 = .bool (mayC c) ∧ f3.get 3 = .bool (mayA c) ∧ f3.get 1 = .ptr H.nx 0 ∧ f3.nt = 94 ∧ f3.df = [] := by
    rw [e2]
    unfold mayC
    simp only [List.map_cons, List.map_nil]
    cases k0 : inB c.c5 4 1024
    · refine ⟨?_, ?_, ?_⟩
      rotate_left
      · skip
        repeat (first
          | (apply kval
             · with_reducible exact rfl
             · simp only [gdOk, boolIs_bool, bEq, Fr.get_putT, Nat.reduceLT, Nat.reduceEqDiff, if_true, if_false, List.getElem?_cons_succ, List.getElem?_cons_zero, Option.bind_some, id, not, k0, p1']
             · simp only [opA, aev, convZ, conv, vA, opBin, opPick, opUn, opLoad, loadVarA, agg3, agg22, opFieldAddr, fld24, ptrAdd, Nat.add_eq, Nat.zero_add, ld, Cfg.l, List.getElem?_cons_succ, List.getElem?_cons_zero, Fr.get_putT, Nat.reduceLT, Nat.reduceEqDiff, if_true, if_false, bin_gtr64, bin_and64, bin_eql64, bin_lss64, bin_sub64, bin_add64, bin_mul64, bin_geqU, bin_leqU, bin_geq, bin_leq, k0, p1']; with_reducible exact rfl
             · simp only [kdPR, kindOf, isLoad, abeq_int, abeq_bool, Bool.and_true, Bool.and_self]
             · simp only [Fr.nt_putT, n2]; decide)
          | (apply kskip
             · simp only [gdOk, boolIs_bool, bEq, Fr.get_putT, Nat.reduceLT, Nat.reduceEqDiff, if_true, if_false, List.getElem?_cons_succ, List.getElem?_cons_zero, Option.bind_some, id, not, k0, p1']
             · simp only [Fr.nt_putT, n2]; decide)
          | (apply kcall
             · with_reducible exact rfl
             · simp only [gdOk, boolIs_bool, bEq, Fr.get_putT, Nat.reduceLT, Nat.reduceEqDiff, if_true, if_false, List.getElem?_cons_succ, List.getElem?_cons_zero, Option.bind_some, id, not, k0, p1']
             · simp only [opA, aev, aevs, consO, convZ, conv, opCall, opCallee, invokeA, app, Fr.get_putT, Nat.reduceLT, Nat.reduceEqDiff, if_true, if_false, k0, p1']; exact rfl
             · rw [tadd_same]; exact inT_eq _ _ _
             · simpa using hroom
             · simp only [Fr.nt_putT, n2]; decide))
        exact knil
      · exact ⟨by simp only [Fr.get_putT, Nat.reduceLT, Nat.reduceEqDiff, if_true, if_false]; rfl, by simp only [Fr.get_putT, Nat.reduceLT, Nat.reduceEqDiff, if_true, if_false, p3], by simp only [Fr.get_putT, Nat.reduceLT, Nat.reduceEqDiff, if_true, if_false, p1'], by simp only [Fr.nt_putT, n2], by simp only [Fr.df_putT, d2]⟩
    · skip
      cases k1 : inB c.c6 64 16384
      · refine ⟨?_, ?_, ?_⟩
        rotate_left
        · skip
          repeat (first
            | (apply kval
               · with_reducible exact rfl
               · simp only [gdOk, boolIs_bool, bEq, Fr.get_putT, Nat.reduceLT, Nat.reduceEqDiff, if_true, if_false, List.getElem?_cons_succ, List.getElem?_cons_zero, Option.bind_some, id, not, k0, k1, p1']
               · simp only [opA, aev, convZ, conv, vA, opBin, opPick, opUn, opLoad, loadVarA, agg3, agg22, opFieldAddr, fld24, ptrAdd, Nat.add_eq, Nat.zero_add, ld, Cfg.l, List.getElem?_cons_succ, List.getElem?_cons_zero, Fr.get_putT, Nat.reduceLT, Nat.reduceEqDiff, if_true, if_false, bin_gtr64, bin_and64, bin_eql64, bin_lss64, bin_sub64, bin_add64, bin_mul64, bin_geqU, bin_leqU, bin_geq, bin_leq, k0, k1, p1']; with_reducible exact rfl
               · simp only [kdPR, kindOf, isLoad, abeq_int, abeq_bool, Bool.and_true, Bool.and_self]
               · simp only [Fr.nt_putT, n2]; decide)
            | (apply kskip
               · simp only [gdOk, boolIs_bool, bEq, Fr.get_putT, Nat.reduceLT, Nat.reduceEqDiff, if_true, if_false, List.getElem?_cons_succ, List.getElem?_cons_zero, Option.bind_some, id, not, k0, k1, p1']
               · simp only [Fr.nt_putT, n2]; decide)
            | (apply kcall
               · with_reducible exact rfl
               · simp only [gdOk, boolIs_bool, bEq, Fr.get_putT, Nat.reduceLT, Nat.reduceEqDiff, if_true, if_false, List.getElem?_cons_succ, List.getElem?_cons_zero, Option.bind_some, id, not, k0, k1, p1']
               · simp only [opA, aev, aevs, consO, convZ, conv, opCall, opCallee, invokeA, app, Fr.get_putT, Nat.reduceLT, Nat.reduceEqDiff, if_true, if_false, k0, k1, p1']; exact rfl
               · rw [tadd_same]; exact inT_eq _ _ _
               · simpa using hroom
               · simp only [Fr.nt_putT, n2]; decide))
          exact knil
        · exact ⟨by simp only [Fr.get_putT, Nat.reduceLT, Nat.reduceEqDiff, if_true, if_false]; rfl, by simp only [Fr.get_putT, Nat.reduceLT, Nat.reduceEqDiff, if_true, if_false, p3], by simp only [Fr.get_putT, Nat.reduceLT, Nat.reduceEqDiff, if_true, if_false, p1'], by simp only [Fr.nt_putT, n2], by simp only [Fr.df_putT, d2]⟩
      · skip
        cases k2 : inB c.c7 0 1048576
        · refine ⟨?_, ?_, ?_⟩
          rotate_left
          · skip
            repeat (first
              | (apply kval
                 · with_reducible exact rfl
                 · simp only [gdOk, boolIs_bool, bEq, Fr.get_putT, Nat.reduceLT, Nat.reduceEqDiff, if_true, if_false, List.getElem?_cons_succ, List.getElem?_cons_zero, Option.bind_some, id, not, k0, k1, k2, p1']
                 · simp only [opA, aev, convZ, conv, vA, opBin, opPick, opUn, opLoad, loadVarA, agg3, agg22, opFieldAddr, fld24, ptrAdd, Nat.add_eq, Nat.zero_add, ld, Cfg.l, List.getElem?_cons_succ, List.getElem?_cons_zero, Fr.get_putT, Nat.reduceLT, Nat.reduceEqDiff, if_true, if_false, bin_gtr64, bin_and64, bin_eql64, bin_lss64, bin_sub64, bin_add64, bin_mul64, bin_geqU, bin_leqU, bin_geq, bin_leq, k0, k1, k2, p1']; with_reducible exact rfl
                 · simp only [kdPR, kindOf, isLoad, abeq_int, abeq_bool, Bool.and_true, Bool.and_self]
                 · simp only [Fr.nt_putT, n2]; decide)
              | (apply kskip
                 · simp only [gdOk, boolIs_bool, bEq, Fr.get_putT, Nat.reduceLT, Nat.reduceEqDiff, if_true, if_false, List.getElem?_cons_succ, List.getElem?_cons_zero, Option.bind_some, id, not, k0, k1, k2, p1']
                 · simp only [Fr.nt_putT, n2]; decide)
              | (apply kcall
                 · with_reducible exact rfl
                 · simp only [gdOk, boolIs_bool, bEq, Fr.get_putT, Nat.reduceLT, Nat.reduceEqDiff, if_true, if_false, List.getElem?_cons_succ, List.getElem?_cons_zero, Option.bind_some, id, not, k0, k1, k2, p1']
                 · simp only [opA, aev, aevs, consO, convZ, conv, opCall, opCallee, invokeA, app, Fr.get_putT, Nat.reduceLT, Nat.reduceEqDiff, if_true, if_false, k0, k1, k2, p1']; exact rfl
                 · rw [tadd_same]; exact inT_eq _ _ _
                 · simpa using hroom
                 · simp only [Fr.nt_putT, n2]; decide))
            exact knil
          · exact ⟨by simp only [Fr.get_putT, Nat.reduceLT, Nat.reduceEqDiff, if_true, if_false]; rfl, by simp only [Fr.get_putT, Nat.reduceLT, Nat.reduceEqDiff, if_true, if_false, p3], by simp only [Fr.get_putT, Nat.reduceLT, Nat.reduceEqDiff, if_true, if_false, p1'], by simp only [Fr.nt_putT, n2], by simp only [Fr.df_putT, d2]⟩
        · skip
          cases k3 : inB c.c8 1 256
          · refine ⟨?_, ?_, ?_⟩
            rotate_left
            · skip
              repeat (first
                | (apply kval
                   · with_reducible exact rfl
                   · simp only [gdOk, boolIs_bool, bEq, Fr.get_putT, Nat.reduceLT, Nat.reduceEqDiff, if_true, if_false, List.getElem?_cons_succ, List.getElem?_cons_zero, Option.bind_some, id, not, k0, k1, k2, k3, p1']
                   · simp only [opA, aev, convZ, conv, vA, opBin, opPick, opUn, opLoad, loadVarA, agg3, agg22, opFieldAddr, fld24, ptrAdd, Nat.add_eq, Nat.zero_add, ld, Cfg.l, List.getElem?_cons_succ, List.getElem?_cons_zero, Fr.get_putT, Nat.reduceLT, Nat.reduceEqDiff, if_true, if_false, bin_gtr64, bin_and64, bin_eql64, bin_lss64, bin_sub64, bin_add64, bin_mul64, bin_geqU, bin_leqU, bin_geq, bin_leq, k0, k1, k2, k3, p1']; with_reducible exact rfl
                   · simp only [kdPR, kindOf, isLoad, abeq_int, abeq_bool, Bool.and_true, Bool.and_self]
                   · simp only [Fr.nt_putT, n2]; decide)
                | (apply kskip
                   · simp only [gdOk, boolIs_bool, bEq, Fr.get_putT, Nat.reduceLT, Nat.reduceEqDiff, if_true, if_false, List.getElem?_cons_succ, List.getElem?_cons_zero, Option.bind_some, id, not, k0, k1, k2, k3, p1']
                   · simp only [Fr.nt_putT, n2]; decide)
                | (apply kcall
                   · with_reducible exact rfl
                   · simp only [gdOk, boolIs_bool, bEq, Fr.get_putT, Nat.reduceLT, Nat.reduceEqDiff, if_true, if_false, List.getElem?_cons_succ, List.getElem?_cons_zero, Option.bind_some, id, not, k0, k1, k2, k3, p1']
                   · simp only [opA, aev, aevs, consO, convZ, conv, opCall, opCallee, invokeA, app, Fr.get_putT, Nat.reduceLT, Nat.reduceEqDiff, if_true, if_false, k0, k1, k2, k3, p1']; exact rfl
                   · rw [tadd_same]; exact inT_eq _ _ _
                   · simpa using hroom
                   · simp only [Fr.nt_putT, n2]; decide))
              exact knil
            · exact ⟨by simp only [Fr.get_putT, Nat.reduceLT, Nat.reduceEqDiff, if_true, if_false]; rfl, by simp only [Fr.get_putT, Nat.reduceLT, Nat.reduceEqDiff, if_true, if_false, p3], by simp only [Fr.get_putT, Nat.reduceLT, Nat.reduceEqDiff, if_true, if_false, p1'], by simp only [Fr.nt_putT, n2], by simp only [Fr.df_putT, d2]⟩
          · skip
            refine ⟨?_, ?_, ?_⟩
            rotate_left
            · skip
              repeat (first
                | (apply kval
                   · with_reducible exact rfl
                   · simp only [gdOk, boolIs_bool, bEq, Fr.get_putT, Nat.reduceLT, Nat.reduceEqDiff, if_true, if_false, List.getElem?_cons_succ, List.getElem?_cons_zero, Option.bind_some, id, not, k0, k1, k2, k3, p1']
                   · simp only [opA, aev, convZ, conv, vA, opBin, opPick, opUn, opLoad, loadVarA, agg3, agg22, opFieldAddr, fld24, ptrAdd, Nat.add_eq, Nat.zero_add, ld, Cfg.l, List.getElem?_cons_succ, List.getElem?_cons_zero, Fr.get_putT, Nat.reduceLT, Nat.reduceEqDiff, if_true, if_false, bin_gtr64, bin_and64, bin_eql64, bin_lss64, bin_sub64, bin_add64, bin_mul64, bin_geqU, bin_leqU, bin_geq, bin_leq, k0, k1, k2, k3, p1']; with_reducible exact rfl
                   · simp only [kdPR, kindOf, isLoad, abeq_int, abeq_bool, Bool.and_true, Bool.and_self]
                   · simp only [Fr.nt_putT, n2]; decide)
                | (apply kskip
                   · simp only [gdOk, boolIs_bool, bEq, Fr.get_putT, Nat.reduceLT, Nat.reduceEqDiff, if_true, if_false, List.getElem?_cons_succ, List.getElem?_cons_zero, Option.bind_some, id, not, k0, k1, k2, k3, p1']
                   · simp only [Fr.nt_putT, n2]; decide)
                | (apply kcall
                   · with_reducible exact rfl
                   · simp only [gdOk, boolIs_bool, bEq, Fr.get_putT, Nat.reduceLT, Nat.reduceEqDiff, if_true, if_false, List.getElem?_cons_succ, List.getElem?_cons_zero, Option.bind_some, id, not, k0, k1, k2, k3, p1']
                   · simp only [opA, aev, aevs, consO, convZ, conv, opCall, opCallee, invokeA, app, Fr.get_putT, Nat.reduceLT, Nat.reduceEqDiff, if_true, if_false, k0, k1, k2, k3, p1']; exact rfl
                   · rw [tadd_same]; exact inT_eq _ _ _
                   · simpa using hroom
                   · simp only [Fr.nt_putT, n2]; decide))
              exact knil
            · exact ⟨by simp only [Fr.get_putT, Nat.reduceLT, Nat.reduceEqDiff, if_true, if_false]; rfl, by simp only [Fr.get_putT, Nat.reduceLT, Nat.reduceEqDiff, if_true, if_false, p3], by simp only [Fr.get_putT, Nat.reduceLT, Nat.reduceEqDiff, if_true, if_false, p1'], by simp only [Fr.nt_putT, n2], by simp only [Fr.df_putT, d2]⟩
  obtain ⟨f3, q2, p4, p3', p1'', n3, d3⟩ := s2
  have s3 : ∃ f4, seqK Tryz.prog (tadd 31 inT fun _ _ => none) ((r3.toList.map strip).map (·.1)) (r3.toList.map strip) f3 ⟨t, H.nx + 1⟩ = some (f4, ⟨t, H.nx + 1⟩) ∧ f4.get 2 = .bool (mayD c) ∧ f4.df = [] := by
    rw [e3]
    unfold mayD
    simp only [List.map_cons, List.map_nil]
    cases kA : mayA c
    · refine ⟨?_, ?_, ?_⟩
      rotate_left
      · skip
        repeat (first
          | (apply kval
             · with_reducible exact rfl
             · simp only [gdOk, boolIs_bool, bEq, Fr.get_putT, Nat.reduceLT, Nat.reduceEqDiff, if_true, if_false, List.getElem?_cons_succ, List.getElem?_cons_zero, Option.bind_some, id, not, kA, p1'', p3', p4]
             · simp only [opA, aev, convZ, conv, vA, opBin, opPick, opUn, opLoad, loadVarA, agg3, agg22, opFieldAddr, fld24, ptrAdd, Nat.add_eq, Nat.zero_add, ld, Cfg.l, List.getElem?_cons_succ, List.getElem?_cons_zero, Fr.get_putT, Nat.reduceLT, Nat.reduceEqDiff, if_true, if_false, bin_gtr64, bin_and64, bin_eql64, bin_lss64, bin_sub64, bin_add64, bin_mul64, bin_geqU, bin_leqU, bin_geq, bin_leq, kA, p1'', p3', p4]; with_reducible exact rfl
             · simp only [kdPR, kindOf, isLoad, abeq_int, abeq_bool, Bool.and_true, Bool.and_self]
             · simp only [Fr.nt_putT, n3]; decide)
          | (apply kskip
             · simp only [gdOk, boolIs_bool, bEq, Fr.get_putT, Nat.reduceLT, Nat.reduceEqDiff, if_true, if_false, List.getElem?_cons_succ, List.getElem?_cons_zero, Option.bind_some, id, not, kA, p1'', p3', p4]
             · simp only [Fr.nt_putT, n3]; decide)
          | (apply kcall
             · with_reducible exact rfl
             · simp only [gdOk, boolIs_bool, bEq, Fr.get_putT, Nat.reduceLT, Nat.reduceEqDiff, if_true, if_false, List.getElem?_cons_succ, List.getElem?_cons_zero, Option.bind_some, id, not, kA, p1'', p3', p4]
             · simp only [opA, aev, aevs, consO, convZ, conv, opCall, opCallee, invokeA, app, Fr.get_putT, Nat.reduceLT, Nat.reduceEqDiff, if_true, if_false, kA, p1'', p3', p4]; exact rfl
             · rw [tadd_same]; exact inT_eq _ _ _
             · simpa using hroom
             · simp only [Fr.nt_putT, n3]; decide))
        exact knil
      · exact ⟨by simp only [Fr.get_putT, Nat.reduceLT, Nat.reduceEqDiff, if_true, if_false]; rfl, by simp only [Fr.df_putT, d3]⟩
    · skip
      cases kC : mayC c
      · refine ⟨?_, ?_, ?_⟩
        rotate_left
        · skip
          repeat (first
            | (apply kval
               · with_reducible exact rfl
               · simp only [gdOk, boolIs_bool, bEq, Fr.get_putT, Nat.reduceLT, Nat.reduceEqDiff, if_true, if_false, List.getElem?_cons_succ, List.getElem?_cons_zero, Option.bind_some, id, not, kA, kC, p1'', p3', p4]
               · simp only [opA, aev, convZ, conv, vA, opBin, opPick, opUn, opLoad, loadVarA, agg3, agg22, opFieldAddr, fld24, ptrAdd, Nat.add_eq, Nat.zero_add, ld, Cfg.l, List.getElem?_cons_succ, List.getElem?_cons_zero, Fr.get_putT, Nat.reduceLT, Nat.reduceEqDiff, if_true, if_false, bin_gtr64, bin_and64, bin_eql64, bin_lss64, bin_sub64, bin_add64, bin_mul64, bin_geqU, bin_leqU, bin_geq, bin_leq, kA, kC, p1'', p3', p4]; with_reducible exact rfl
               · simp only [kdPR, kindOf, isLoad, abeq_int, abeq_bool, Bool.and_true, Bool.and_self]
               · simp only [Fr.nt_putT, n3]; decide)
            | (apply kskip
               · simp only [gdOk, boolIs_bool, bEq, Fr.get_putT, Nat.reduceLT, Nat.reduceEqDiff, if_true, if_false, List.getElem?_cons_succ, List.getElem?_cons_zero, Option.bind_some, id, not, kA, kC, p1'', p3', p4]
               · simp only [Fr.nt_putT, n3]; decide)
            | (apply kcall
               · with_reducible exact rfl
               · simp only [gdOk, boolIs_bool, bEq, Fr.get_putT, Nat.reduceLT, Nat.reduceEqDiff, if_true, if_false, List.getElem?_cons_succ, List.getElem?_cons_zero, Option.bind_some, id, not, kA, kC, p1'', p3', p4]
               · simp only [opA, aev, aevs, consO, convZ, conv, opCall, opCallee, invokeA, app, Fr.get_putT, Nat.reduceLT, Nat.reduceEqDiff, if_true, if_false, kA, kC, p1'', p3', p4]; exact rfl
               · rw [tadd_same]; exact inT_eq _ _ _
               · simpa using hroom
               · simp only [Fr.nt_putT, n3]; decide))
          exact knil
        · exact ⟨by simp only [Fr.get_putT, Nat.reduceLT, Nat.reduceEqDiff, if_true, if_false]; rfl, by simp only [Fr.df_putT, d3]⟩
      · skip
        cases k2 : inB c.c10 1 64
        · refine ⟨?_, ?_, ?_⟩
          rotate_left
          · skip
            repeat (first
              | (apply kval
                 · with_reducible exact rfl
                 · simp only [gdOk, boolIs_bool, bEq, Fr.get_putT, Nat.reduceLT, Nat.reduceEqDiff, if_true, if_false, List.getElem?_cons_succ, List.getElem?_cons_zero, Option.bind_some, id, not, kA, kC, k2, p1'', p3', p4]
                 · simp only [opA, aev, convZ, conv, vA, opBin, opPick, opUn, opLoad, loadVarA, agg3, agg22, opFieldAddr, fld24, ptrAdd, Nat.add_eq, Nat.zero_add, ld, Cfg.l, List.getElem?_cons_succ, List.getElem?_cons_zero, Fr.get_putT, Nat.reduceLT, Nat.reduceEqDiff, if_true, if_false, bin_gtr64, bin_and64, bin_eql64, bin_lss64, bin_sub64, bin_add64, bin_mul64, bin_geqU, bin_leqU, bin_geq, bin_leq, kA, kC, k2, p1'', p3', p4]; with_reducible exact rfl
                 · simp only [kdPR, kindOf, isLoad, abeq_int, abeq_bool, Bool.and_true, Bool.and_self]
                 · simp only [Fr.nt_putT, n3]; decide)
              | (apply kskip
                 · simp only [gdOk, boolIs_bool, bEq, Fr.get_putT, Nat.reduceLT, Nat.reduceEqDiff, if_true, if_false, List.getElem?_cons_succ, List.getElem?_cons_zero, Option.bind_some, id, not, kA, kC, k2, p1'', p3', p4]
                 · simp only [Fr.nt_putT, n3]; decide)
              | (apply kcall
                 · with_reducible exact rfl
                 · simp only [gdOk, boolIs_bool, bEq, Fr.get_putT, Nat.reduceLT, Nat.reduceEqDiff, if_true, if_false, List.getElem?_cons_succ, List.getElem?_cons_zero, Option.bind_some, id, not, kA, kC, k2, p1'', p3', p4]
                 · simp only [opA, aev, aevs, consO, convZ, conv, opCall, opCallee, invokeA, app, Fr.get_putT, Nat.reduceLT, Nat.reduceEqDiff, if_true, if_false, kA, kC, k2, p1'', p3', p4]; exact rfl
                 · rw [tadd_same]; exact inT_eq _ _ _
                 · simpa using hroom
                 · simp only [Fr.nt_putT, n3]; decide))
            exact knil
          · exact ⟨by simp only [Fr.get_putT, Nat.reduceLT, Nat.reduceEqDiff, if_true, if_false]; rfl, by simp only [Fr.df_putT, d3]⟩
        · skip
          cases k3 : inB c.c11 1 16
          · refine ⟨?_, ?_, ?_⟩
            rotate_left
            · skip
              repeat (first
                | (apply kval
                   · with_reducible exact rfl
                   · simp only [gdOk, boolIs_bool, bEq, Fr.get_putT, Nat.reduceLT, Nat.reduceEqDiff, if_true, if_false, List.getElem?_cons_succ, List.getElem?_cons_zero, Option.bind_some, id, not, kA, kC, k2, k3, p1'', p3', p4]
                   · simp only [opA, aev, convZ, conv, vA, opBin, opPick, opUn, opLoad, loadVarA, agg3, agg22, opFieldAddr, fld24, ptrAdd, Nat.add_eq, Nat.zero_add, ld, Cfg.l, List.getElem?_cons_succ, List.getElem?_cons_zero, Fr.get_putT, Nat.reduceLT, Nat.reduceEqDiff, if_true, if_false, bin_gtr64, bin_and64, bin_eql64, bin_lss64, bin_sub64, bin_add64, bin_mul64, bin_geqU, bin_leqU, bin_geq, bin_leq, kA, kC, k2, k3, p1'', p3', p4]; with_reducible exact rfl
                   · simp only [kdPR, kindOf, isLoad, abeq_int, abeq_bool, Bool.and_true, Bool.and_self]
                   · simp only [Fr.nt_putT, n3]; decide)
                | (apply kskip
                   · simp only [gdOk, boolIs_bool, bEq, Fr.get_putT, Nat.reduceLT, Nat.reduceEqDiff, if_true, if_false, List.getElem?_cons_succ, List.getElem?_cons_zero, Option.bind_some, id, not, kA, kC, k2, k3, p1'', p3', p4]
                   · simp only [Fr.nt_putT, n3]; decide)
                | (apply kcall
                   · with_reducible exact rfl
                   · simp only [gdOk, boolIs_bool, bEq, Fr.get_putT, Nat.reduceLT, Nat.reduceEqDiff, if_true, if_false, List.getElem?_cons_succ, List.getElem?_cons_zero, Option.bind_some, id, not, kA, kC, k2, k3, p1'', p3', p4]
                   · simp only [opA, aev, aevs, consO, convZ, conv, opCall, opCallee, invokeA, app, Fr.get_putT, Nat.reduceLT, Nat.reduceEqDiff, if_true, if_false, kA, kC, k2, k3, p1'', p3', p4]; exact rfl
                   · rw [tadd_same]; exact inT_eq _ _ _
                   · simpa using hroom
                   · simp only [Fr.nt_putT, n3]; decide))
              exact knil
            · exact ⟨by simp only [Fr.get_putT, Nat.reduceLT, Nat.reduceEqDiff, if_true, if_false]; rfl, by simp only [Fr.df_putT, d3]⟩
          · skip
            cases k4 : iLe 1 c.c12
            · refine ⟨?_, ?_, ?_⟩
              rotate_left
              · skip
                repeat (first
                  | (apply kval
                     · with_reducible exact rfl
                     · simp only [gdOk, boolIs_bool, bEq, Fr.get_putT, Nat.reduceLT, Nat.reduceEqDiff, if_true, if_false, List.getElem?_cons_succ, List.getElem?_cons_zero, Option.bind_some, id, not, kA, kC, k2, k3, k4, p1'', p3', p4]
                     · simp only [opA, aev, convZ, conv, vA, opBin, opPick, opUn, opLoad, loadVarA, agg3, agg22, opFieldAddr, fld24, ptrAdd, Nat.add_eq, Nat.zero_add, ld, Cfg.l, List.getElem?_cons_succ, List.getElem?_cons_zero, Fr.get_putT, Nat.reduceLT, Nat.reduceEqDiff, if_true, if_false, bin_gtr64, bin_and64, bin_eql64, bin_lss64, bin_sub64, bin_add64, bin_mul64, bin_geqU, bin_leqU, bin_geq, bin_leq, kA, kC, k2, k3, k4, p1'', p3', p4]; with_reducible exact rfl
                     · simp only [kdPR, kindOf, isLoad, abeq_int, abeq_bool, Bool.and_true, Bool.and_self]
                     · simp only [Fr.nt_putT, n3]; decide)
                  | (apply kskip
                     · simp only [gdOk, boolIs_bool, bEq, Fr.get_putT, Nat.reduceLT, Nat.reduceEqDiff, if_true, if_false, List.getElem?_cons_succ, List.getElem?_cons_zero, Option.bind_some, id, not, kA, kC, k2, k3, k4, p1'', p3', p4]
                     · simp only [Fr.nt_putT, n3]; decide)
                  | (apply kcall
                     · with_reducible exact rfl
                     · simp only [gdOk, boolIs_bool, bEq, Fr.get_putT, Nat.reduceLT, Nat.reduceEqDiff, if_true, if_false, List.getElem?_cons_succ, List.getElem?_cons_zero, Option.bind_some, id, not, kA, kC, k2, k3, k4, p1'', p3', p4]
                     · simp only [opA, aev, aevs, consO, convZ, conv, opCall, opCallee, invokeA, app, Fr.get_putT, Nat.reduceLT, Nat.reduceEqDiff, if_true, if_false, kA, kC, k2, k3, k4, p1'', p3', p4]; exact rfl
                     · rw [tadd_same]; exact inT_eq _ _ _
                     · simpa using hroom
                     · simp only [Fr.nt_putT, n3]; decide))
                exact knil
              · exact ⟨by simp only [Fr.get_putT, Nat.reduceLT, Nat.reduceEqDiff, if_true, if_false]; rfl, by simp only [Fr.df_putT, d3]⟩
            · skip
              refine ⟨?_, ?_, ?_⟩
              rotate_left
              · skip
                repeat (first
                  | (apply kval
                     · with_reducible exact rfl
                     · simp only [gdOk, boolIs_bool, bEq, Fr.get_putT, Nat.reduceLT, Nat.reduceEqDiff, if_true, if_false, List.getElem?_cons_succ, List.getElem?_cons_zero, Option.bind_some, id, not, kA, kC, k2, k3, k4, p1'', p3', p4]
                     · simp only [opA, aev, convZ, conv, vA, opBin, opPick, opUn, opLoad, loadVarA, agg3, agg22, opFieldAddr, fld24, ptrAdd, Nat.add_eq, Nat.zero_add, ld, Cfg.l, List.getElem?_cons_succ, List.getElem?_cons_zero, Fr.get_putT, Nat.reduceLT, Nat.reduceEqDiff, if_true, if_false, bin_gtr64, bin_and64, bin_eql64, bin_lss64, bin_sub64, bin_add64, bin_mul64, bin_geqU, bin_leqU, bin_geq, bin_leq, kA, kC, k2, k3, k4, p1'', p3', p4]; with_reducible exact rfl
                     · simp only [kdPR, kindOf, isLoad, abeq_int, abeq_bool, Bool.and_true, Bool.and_self]
                     · simp only [Fr.nt_putT, n3]; decide)
                  | (apply kskip
                     · simp only [gdOk, boolIs_bool, bEq, Fr.get_putT, Nat.reduceLT, Nat.reduceEqDiff, if_true, if_false, List.getElem?_cons_succ, List.getElem?_cons_zero, Option.bind_some, id, not, kA, kC, k2, k3, k4, p1'', p3', p4]
                     · simp only [Fr.nt_putT, n3]; decide)
                  | (apply kcall
                     · with_reducible exact rfl
                     · simp only [gdOk, boolIs_bool, bEq, Fr.get_putT, Nat.reduceLT, Nat.reduceEqDiff, if_true, if_false, List.getElem?_cons_succ, List.getElem?_cons_zero, Option.bind_some, id, not, kA, kC, k2, k3, k4, p1'', p3', p4]
                     · simp only [opA, aev, aevs, consO, convZ, conv, opCall, opCallee, invokeA, app, Fr.get_putT, Nat.reduceLT, Nat.reduceEqDiff, if_true, if_false, kA, kC, k2, k3, k4, p1'', p3', p4]; exact rfl
                     · rw [tadd_same]; exact inT_eq _ _ _
                     · simpa using hroom
                     · simp only [Fr.nt_putT, n3]; decide))
                exact knil
              · exact ⟨by simp only [Fr.get_putT, Nat.reduceLT, Nat.reduceEqDiff, if_true, if_false]; rfl, by simp only [Fr.df_putT, d3]⟩
  obtain ⟨f4, q3, p2, d4⟩ := s3
  refine ⟨.ret, f4, [.bool (mayD c)], .inr rfl, codeS_seq (seqS_region rfl q0) (codeS_seq (seqK_region mixed htb rfl (fun _ => g1) (by rw [e1]; simp [isDefer]) q1) (codeS_seq (seqK_region mixed htb rfl (by simp) (by rw [e2]; simp [isDefer]) q2) (codeS_seq (seqK_region mixed htb rfl (by simp) (by rw [e3]; simp [isDefer]) q3) codeS_ret))), d4, ?_, rfl⟩
  rw [hr]
  simp [resA, res1, consO, p2]
end Go.Proofs.YtginbifeinpciaaGreat
