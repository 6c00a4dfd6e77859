/- calm.Bound, calm.Quiet and the document's, of any numbers. -/
import Derived.Test.YtginbifeinpciaaGreatMay
import Derived.Test.YtginbifeinpciaaGreatEvK
namespace Go.Proofs.YtginbifeinpciaaGreat
open Go Go.Ev
set_option linter.unusedSimpArgs false
section
variable {tbl : FuncId → List AV → Option (AV × Nat)} {ds : List (Option Tmp)} {f : Fr} {H H1 : AH} {l : List S3} {t : Nat} {op : Op} {g : Option (Nat × Bool)} {v : AV} {res : Option (Fr × AH)}
theorem pnil : seqP Tryz.prog tbl ds [] f H = some (f, H) := rfl
theorem pval (_hc : notCall op = true) (hg : gdOk ds f g = true) (hop : opA Tryz.prog f H op = some (.val v H1)) (ht : t < f.nt) (h : seqP Tryz.prog tbl ds l (f.putT t v) H1 = res) : seqP Tryz.prog tbl ds ((some t, op, g) :: l) f H = res := by
  rw [← h]
  simp only [seqP, hg, hop, Fr.put_some ht]
theorem pskip (hg : gdOk ds f g = false) (ht : t < f.nt) (h : seqP Tryz.prog tbl ds l (f.putT t Ev.und) H = res) : seqP Tryz.prog tbl ds ((some t, op, g) :: l) f H = res := by
  rw [← h]
  simp only [seqP, hg, Fr.put_some ht]
theorem pcall {fn : FuncId} {args : List AV} {d : Nat} (_hc : isCall op = true) (hg : gdOk ds f g = true) (hop : opA Tryz.prog f H op = some (.enter fn args)) (hb : tbl fn args = some (v, d)) (hr : H.nx + d < mH) (ht : t < f.nt) (h : seqP Tryz.prog tbl ds l (f.putT t v) ⟨H.bl, H.nx + d⟩ = res) :
    seqP Tryz.prog tbl ds ((some t, op, g) :: l) f H = res := by
  rw [← h]
  have hr' : Nat.ble (Nat.succ (H.nx + d)) mH = true := Nat.ble_eq_true_of_le hr
  simp only [seqP, hg, hop, hb, hr', Fr.put_some ht]
end
theorem loadAgg_new {H : AH} (hroom : H.nx < mH) (s : Bool) (z : Nat) (l : List AV) (n : Nat) : loadAgg ⟨(H.grown (.cells s z l)).bl, n⟩ H.nx 0 (some l.length) = some (.agg l) := by
  have h : (⟨(H.grown (.cells s z l)).bl, n⟩ : AH).get H.nx = some (.cells s z l) := by
    show (H.grown (.cells s z l)).get H.nx = _
    rw [AH.get_grown H _ _ hroom hroom, if_pos rfl]
  show aggO (loadA ⟨(H.grown (.cells s z l)).bl, n⟩ H.nx 0 l.length) = _
  unfold loadA
  rw [h]
  show aggO (inRange 0 l.length l) = _
  unfold inRange
  rw [len_eq, show Nat.ble (Nat.add 0 l.length) l.length = true from Nat.ble_eq_true_of_le (by show 0 + l.length ≤ l.length; omega)]
  show some (AV.agg (cut l 0 l.length)) = _
  rw [cut_eq]
  simp
def mayT : List AV → Option (AV × Nat)
  | [.agg [.int .i64 a0, .int .i64 a1, .int .i64 a2, .int .i64 a3, .int .i64 a4, .int .i64 a5, .int .i64 a6, .int .i64 a7, .int .i64 a8, .int .i64 a9, .int .i64 a10, .int .i64 a11, .int .u64 a12]] => some (.bool (mayD ⟨a0, a1, a2, a3, a4, a5, a6, a7, a8, a9, a10, a11, a12⟩), 1)
  | _ => none
theorem mayT_ok (args : List AV) (v : AV) (d : Nat) (h : mayT args = some (v, d)) (H : AH) (hroom : H.nx + d < mH) : CallS Tryz.prog 20 args H v ⟨H.bl, H.nx + d⟩ := by
  unfold mayT at h
  split at h
  · injection h with h
    injection h with h1 h2
    subst h1; subst h2
    exact may_code (c := ⟨_, _, _, _, _, _, _, _, _, _, _, _, _⟩) hroom
  · cases h
def tblMay : FuncId → List AV → Option (AV × Nat) := tadd 20 mayT fun _ _ => none
theorem tblMay_ok : PureOk Tryz.prog tblMay := pure_add mayT_ok pure_none
theorem mayT_eq (c : Cfg) : tblMay 20 [.agg c.l] = some (.bool (mayD c), 1) := rfl
def boundC (c : Cfg) : Int := match mayD c with
  | true => addI (addI (mulI 60 c.c3) (mulI 40 c.c5)) 4096
  | false => 0
def quietC (c : Cfg) : Bool := and (mayD c) (and (iLe (addI c.c2 24) c.c3) (and (iLe 8 c.c2) (and (iLe c.c4 2) (and (iLe 64 c.c8) (and (iEq c.c7 1048576) (iLe 512 c.c6))))))
set_option maxHeartbeats 1000000 in
theorem bound_code14 {c : Cfg} {H : AH} (hroom : H.nx + 2 < mH) : CallS Tryz.prog 14 [.agg c.l] H (iv (boundC c)) ⟨H.bl, H.nx + 2⟩ := by
  obtain ⟨hn, hr, r0, r1, r2, r3, hb, e0, e1, e2, e3⟩ := sh14
  obtain ⟨t, ht⟩ : ∃ t, t = (H.grown (.cells false 0 c.l)).bl := ⟨_, rfl⟩
  have ld : ∀ n i, load1 ⟨t, n⟩ H.nx i = c.l[i]? := fun n i => by rw [ht]; exact load_new (by omega) _ _ _ n i
  have ldA : ∀ n, loadAgg ⟨t, n⟩ H.nx 0 (some 13) = some (.agg c.l) := fun n => by rw [ht]; exact loadAgg_new (by omega) _ _ _ n
  have hfn := fn_codeS (args := [.agg c.l]) (H := H) (H' := ⟨t, H.nx + 2⟩) (v := iv (boundC c)) plain Tryz.func14 hb (by rw [hn]; omega) (by rw [hn]; simp) fun f hdf hrd hnt hget => ?_
  · refine hfn.2.keep rfl fun b x hb1 hb2 hx => ?_
    have : (H.grown (.cells false 0 c.l)).get b = some x := by
      rw [AH.get_grown H _ _ (by omega) hb2, if_neg (by omega)]
      exact hx
    rw [ht]
    exact this
  have hnt : f.nt = 14 := hnt.trans hn
  have a0 : f.get 0 = .agg c.l := hget 0
  have hbox : newVarA H (some (.agg c.l)) = some (.val (.ptr H.nx 0) ⟨t, H.nx + 1⟩) := by
    show newA H (.cells false 0 c.l) (fun b => .ptr b 0) = _
    unfold newA
    rw [room_of (by omega), ht]
    rfl
  have s0 : ∃ f1, seqP Tryz.prog tblMay ((r0.toList.map strip).map (·.1)) (r0.toList.map strip) f H = some (f1, ⟨t, H.nx + 1⟩) ∧ f1.get 1 = .ptr H.nx 0 ∧ f1.nt = 14 ∧ f1.df = [] := by
    rw [e0]
    simp only [List.map_cons, List.map_nil]
    refine ⟨?_, ?_, ?_⟩
    rotate_left
    · skip
      repeat (first
        | (apply pval
           · with_reducible exact rfl
           · simp only [gdOk, boolIs_bool, bEq, Fr.get_putT, Nat.reduceLT, Nat.reduceEqDiff, if_true, if_false, List.getElem?_cons_succ, List.getElem?_cons_zero, Option.bind_some, id, not, a0, hbox]
           · simp only [opA, aev, convZ, conv, vA, opBin, opPick, opUn, unA, opLoad, loadVarA, agg3, agg22, agg24, siz24, opFieldAddr, fld24, ptrAdd, Nat.add_eq, Nat.zero_add, ld, ldA, List.getElem?_cons_succ, List.getElem?_cons_zero, Fr.get_putT, Nat.reduceLT, Nat.reduceEqDiff, if_true, if_false, bin_gtr64, bin_and64, bin_eql64, bin_lss64, bin_sub64, bin_add64, bin_mul64, bin_geqU, bin_leqU, bin_geq, bin_leq, a0, hbox]; with_reducible exact rfl
           · simp only [Fr.nt_putT, hnt]; decide)
        | (apply pskip
           · simp only [gdOk, boolIs_bool, bEq, Fr.get_putT, Nat.reduceLT, Nat.reduceEqDiff, if_true, if_false, List.getElem?_cons_succ, List.getElem?_cons_zero, Option.bind_some, id, not, a0, hbox]
           · simp only [Fr.nt_putT, hnt]; decide)
        | (apply pcall
           · with_reducible exact rfl
           · simp only [gdOk, boolIs_bool, bEq, Fr.get_putT, Nat.reduceLT, Nat.reduceEqDiff, if_true, if_false, List.getElem?_cons_succ, List.getElem?_cons_zero, Option.bind_some, id, not, a0, hbox]
           · simp only [opA, aev, aevs, consO, convZ, conv, opCall, opCallee, invokeA, app, Fr.get_putT, Nat.reduceLT, Nat.reduceEqDiff, if_true, if_false, a0, hbox]; exact rfl
           · skip
           · skip
           · simp only [Fr.nt_putT, hnt]; decide))
      exact pnil
    · exact ⟨by simp only [Fr.get_putT, Nat.reduceLT, Nat.reduceEqDiff, if_true, if_false], by simp only [Fr.nt_putT, hnt], by simp only [Fr.df_putT, hdf]⟩
  obtain ⟨f1, q0, p1, n1, d1⟩ := s0
  have s1 : ∃ f2, seqP Tryz.prog tblMay ((r1.toList.map strip).map (·.1)) (r1.toList.map strip) f1 ⟨t, H.nx + 1⟩ = some (f2, ⟨t, H.nx + 2⟩) ∧ f2.get 5 = .bool (not (mayD c)) ∧ f2.get 1 = .ptr H.nx 0 ∧ f2.nt = 14 ∧ f2.df = [] := by
    rw [e1]
    simp only [List.map_cons, List.map_nil]
    refine ⟨?_, ?_, ?_⟩
    rotate_left
    · skip
      repeat (first
        | (apply pval
           · with_reducible exact rfl
           · simp only [gdOk, boolIs_bool, bEq, Fr.get_putT, Nat.reduceLT, Nat.reduceEqDiff, if_true, if_false, List.getElem?_cons_succ, List.getElem?_cons_zero, Option.bind_some, id, not, p1]
           · simp only [opA, aev, convZ, conv, vA, opBin, opPick, opUn, unA, opLoad, loadVarA, agg3, agg22, agg24, siz24, opFieldAddr, fld24, ptrAdd, Nat.add_eq, Nat.zero_add, ld, ldA, Cfg.l, List.getElem?_cons_succ, List.getElem?_cons_zero, Fr.get_putT, Nat.reduceLT, Nat.reduceEqDiff, if_true, if_false, bin_gtr64, bin_and64, bin_eql64, bin_lss64, bin_sub64, bin_add64, bin_mul64, bin_geqU, bin_leqU, bin_geq, bin_leq, p1]; with_reducible exact rfl
           · simp only [Fr.nt_putT, n1]; decide)
        | (apply pskip
           · simp only [gdOk, boolIs_bool, bEq, Fr.get_putT, Nat.reduceLT, Nat.reduceEqDiff, if_true, if_false, List.getElem?_cons_succ, List.getElem?_cons_zero, Option.bind_some, id, not, p1]
           · simp only [Fr.nt_putT, n1]; decide)
        | (apply pcall
           · with_reducible exact rfl
           · simp only [gdOk, boolIs_bool, bEq, Fr.get_putT, Nat.reduceLT, Nat.reduceEqDiff, if_true, if_false, List.getElem?_cons_succ, List.getElem?_cons_zero, Option.bind_some, id, not, p1]
           · simp only [opA, aev, aevs, consO, convZ, conv, opCall, opCallee, invokeA, app, Fr.get_putT, Nat.reduceLT, Nat.reduceEqDiff, if_true, if_false, p1]; exact rfl
           · exact mayT_eq c
           · show H.nx + 1 + 1 < mH; omega
           · simp only [Fr.nt_putT, n1]; decide))
      exact pnil
    · exact ⟨by simp only [Fr.get_putT, Nat.reduceLT, Nat.reduceEqDiff, if_true, if_false], by simp only [Fr.get_putT, Nat.reduceLT, Nat.reduceEqDiff, if_true, if_false, p1], by simp only [Fr.nt_putT, n1], by simp only [Fr.df_putT, d1]⟩
  obtain ⟨f2, q1, p5, p1', n2, d2⟩ := s1
  cases hm : mayD c with
  | false =>
    rw [hm] at p5
    have s2 : ∃ f3, seqP Tryz.prog tblMay ((r2.toList.map strip).map (·.1)) (r2.toList.map strip) f2 ⟨t, H.nx + 2⟩ = some (f3, ⟨t, H.nx + 2⟩) ∧ f3.get 2 = iv 0 ∧ f3.df = [] := by
      rw [e2]
      simp only [List.map_cons, List.map_nil]
      refine ⟨?_, ?_, ?_⟩
      rotate_left
      · skip
        repeat (first
          | (apply pval
             · with_reducible exact rfl
             · simp only [gdOk, boolIs_bool, bEq, Fr.get_putT, Nat.reduceLT, Nat.reduceEqDiff, if_true, if_false, List.getElem?_cons_succ, List.getElem?_cons_zero, Option.bind_some, id, not]
             · simp only [opA, aev, convZ, conv, vA, opBin, opPick, opUn, unA, opLoad, loadVarA, agg3, agg22, agg24, siz24, opFieldAddr, fld24, ptrAdd, Nat.add_eq, Nat.zero_add, ld, ldA, Cfg.l, List.getElem?_cons_succ, List.getElem?_cons_zero, Fr.get_putT, Nat.reduceLT, Nat.reduceEqDiff, if_true, if_false, bin_gtr64, bin_and64, bin_eql64, bin_lss64, bin_sub64, bin_add64, bin_mul64, bin_geqU, bin_leqU, bin_geq, bin_leq]; with_reducible exact rfl
             · simp only [Fr.nt_putT, n2]; decide)
          | (apply pskip
             · simp only [gdOk, boolIs_bool, bEq, Fr.get_putT, Nat.reduceLT, Nat.reduceEqDiff, if_true, if_false, List.getElem?_cons_succ, List.getElem?_cons_zero, Option.bind_some, id, not]
             · simp only [Fr.nt_putT, n2]; decide)
          | (apply pcall
             · with_reducible exact rfl
             · simp only [gdOk, boolIs_bool, bEq, Fr.get_putT, Nat.reduceLT, Nat.reduceEqDiff, if_true, if_false, List.getElem?_cons_succ, List.getElem?_cons_zero, Option.bind_some, id, not]
             · simp only [opA, aev, aevs, consO, convZ, conv, opCall, opCallee, invokeA, app, Fr.get_putT, Nat.reduceLT, Nat.reduceEqDiff, if_true, if_false]; exact rfl
             · skip
             · skip
             · simp only [Fr.nt_putT, n2]; decide))
        exact pnil
      · exact ⟨by simp only [Fr.get_putT, Nat.reduceLT, Nat.reduceEqDiff, if_true, if_false], by simp only [Fr.df_putT, d2]⟩
    obtain ⟨f3, q2, p2, d3⟩ := s2
    refine ⟨.ret, f3, [iv 0], .inr rfl, codeS_seq (seqP_region tblMay_ok rfl (by rw [e0]; simp [isDefer]) q0) (codeS_out (codeS_seq (seqP_region tblMay_ok rfl (by rw [e1]; simp [isDefer]) q1) (codeS_true (by simp only [aev, p5]; rfl) (codeS_seq (seqP_region tblMay_ok rfl (by rw [e2]; simp [isDefer]) q2) codeS_ret))) (by simp)), d3, ?_, ?_⟩
    · rw [hr]; simp [resA, res1, consO, p2]
    · simp [boundC, hm, packA]
  | true =>
    rw [hm] at p5
    have s3 : ∃ f3, seqP Tryz.prog tblMay ((r3.toList.map strip).map (·.1)) (r3.toList.map strip) f2 ⟨t, H.nx + 2⟩ = some (f3, ⟨t, H.nx + 2⟩) ∧ f3.get 2 = iv (addI (addI (mulI 60 c.c3) (mulI 40 c.c5)) 4096) ∧ f3.df = [] := by
      rw [e3]
      simp only [List.map_cons, List.map_nil]
      refine ⟨?_, ?_, ?_⟩
      rotate_left
      · skip
        repeat (first
          | (apply pval
             · with_reducible exact rfl
             · simp only [gdOk, boolIs_bool, bEq, Fr.get_putT, Nat.reduceLT, Nat.reduceEqDiff, if_true, if_false, List.getElem?_cons_succ, List.getElem?_cons_zero, Option.bind_some, id, not, p1']
             · simp only [opA, aev, convZ, conv, vA, opBin, opPick, opUn, unA, opLoad, loadVarA, agg3, agg22, agg24, siz24, opFieldAddr, fld24, ptrAdd, Nat.add_eq, Nat.zero_add, ld, ldA, Cfg.l, List.getElem?_cons_succ, List.getElem?_cons_zero, Fr.get_putT, Nat.reduceLT, Nat.reduceEqDiff, if_true, if_false, bin_gtr64, bin_and64, bin_eql64, bin_lss64, bin_sub64, bin_add64, bin_mul64, bin_geqU, bin_leqU, bin_geq, bin_leq, p1']; with_reducible exact rfl
             · simp only [Fr.nt_putT, n2]; decide)
          | (apply pskip
             · simp only [gdOk, boolIs_bool, bEq, Fr.get_putT, Nat.reduceLT, Nat.reduceEqDiff, if_true, if_false, List.getElem?_cons_succ, List.getElem?_cons_zero, Option.bind_some, id, not, p1']
             · simp only [Fr.nt_putT, n2]; decide)
          | (apply pcall
             · with_reducible exact rfl
             · simp only [gdOk, boolIs_bool, bEq, Fr.get_putT, Nat.reduceLT, Nat.reduceEqDiff, if_true, if_false, List.getElem?_cons_succ, List.getElem?_cons_zero, Option.bind_some, id, not, p1']
             · simp only [opA, aev, aevs, consO, convZ, conv, opCall, opCallee, invokeA, app, Fr.get_putT, Nat.reduceLT, Nat.reduceEqDiff, if_true, if_false, p1']; exact rfl
             · skip
             · skip
             · simp only [Fr.nt_putT, n2]; decide))
        exact pnil
      · exact ⟨by simp only [Fr.get_putT, Nat.reduceLT, Nat.reduceEqDiff, if_true, if_false], by simp only [Fr.df_putT, d2]⟩
    obtain ⟨f3, q3, p2, d3⟩ := s3
    refine ⟨.ret, f3, [iv (addI (addI (mulI 60 c.c3) (mulI 40 c.c5)) 4096)], .inr rfl, codeS_seq (seqP_region tblMay_ok rfl (by rw [e0]; simp [isDefer]) q0) (codeS_seq (codeS_seq (seqP_region tblMay_ok rfl (by rw [e1]; simp [isDefer]) q1) (codeS_false (by simp only [aev, p5]; rfl) codeS_skip)) (codeS_seq (seqP_region tblMay_ok rfl (by rw [e3]; simp [isDefer]) q3) codeS_ret)), d3, ?_, ?_⟩
    · rw [hr]; simp [resA, res1, consO, p2]
    · simp [boundC, hm, packA]

set_option maxHeartbeats 1000000 in
theorem bound_code17 {c : Cfg} {H : AH} (hroom : H.nx + 2 < mH) : CallS Tryz.prog 17 [.agg c.l] H (iv (boundC c)) ⟨H.bl, H.nx + 2⟩ := by
  obtain ⟨hn, hr, r0, r1, r2, r3, hb, e0, e1, e2, e3⟩ := sh17
  obtain ⟨t, ht⟩ : ∃ t, t = (H.grown (.cells false 0 c.l)).bl := ⟨_, rfl⟩
  have ld : ∀ n i, load1 ⟨t, n⟩ H.nx i = c.l[i]? := fun n i => by rw [ht]; exact load_new (by omega) _ _ _ n i
  have ldA : ∀ n, loadAgg ⟨t, n⟩ H.nx 0 (some 13) = some (.agg c.l) := fun n => by rw [ht]; exact loadAgg_new (by omega) _ _ _ n
  have hfn := fn_codeS (args := [.agg c.l]) (H := H) (H' := ⟨t, H.nx + 2⟩) (v := iv (boundC c)) plain Tryz.func17 hb (by rw [hn]; omega) (by rw [hn]; simp) fun f hdf hrd hnt hget => ?_
  · refine hfn.2.keep rfl fun b x hb1 hb2 hx => ?_
    have : (H.grown (.cells false 0 c.l)).get b = some x := by
      rw [AH.get_grown H _ _ (by omega) hb2, if_neg (by omega)]
      exact hx
    rw [ht]
    exact this
  have hnt : f.nt = 14 := hnt.trans hn
  have a0 : f.get 0 = .agg c.l := hget 0
  have hbox : newVarA H (some (.agg c.l)) = some (.val (.ptr H.nx 0) ⟨t, H.nx + 1⟩) := by
    show newA H (.cells false 0 c.l) (fun b => .ptr b 0) = _
    unfold newA
    rw [room_of (by omega), ht]
    rfl
  have s0 : ∃ f1, seqP Tryz.prog tblMay ((r0.toList.map strip).map (·.1)) (r0.toList.map strip) f H = some (f1, ⟨t, H.nx + 1⟩) ∧ f1.get 1 = .ptr H.nx 0 ∧ f1.nt = 14 ∧ f1.df = [] := by
    rw [e0]
    simp only [List.map_cons, List.map_nil]
    refine ⟨?_, ?_, ?_⟩
    rotate_left
    · skip
      repeat (first
        | (apply pval
           · with_reducible exact rfl
           · simp only [gdOk, boolIs_bool, bEq, Fr.get_putT, Nat.reduceLT, Nat.reduceEqDiff, if_true, if_false, List.getElem?_cons_succ, List.getElem?_cons_zero, Option.bind_some, id, not, a0, hbox]
           · simp only [opA, aev, convZ, conv, vA, opBin, opPick, opUn, unA, opLoad, loadVarA, agg3, agg22, agg24, siz24, opFieldAddr, fld24, ptrAdd, Nat.add_eq, Nat.zero_add, ld, ldA, List.getElem?_cons_succ, List.getElem?_cons_zero, Fr.get_putT, Nat.reduceLT, Nat.reduceEqDiff, if_true, if_false, bin_gtr64, bin_and64, bin_eql64, bin_lss64, bin_sub64, bin_add64, bin_mul64, bin_geqU, bin_leqU, bin_geq, bin_leq, a0, hbox]; with_reducible exact rfl
           · simp only [Fr.nt_putT, hnt]; decide)
        | (apply pskip
           · simp only [gdOk, boolIs_bool, bEq, Fr.get_putT, Nat.reduceLT, Nat.reduceEqDiff, if_true, if_false, List.getElem?_cons_succ, List.getElem?_cons_zero, Option.bind_some, id, not, a0, hbox]
           · simp only [Fr.nt_putT, hnt]; decide)
        | (apply pcall
           · with_reducible exact rfl
           · simp only [gdOk, boolIs_bool, bEq, Fr.get_putT, Nat.reduceLT, Nat.reduceEqDiff, if_true, if_false, List.getElem?_cons_succ, List.getElem?_cons_zero, Option.bind_some, id, not, a0, hbox]
           · simp only [opA, aev, aevs, consO, convZ, conv, opCall, opCallee, invokeA, app, Fr.get_putT, Nat.reduceLT, Nat.reduceEqDiff, if_true, if_false, a0, hbox]; exact rfl
           · skip
           · skip
           · simp only [Fr.nt_putT, hnt]; decide))
      exact pnil
    · exact ⟨by simp only [Fr.get_putT, Nat.reduceLT, Nat.reduceEqDiff, if_true, if_false], by simp only [Fr.nt_putT, hnt], by simp only [Fr.df_putT, hdf]⟩
  obtain ⟨f1, q0, p1, n1, d1⟩ := s0
  have s1 : ∃ f2, seqP Tryz.prog tblMay ((r1.toList.map strip).map (·.1)) (r1.toList.map strip) f1 ⟨t, H.nx + 1⟩ = some (f2, ⟨t, H.nx + 2⟩) ∧ f2.get 5 = .bool (not (mayD c)) ∧ f2.get 1 = .ptr H.nx 0 ∧ f2.nt = 14 ∧ f2.df = [] := by
    rw [e1]
    simp only [List.map_cons, List.map_nil]
    refine ⟨?_, ?_, ?_⟩
    rotate_left
    · skip
      repeat (first
        | (apply pval
           · with_reducible exact rfl
           · simp only [gdOk, boolIs_bool, bEq, Fr.get_putT, Nat.reduceLT, Nat.reduceEqDiff, if_true, if_false, List.getElem?_cons_succ, List.getElem?_cons_zero, Option.bind_some, id, not, p1]
           · simp only [opA, aev, convZ, conv, vA, opBin, opPick, opUn, unA, opLoad, loadVarA, agg3, agg22, agg24, siz24, opFieldAddr, fld24, ptrAdd, Nat.add_eq, Nat.zero_add, ld, ldA, Cfg.l, List.getElem?_cons_succ, List.getElem?_cons_zero, Fr.get_putT, Nat.reduceLT, Nat.reduceEqDiff, if_true, if_false, bin_gtr64, bin_and64, bin_eql64, bin_lss64, bin_sub64, bin_add64, bin_mul64, bin_geqU, bin_leqU, bin_geq, bin_leq, p1]; with_reducible exact rfl
           · simp only [Fr.nt_putT, n1]; decide)
        | (apply pskip
           · simp only [gdOk, boolIs_bool, bEq, Fr.get_putT, Nat.reduceLT, Nat.reduceEqDiff, if_true, if_false, List.getElem?_cons_succ, List.getElem?_cons_zero, Option.bind_some, id, not, p1]
           · simp only [Fr.nt_putT, n1]; decide)
        | (apply pcall
           · with_reducible exact rfl
           · simp only [gdOk, boolIs_bool, bEq, Fr.get_putT, Nat.reduceLT, Nat.reduceEqDiff, if_true, if_false, List.getElem?_cons_succ, List.getElem?_cons_zero, Option.bind_some, id, not, p1]
           · simp only [opA, aev, aevs, consO, convZ, conv, opCall, opCallee, invokeA, app, Fr.get_putT, Nat.reduceLT, Nat.reduceEqDiff, if_true, if_false, p1]; exact rfl
           · exact mayT_eq c
           · show H.nx + 1 + 1 < mH; omega
           · simp only [Fr.nt_putT, n1]; decide))
      exact pnil
    · exact ⟨by simp only [Fr.get_putT, Nat.reduceLT, Nat.reduceEqDiff, if_true, if_false], by simp only [Fr.get_putT, Nat.reduceLT, Nat.reduceEqDiff, if_true, if_false, p1], by simp only [Fr.nt_putT, n1], by simp only [Fr.df_putT, d1]⟩
  obtain ⟨f2, q1, p5, p1', n2, d2⟩ := s1
  cases hm : mayD c with
  | false =>
    rw [hm] at p5
    have s2 : ∃ f3, seqP Tryz.prog tblMay ((r2.toList.map strip).map (·.1)) (r2.toList.map strip) f2 ⟨t, H.nx + 2⟩ = some (f3, ⟨t, H.nx + 2⟩) ∧ f3.get 2 = iv 0 ∧ f3.df = [] := by
      rw [e2]
      simp only [List.map_cons, List.map_nil]
      refine ⟨?_, ?_, ?_⟩
      rotate_left
      · skip
        repeat (first
          | (apply pval
             · with_reducible exact rfl
             · simp only [gdOk, boolIs_bool, bEq, Fr.get_putT, Nat.reduceLT, Nat.reduceEqDiff, if_true, if_false, List.getElem?_cons_succ, List.getElem?_cons_zero, Option.bind_some, id, not]
             · simp only [opA, aev, convZ, conv, vA, opBin, opPick, opUn, unA, opLoad, loadVarA, agg3, agg22, agg24, siz24, opFieldAddr, fld24, ptrAdd, Nat.add_eq, Nat.zero_add, ld, ldA, Cfg.l, List.getElem?_cons_succ, List.getElem?_cons_zero, Fr.get_putT, Nat.reduceLT, Nat.reduceEqDiff, if_true, if_false, bin_gtr64, bin_and64, bin_eql64, bin_lss64, bin_sub64, bin_add64, bin_mul64, bin_geqU, bin_leqU, bin_geq, bin_leq]; with_reducible exact rfl
             · simp only [Fr.nt_putT, n2]; decide)
          | (apply pskip
             · simp only [gdOk, boolIs_bool, bEq, Fr.get_putT, Nat.reduceLT, Nat.reduceEqDiff, if_true, if_false, List.getElem?_cons_succ, List.getElem?_cons_zero, Option.bind_some, id, not]
             · simp only [Fr.nt_putT, n2]; decide)
          | (apply pcall
             · with_reducible exact rfl
             · simp only [gdOk, boolIs_bool, bEq, Fr.get_putT, Nat.reduceLT, Nat.reduceEqDiff, if_true, if_false, List.getElem?_cons_succ, List.getElem?_cons_zero, Option.bind_some, id, not]
             · simp only [opA, aev, aevs, consO, convZ, conv, opCall, opCallee, invokeA, app, Fr.get_putT, Nat.reduceLT, Nat.reduceEqDiff, if_true, if_false]; exact rfl
             · skip
             · skip
             · simp only [Fr.nt_putT, n2]; decide))
        exact pnil
      · exact ⟨by simp only [Fr.get_putT, Nat.reduceLT, Nat.reduceEqDiff, if_true, if_false], by simp only [Fr.df_putT, d2]⟩
    obtain ⟨f3, q2, p2, d3⟩ := s2
    refine ⟨.ret, f3, [iv 0], .inr rfl, codeS_seq (seqP_region tblMay_ok rfl (by rw [e0]; simp [isDefer]) q0) (codeS_out (codeS_seq (seqP_region tblMay_ok rfl (by rw [e1]; simp [isDefer]) q1) (codeS_true (by simp only [aev, p5]; rfl) (codeS_seq (seqP_region tblMay_ok rfl (by rw [e2]; simp [isDefer]) q2) codeS_ret))) (by simp)), d3, ?_, ?_⟩
    · rw [hr]; simp [resA, res1, consO, p2]
    · simp [boundC, hm, packA]
  | true =>
    rw [hm] at p5
    have s3 : ∃ f3, seqP Tryz.prog tblMay ((r3.toList.map strip).map (·.1)) (r3.toList.map strip) f2 ⟨t, H.nx + 2⟩ = some (f3, ⟨t, H.nx + 2⟩) ∧ f3.get 2 = iv (addI (addI (mulI 60 c.c3) (mulI 40 c.c5)) 4096) ∧ f3.df = [] := by
      rw [e3]
      simp only [List.map_cons, List.map_nil]
      refine ⟨?_, ?_, ?_⟩
      rotate_left
      · skip
        repeat (first
          | (apply pval
             · with_reducible exact rfl
             · simp only [gdOk, boolIs_bool, bEq, Fr.get_putT, Nat.reduceLT, Nat.reduceEqDiff, if_true, if_false, List.getElem?_cons_succ, List.getElem?_cons_zero, Option.bind_some, id, not, p1']
             · simp only [opA, aev, convZ, conv, vA, opBin, opPick, opUn, unA, opLoad, loadVarA, agg3, agg22, agg24, siz24, opFieldAddr, fld24, ptrAdd, Nat.add_eq, Nat.zero_add, ld, ldA, Cfg.l, List.getElem?_cons_succ, List.getElem?_cons_zero, Fr.get_putT, Nat.reduceLT, Nat.reduceEqDiff, if_true, if_false, bin_gtr64, bin_and64, bin_eql64, bin_lss64, bin_sub64, bin_add64, bin_mul64, bin_geqU, bin_leqU, bin_geq, bin_leq, p1']; with_reducible exact rfl
             · simp only [Fr.nt_putT, n2]; decide)
          | (apply pskip
             · simp only [gdOk, boolIs_bool, bEq, Fr.get_putT, Nat.reduceLT, Nat.reduceEqDiff, if_true, if_false, List.getElem?_cons_succ, List.getElem?_cons_zero, Option.bind_some, id, not, p1']
             · simp only [Fr.nt_putT, n2]; decide)
          | (apply pcall
             · with_reducible exact rfl
             · simp only [gdOk, boolIs_bool, bEq, Fr.get_putT, Nat.reduceLT, Nat.reduceEqDiff, if_true, if_false, List.getElem?_cons_succ, List.getElem?_cons_zero, Option.bind_some, id, not, p1']
             · simp only [opA, aev, aevs, consO, convZ, conv, opCall, opCallee, invokeA, app, Fr.get_putT, Nat.reduceLT, Nat.reduceEqDiff, if_true, if_false, p1']; exact rfl
             · skip
             · skip
             · simp only [Fr.nt_putT, n2]; decide))
        exact pnil
      · exact ⟨by simp only [Fr.get_putT, Nat.reduceLT, Nat.reduceEqDiff, if_true, if_false], by simp only [Fr.df_putT, d2]⟩
    obtain ⟨f3, q3, p2, d3⟩ := s3
    refine ⟨.ret, f3, [iv (addI (addI (mulI 60 c.c3) (mulI 40 c.c5)) 4096)], .inr rfl, codeS_seq (seqP_region tblMay_ok rfl (by rw [e0]; simp [isDefer]) q0) (codeS_seq (codeS_seq (seqP_region tblMay_ok rfl (by rw [e1]; simp [isDefer]) q1) (codeS_false (by simp only [aev, p5]; rfl) codeS_skip)) (codeS_seq (seqP_region tblMay_ok rfl (by rw [e3]; simp [isDefer]) q3) codeS_ret)), d3, ?_, ?_⟩
    · rw [hr]; simp [resA, res1, consO, p2]
    · simp [boundC, hm, packA]

set_option maxHeartbeats 2000000 in
theorem quiet_code15 {c : Cfg} {H : AH} (hroom : H.nx + 2 < mH) : CallS Tryz.prog 15 [.agg c.l] H (.bool (quietC c)) ⟨H.bl, H.nx + 2⟩ := by
  obtain ⟨hn, hr, r0, r1, hb, e0, e1⟩ := sh15
  obtain ⟨t, ht⟩ : ∃ t, t = (H.grown (.cells false 0 c.l)).bl := ⟨_, rfl⟩
  have ld : ∀ n i, load1 ⟨t, n⟩ H.nx i = c.l[i]? := fun n i => by rw [ht]; exact load_new (by omega) _ _ _ n i
  have ldA : ∀ n, loadAgg ⟨t, n⟩ H.nx 0 (some 13) = some (.agg c.l) := fun n => by rw [ht]; exact loadAgg_new (by omega) _ _ _ n
  have hfn := fn_codeS (args := [.agg c.l]) (H := H) (H' := ⟨t, H.nx + 2⟩) (v := .bool (quietC c)) plain Tryz.func15 hb (by rw [hn]; omega) (by rw [hn]; simp) fun f hdf hrd hnt hget => ?_
  · refine hfn.2.keep rfl fun b x hb1 hb2 hx => ?_
    have : (H.grown (.cells false 0 c.l)).get b = some x := by
      rw [AH.get_grown H _ _ (by omega) hb2, if_neg (by omega)]
      exact hx
    rw [ht]
    exact this
  have hnt : f.nt = 38 := hnt.trans hn
  have a0 : f.get 0 = .agg c.l := hget 0
  have hbox : newVarA H (some (.agg c.l)) = some (.val (.ptr H.nx 0) ⟨t, H.nx + 1⟩) := by
    show newA H (.cells false 0 c.l) (fun b => .ptr b 0) = _
    unfold newA
    rw [room_of (by omega), ht]
    rfl
  have s0 : ∃ f1, seqP Tryz.prog tblMay ((r0.toList.map strip).map (·.1)) (r0.toList.map strip) f H = some (f1, ⟨t, H.nx + 1⟩) ∧ f1.get 1 = .ptr H.nx 0 ∧ f1.nt = 38 ∧ f1.df = [] := by
    rw [e0]
    simp only [List.map_cons, List.map_nil]
    refine ⟨?_, ?_, ?_⟩
    rotate_left
    · skip
      repeat (first
        | (apply pval
           · with_reducible exact rfl
           · simp only [gdOk, boolIs_bool, bEq, Fr.get_putT, Nat.reduceLT, Nat.reduceEqDiff, if_true, if_false, List.getElem?_cons_succ, List.getElem?_cons_zero, Option.bind_some, id, not, a0, hbox]
           · simp only [opA, aev, convZ, conv, vA, opBin, opPick, opUn, unA, opLoad, loadVarA, agg3, agg22, agg24, siz24, opFieldAddr, fld24, ptrAdd, Nat.add_eq, Nat.zero_add, ld, ldA, List.getElem?_cons_succ, List.getElem?_cons_zero, Fr.get_putT, Nat.reduceLT, Nat.reduceEqDiff, if_true, if_false, bin_gtr64, bin_and64, bin_eql64, bin_lss64, bin_sub64, bin_add64, bin_mul64, bin_geqU, bin_leqU, bin_geq, bin_leq, a0, hbox]; with_reducible exact rfl
           · simp only [Fr.nt_putT, hnt]; decide)
        | (apply pskip
           · simp only [gdOk, boolIs_bool, bEq, Fr.get_putT, Nat.reduceLT, Nat.reduceEqDiff, if_true, if_false, List.getElem?_cons_succ, List.getElem?_cons_zero, Option.bind_some, id, not, a0, hbox]
           · simp only [Fr.nt_putT, hnt]; decide)
        | (apply pcall
           · with_reducible exact rfl
           · simp only [gdOk, boolIs_bool, bEq, Fr.get_putT, Nat.reduceLT, Nat.reduceEqDiff, if_true, if_false, List.getElem?_cons_succ, List.getElem?_cons_zero, Option.bind_some, id, not, a0, hbox]
           · simp only [opA, aev, aevs, consO, convZ, conv, opCall, opCallee, invokeA, app, Fr.get_putT, Nat.reduceLT, Nat.reduceEqDiff, if_true, if_false, a0, hbox]; exact rfl
           · skip
           · skip
           · simp only [Fr.nt_putT, hnt]; decide))
      exact pnil
    · exact ⟨by simp only [Fr.get_putT, Nat.reduceLT, Nat.reduceEqDiff, if_true, if_false], by simp only [Fr.nt_putT, hnt], by simp only [Fr.df_putT, hdf]⟩
  obtain ⟨f1, q0, p1, n1, d1⟩ := s0
  have s1 : ∃ f2, seqP Tryz.prog tblMay ((r1.toList.map strip).map (·.1)) (r1.toList.map strip) f1 ⟨t, H.nx + 1⟩ = some (f2, ⟨t, H.nx + 2⟩) ∧ f2.get 2 = .bool (quietC c) ∧ f2.df = [] := by
    rw [e1]
    unfold quietC
    simp only [List.map_cons, List.map_nil]
    cases k0 : mayD c
    · skip
      refine ⟨?_, ?_, ?_⟩
      rotate_left
      · skip
        repeat (first
          | (apply pval
             · with_reducible exact rfl
             · simp only [gdOk, boolIs_bool, bEq, Fr.get_putT, Nat.reduceLT, Nat.reduceEqDiff, if_true, if_false, List.getElem?_cons_succ, List.getElem?_cons_zero, Option.bind_some, id, not, k0, p1]
             · simp only [opA, aev, convZ, conv, vA, opBin, opPick, opUn, unA, opLoad, loadVarA, agg3, agg22, agg24, siz24, opFieldAddr, fld24, ptrAdd, Nat.add_eq, Nat.zero_add, ld, ldA, Cfg.l, List.getElem?_cons_succ, List.getElem?_cons_zero, Fr.get_putT, Nat.reduceLT, Nat.reduceEqDiff, if_true, if_false, bin_gtr64, bin_and64, bin_eql64, bin_lss64, bin_sub64, bin_add64, bin_mul64, bin_geqU, bin_leqU, bin_geq, bin_leq, k0, p1]; with_reducible exact rfl
             · simp only [Fr.nt_putT, n1]; decide)
          | (apply pskip
             · simp only [gdOk, boolIs_bool, bEq, Fr.get_putT, Nat.reduceLT, Nat.reduceEqDiff, if_true, if_false, List.getElem?_cons_succ, List.getElem?_cons_zero, Option.bind_some, id, not, k0, p1]
             · simp only [Fr.nt_putT, n1]; decide)
          | (apply pcall
             · with_reducible exact rfl
             · simp only [gdOk, boolIs_bool, bEq, Fr.get_putT, Nat.reduceLT, Nat.reduceEqDiff, if_true, if_false, List.getElem?_cons_succ, List.getElem?_cons_zero, Option.bind_some, id, not, k0, p1]
             · simp only [opA, aev, aevs, consO, convZ, conv, opCall, opCallee, invokeA, app, Fr.get_putT, Nat.reduceLT, Nat.reduceEqDiff, if_true, if_false, k0, p1]; exact rfl
             · exact mayT_eq c
             · show H.nx + 1 + 1 < mH; omega
             · simp only [Fr.nt_putT, n1]; decide))
        exact pnil
      · exact ⟨by simp only [Fr.get_putT, Nat.reduceLT, Nat.reduceEqDiff, if_true, if_false]; rfl, by simp only [Fr.df_putT, d1]⟩
    · skip
      cases k1 : iLe (addI c.c2 24) c.c3
      · skip
        refine ⟨?_, ?_, ?_⟩
        rotate_left
        · skip
          repeat (first
            | (apply pval
               · with_reducible exact rfl
               · simp only [gdOk, boolIs_bool, bEq, Fr.get_putT, Nat.reduceLT, Nat.reduceEqDiff, if_true, if_false, List.getElem?_cons_succ, List.getElem?_cons_zero, Option.bind_some, id, not, k0, k1, p1]
               · simp only [opA, aev, convZ, conv, vA, opBin, opPick, opUn, unA, opLoad, loadVarA, agg3, agg22, agg24, siz24, opFieldAddr, fld24, ptrAdd, Nat.add_eq, Nat.zero_add, ld, ldA, Cfg.l, List.getElem?_cons_succ, List.getElem?_cons_zero, Fr.get_putT, Nat.reduceLT, Nat.reduceEqDiff, if_true, if_false, bin_gtr64, bin_and64, bin_eql64, bin_lss64, bin_sub64, bin_add64, bin_mul64, bin_geqU, bin_leqU, bin_geq, bin_leq, k0, k1, p1]; with_reducible exact rfl
               · simp only [Fr.nt_putT, n1]; decide)
            | (apply pskip
               · simp only [gdOk, boolIs_bool, bEq, Fr.get_putT, Nat.reduceLT, Nat.reduceEqDiff, if_true, if_false, List.getElem?_cons_succ, List.getElem?_cons_zero, Option.bind_some, id, not, k0, k1, p1]
               · simp only [Fr.nt_putT, n1]; decide)
            | (apply pcall
               · with_reducible exact rfl
               · simp only [gdOk, boolIs_bool, bEq, Fr.get_putT, Nat.reduceLT, Nat.reduceEqDiff, if_true, if_false, List.getElem?_cons_succ, List.getElem?_cons_zero, Option.bind_some, id, not, k0, k1, p1]
               · simp only [opA, aev, aevs, consO, convZ, conv, opCall, opCallee, invokeA, app, Fr.get_putT, Nat.reduceLT, Nat.reduceEqDiff, if_true, if_false, k0, k1, p1]; exact rfl
               · exact mayT_eq c
               · show H.nx + 1 + 1 < mH; omega
               · simp only [Fr.nt_putT, n1]; decide))
          exact pnil
        · exact ⟨by simp only [Fr.get_putT, Nat.reduceLT, Nat.reduceEqDiff, if_true, if_false]; rfl, by simp only [Fr.df_putT, d1]⟩
      · skip
        cases k2 : iLe 8 c.c2
        · skip
          refine ⟨?_, ?_, ?_⟩
          rotate_left
          · skip
            repeat (first
              | (apply pval
                 · with_reducible exact rfl
                 · simp only [gdOk, boolIs_bool, bEq, Fr.get_putT, Nat.reduceLT, Nat.reduceEqDiff, if_true, if_false, List.getElem?_cons_succ, List.getElem?_cons_zero, Option.bind_some, id, not, k0, k1, k2, p1]
                 · simp only [opA, aev, convZ, conv, vA, opBin, opPick, opUn, unA, opLoad, loadVarA, agg3, agg22, agg24, siz24, opFieldAddr, fld24, ptrAdd, Nat.add_eq, Nat.zero_add, ld, ldA, Cfg.l, List.getElem?_cons_succ, List.getElem?_cons_zero, Fr.get_putT, Nat.reduceLT, Nat.reduceEqDiff, if_true, if_false, bin_gtr64, bin_and64, bin_eql64, bin_lss64, bin_sub64, bin_add64, bin_mul64, bin_geqU, bin_leqU, bin_geq, bin_leq, k0, k1, k2, p1]; with_reducible exact rfl
                 · simp only [Fr.nt_putT, n1]; decide)
              | (apply pskip
                 · simp only [gdOk, boolIs_bool, bEq, Fr.get_putT, Nat.reduceLT, Nat.reduceEqDiff, if_true, if_false, List.getElem?_cons_succ, List.getElem?_cons_zero, Option.bind_some, id, not, k0, k1, k2, p1]
                 · simp only [Fr.nt_putT, n1]; decide)
              | (apply pcall
                 · with_reducible exact rfl
                 · simp only [gdOk, boolIs_bool, bEq, Fr.get_putT, Nat.reduceLT, Nat.reduceEqDiff, if_true, if_false, List.getElem?_cons_succ, List.getElem?_cons_zero, Option.bind_some, id, not, k0, k1, k2, p1]
                 · simp only [opA, aev, aevs, consO, convZ, conv, opCall, opCallee, invokeA, app, Fr.get_putT, Nat.reduceLT, Nat.reduceEqDiff, if_true, if_false, k0, k1, k2, p1]; exact rfl
                 · exact mayT_eq c
                 · show H.nx + 1 + 1 < mH; omega
                 · simp only [Fr.nt_putT, n1]; decide))
            exact pnil
          · exact ⟨by simp only [Fr.get_putT, Nat.reduceLT, Nat.reduceEqDiff, if_true, if_false]; rfl, by simp only [Fr.df_putT, d1]⟩
        · skip
          cases k3 : iLe c.c4 2
          · skip
            refine ⟨?_, ?_, ?_⟩
            rotate_left
            · skip
              repeat (first
                | (apply pval
                   · with_reducible exact rfl
                   · simp only [gdOk, boolIs_bool, bEq, Fr.get_putT, Nat.reduceLT, Nat.reduceEqDiff, if_true, if_false, List.getElem?_cons_succ, List.getElem?_cons_zero, Option.bind_some, id, not, k0, k1, k2, k3, p1]
                   · simp only [opA, aev, convZ, conv, vA, opBin, opPick, opUn, unA, opLoad, loadVarA, agg3, agg22, agg24, siz24, opFieldAddr, fld24, ptrAdd, Nat.add_eq, Nat.zero_add, ld, ldA, Cfg.l, List.getElem?_cons_succ, List.getElem?_cons_zero, Fr.get_putT, Nat.reduceLT, Nat.reduceEqDiff, if_true, if_false, bin_gtr64, bin_and64, bin_eql64, bin_lss64, bin_sub64, bin_add64, bin_mul64, bin_geqU, bin_leqU, bin_geq, bin_leq, k0, k1, k2, k3, p1]; with_reducible exact rfl
                   · simp only [Fr.nt_putT, n1]; decide)
                | (apply pskip
                   · simp only [gdOk, boolIs_bool, bEq, Fr.get_putT, Nat.reduceLT, Nat.reduceEqDiff, if_true, if_false, List.getElem?_cons_succ, List.getElem?_cons_zero, Option.bind_some, id, not, k0, k1, k2, k3, p1]
                   · simp only [Fr.nt_putT, n1]; decide)
                | (apply pcall
                   · with_reducible exact rfl
                   · simp only [gdOk, boolIs_bool, bEq, Fr.get_putT, Nat.reduceLT, Nat.reduceEqDiff, if_true, if_false, List.getElem?_cons_succ, List.getElem?_cons_zero, Option.bind_some, id, not, k0, k1, k2, k3, p1]
                   · simp only [opA, aev, aevs, consO, convZ, conv, opCall, opCallee, invokeA, app, Fr.get_putT, Nat.reduceLT, Nat.reduceEqDiff, if_true, if_false, k0, k1, k2, k3, p1]; exact rfl
                   · exact mayT_eq c
                   · show H.nx + 1 + 1 < mH; omega
                   · simp only [Fr.nt_putT, n1]; decide))
              exact pnil
            · exact ⟨by simp only [Fr.get_putT, Nat.reduceLT, Nat.reduceEqDiff, if_true, if_false]; rfl, by simp only [Fr.df_putT, d1]⟩
          · skip
            cases k4 : iLe 64 c.c8
            · skip
              refine ⟨?_, ?_, ?_⟩
              rotate_left
              · skip
                repeat (first
                  | (apply pval
                     · with_reducible exact rfl
                     · simp only [gdOk, boolIs_bool, bEq, Fr.get_putT, Nat.reduceLT, Nat.reduceEqDiff, if_true, if_false, List.getElem?_cons_succ, List.getElem?_cons_zero, Option.bind_some, id, not, k0, k1, k2, k3, k4, p1]
                     · simp only [opA, aev, convZ, conv, vA, opBin, opPick, opUn, unA, opLoad, loadVarA, agg3, agg22, agg24, siz24, opFieldAddr, fld24, ptrAdd, Nat.add_eq, Nat.zero_add, ld, ldA, Cfg.l, List.getElem?_cons_succ, List.getElem?_cons_zero, Fr.get_putT, Nat.reduceLT, Nat.reduceEqDiff, if_true, if_false, bin_gtr64, bin_and64, bin_eql64, bin_lss64, bin_sub64, bin_add64, bin_mul64, bin_geqU, bin_leqU, bin_geq, bin_leq, k0, k1, k2, k3, k4, p1]; with_reducible exact rfl
                     · simp only [Fr.nt_putT, n1]; decide)
                  | (apply pskip
                     · simp only [gdOk, boolIs_bool, bEq, Fr.get_putT, Nat.reduceLT, Nat.reduceEqDiff, if_true, if_false, List.getElem?_cons_succ, List.getElem?_cons_zero, Option.bind_some, id, not, k0, k1, k2, k3, k4, p1]
                     · simp only [Fr.nt_putT, n1]; decide)
                  | (apply pcall
                     · with_reducible exact rfl
                     · simp only [gdOk, boolIs_bool, bEq, Fr.get_putT, Nat.reduceLT, Nat.reduceEqDiff, if_true, if_false, List.getElem?_cons_succ, List.getElem?_cons_zero, Option.bind_some, id, not, k0, k1, k2, k3, k4, p1]
                     · simp only [opA, aev, aevs, consO, convZ, conv, opCall, opCallee, invokeA, app, Fr.get_putT, Nat.reduceLT, Nat.reduceEqDiff, if_true, if_false, k0, k1, k2, k3, k4, p1]; exact rfl
                     · exact mayT_eq c
                     · show H.nx + 1 + 1 < mH; omega
                     · simp only [Fr.nt_putT, n1]; decide))
                exact pnil
              · exact ⟨by simp only [Fr.get_putT, Nat.reduceLT, Nat.reduceEqDiff, if_true, if_false]; rfl, by simp only [Fr.df_putT, d1]⟩
            · skip
              cases k5 : iEq c.c7 1048576
              · skip
                refine ⟨?_, ?_, ?_⟩
                rotate_left
                · skip
                  repeat (first
                    | (apply pval
                       · with_reducible exact rfl
                       · simp only [gdOk, boolIs_bool, bEq, Fr.get_putT, Nat.reduceLT, Nat.reduceEqDiff, if_true, if_false, List.getElem?_cons_succ, List.getElem?_cons_zero, Option.bind_some, id, not, k0, k1, k2, k3, k4, k5, p1]
                       · simp only [opA, aev, convZ, conv, vA, opBin, opPick, opUn, unA, opLoad, loadVarA, agg3, agg22, agg24, siz24, opFieldAddr, fld24, ptrAdd, Nat.add_eq, Nat.zero_add, ld, ldA, Cfg.l, List.getElem?_cons_succ, List.getElem?_cons_zero, Fr.get_putT, Nat.reduceLT, Nat.reduceEqDiff, if_true, if_false, bin_gtr64, bin_and64, bin_eql64, bin_lss64, bin_sub64, bin_add64, bin_mul64, bin_geqU, bin_leqU, bin_geq, bin_leq, k0, k1, k2, k3, k4, k5, p1]; with_reducible exact rfl
                       · simp only [Fr.nt_putT, n1]; decide)
                    | (apply pskip
                       · simp only [gdOk, boolIs_bool, bEq, Fr.get_putT, Nat.reduceLT, Nat.reduceEqDiff, if_true, if_false, List.getElem?_cons_succ, List.getElem?_cons_zero, Option.bind_some, id, not, k0, k1, k2, k3, k4, k5, p1]
                       · simp only [Fr.nt_putT, n1]; decide)
                    | (apply pcall
                       · with_reducible exact rfl
                       · simp only [gdOk, boolIs_bool, bEq, Fr.get_putT, Nat.reduceLT, Nat.reduceEqDiff, if_true, if_false, List.getElem?_cons_succ, List.getElem?_cons_zero, Option.bind_some, id, not, k0, k1, k2, k3, k4, k5, p1]
                       · simp only [opA, aev, aevs, consO, convZ, conv, opCall, opCallee, invokeA, app, Fr.get_putT, Nat.reduceLT, Nat.reduceEqDiff, if_true, if_false, k0, k1, k2, k3, k4, k5, p1]; exact rfl
                       · exact mayT_eq c
                       · show H.nx + 1 + 1 < mH; omega
                       · simp only [Fr.nt_putT, n1]; decide))
                  exact pnil
                · exact ⟨by simp only [Fr.get_putT, Nat.reduceLT, Nat.reduceEqDiff, if_true, if_false]; rfl, by simp only [Fr.df_putT, d1]⟩
              · skip
                refine ⟨?_, ?_, ?_⟩
                rotate_left
                · skip
                  repeat (first
                    | (apply pval
                       · with_reducible exact rfl
                       · simp only [gdOk, boolIs_bool, bEq, Fr.get_putT, Nat.reduceLT, Nat.reduceEqDiff, if_true, if_false, List.getElem?_cons_succ, List.getElem?_cons_zero, Option.bind_some, id, not, k0, k1, k2, k3, k4, k5, p1]
                       · simp only [opA, aev, convZ, conv, vA, opBin, opPick, opUn, unA, opLoad, loadVarA, agg3, agg22, agg24, siz24, opFieldAddr, fld24, ptrAdd, Nat.add_eq, Nat.zero_add, ld, ldA, Cfg.l, List.getElem?_cons_succ, List.getElem?_cons_zero, Fr.get_putT, Nat.reduceLT, Nat.reduceEqDiff, if_true, if_false, bin_gtr64, bin_and64, bin_eql64, bin_lss64, bin_sub64, bin_add64, bin_mul64, bin_geqU, bin_leqU, bin_geq, bin_leq, k0, k1, k2, k3, k4, k5, p1]; with_reducible exact rfl
                       · simp only [Fr.nt_putT, n1]; decide)
                    | (apply pskip
                       · simp only [gdOk, boolIs_bool, bEq, Fr.get_putT, Nat.reduceLT, Nat.reduceEqDiff, if_true, if_false, List.getElem?_cons_succ, List.getElem?_cons_zero, Option.bind_some, id, not, k0, k1, k2, k3, k4, k5, p1]
                       · simp only [Fr.nt_putT, n1]; decide)
                    | (apply pcall
                       · with_reducible exact rfl
                       · simp only [gdOk, boolIs_bool, bEq, Fr.get_putT, Nat.reduceLT, Nat.reduceEqDiff, if_true, if_false, List.getElem?_cons_succ, List.getElem?_cons_zero, Option.bind_some, id, not, k0, k1, k2, k3, k4, k5, p1]
                       · simp only [opA, aev, aevs, consO, convZ, conv, opCall, opCallee, invokeA, app, Fr.get_putT, Nat.reduceLT, Nat.reduceEqDiff, if_true, if_false, k0, k1, k2, k3, k4, k5, p1]; exact rfl
                       · exact mayT_eq c
                       · show H.nx + 1 + 1 < mH; omega
                       · simp only [Fr.nt_putT, n1]; decide))
                  exact pnil
                · exact ⟨by simp only [Fr.get_putT, Nat.reduceLT, Nat.reduceEqDiff, if_true, if_false]; rfl, by simp only [Fr.df_putT, d1]⟩
  obtain ⟨f2, q1, p2, d2⟩ := s1
  refine ⟨.ret, f2, [.bool (quietC c)], .inr rfl, codeS_seq (seqP_region tblMay_ok rfl (by rw [e0]; simp [isDefer]) q0) (codeS_seq (seqP_region tblMay_ok rfl (by rw [e1]; simp [isDefer]) q1) codeS_ret), d2, ?_, rfl⟩
  rw [hr]
  simp [resA, res1, consO, p2]

set_option maxHeartbeats 2000000 in
theorem quiet_code18 {c : Cfg} {H : AH} (hroom : H.nx + 2 < mH) : CallS Tryz.prog 18 [.agg c.l] H (.bool (quietC c)) ⟨H.bl, H.nx + 2⟩ := by
  obtain ⟨hn, hr, r0, r1, hb, e0, e1⟩ := sh18
  obtain ⟨t, ht⟩ : ∃ t, t = (H.grown (.cells false 0 c.l)).bl := ⟨_, rfl⟩
  have ld : ∀ n i, load1 ⟨t, n⟩ H.nx i = c.l[i]? := fun n i => by rw [ht]; exact load_new (by omega) _ _ _ n i
  have ldA : ∀ n, loadAgg ⟨t, n⟩ H.nx 0 (some 13) = some (.agg c.l) := fun n => by rw [ht]; exact loadAgg_new (by omega) _ _ _ n
  have hfn := fn_codeS (args := [.agg c.l]) (H := H) (H' := ⟨t, H.nx + 2⟩) (v := .bool (quietC c)) plain Tryz.func18 hb (by rw [hn]; omega) (by rw [hn]; simp) fun f hdf hrd hnt hget => ?_
  · refine hfn.2.keep rfl fun b x hb1 hb2 hx => ?_
    have : (H.grown (.cells false 0 c.l)).get b = some x := by
      rw [AH.get_grown H _ _ (by omega) hb2, if_neg (by omega)]
      exact hx
    rw [ht]
    exact this
  have hnt : f.nt = 38 := hnt.trans hn
  have a0 : f.get 0 = .agg c.l := hget 0
  have hbox : newVarA H (some (.agg c.l)) = some (.val (.ptr H.nx 0) ⟨t, H.nx + 1⟩) := by
    show newA H (.cells false 0 c.l) (fun b => .ptr b 0) = _
    unfold newA
    rw [room_of (by omega), ht]
    rfl
  have s0 : ∃ f1, seqP Tryz.prog tblMay ((r0.toList.map strip).map (·.1)) (r0.toList.map strip) f H = some (f1, ⟨t, H.nx + 1⟩) ∧ f1.get 1 = .ptr H.nx 0 ∧ f1.nt = 38 ∧ f1.df = [] := by
    rw [e0]
    simp only [List.map_cons, List.map_nil]
    refine ⟨?_, ?_, ?_⟩
    rotate_left
    · skip
      repeat (first
        | (apply pval
           · with_reducible exact rfl
           · simp only [gdOk, boolIs_bool, bEq, Fr.get_putT, Nat.reduceLT, Nat.reduceEqDiff, if_true, if_false, List.getElem?_cons_succ, List.getElem?_cons_zero, Option.bind_some, id, not, a0, hbox]
           · simp only [opA, aev, convZ, conv, vA, opBin, opPick, opUn, unA, opLoad, loadVarA, agg3, agg22, agg24, siz24, opFieldAddr, fld24, ptrAdd, Nat.add_eq, Nat.zero_add, ld, ldA, List.getElem?_cons_succ, List.getElem?_cons_zero, Fr.get_putT, Nat.reduceLT, Nat.reduceEqDiff, if_true, if_false, bin_gtr64, bin_and64, bin_eql64, bin_lss64, bin_sub64, bin_add64, bin_mul64, bin_geqU, bin_leqU, bin_geq, bin_leq, a0, hbox]; with_reducible exact rfl
           · simp only [Fr.nt_putT, hnt]; decide)
        | (apply pskip
           · simp only [gdOk, boolIs_bool, bEq, Fr.get_putT, Nat.reduceLT, Nat.reduceEqDiff, if_true, if_false, List.getElem?_cons_succ, List.getElem?_cons_zero, Option.bind_some, id, not, a0, hbox]
           · simp only [Fr.nt_putT, hnt]; decide)
        | (apply pcall
           · with_reducible exact rfl
           · simp only [gdOk, boolIs_bool, bEq, Fr.get_putT, Nat.reduceLT, Nat.reduceEqDiff, if_true, if_false, List.getElem?_cons_succ, List.getElem?_cons_zero, Option.bind_some, id, not, a0, hbox]
           · simp only [opA, aev, aevs, consO, convZ, conv, opCall, opCallee, invokeA, app, Fr.get_putT, Nat.reduceLT, Nat.reduceEqDiff, if_true, if_false, a0, hbox]; exact rfl
           · skip
           · skip
           · simp only [Fr.nt_putT, hnt]; decide))
      exact pnil
    · exact ⟨by simp only [Fr.get_putT, Nat.reduceLT, Nat.reduceEqDiff, if_true, if_false], by simp only [Fr.nt_putT, hnt], by simp only [Fr.df_putT, hdf]⟩
  obtain ⟨f1, q0, p1, n1, d1⟩ := s0
  have s1 : ∃ f2, seqP Tryz.prog tblMay ((r1.toList.map strip).map (·.1)) (r1.toList.map strip) f1 ⟨t, H.nx + 1⟩ = some (f2, ⟨t, H.nx + 2⟩) ∧ f2.get 2 = .bool (quietC c) ∧ f2.df = [] := by
    rw [e1]
    unfold quietC
    simp only [List.map_cons, List.map_nil]
    cases k0 : mayD c
    · skip
      refine ⟨?_, ?_, ?_⟩
      rotate_left
      · skip
        repeat (first
          | (apply pval
             · with_reducible exact rfl
             · simp only [gdOk, boolIs_bool, bEq, Fr.get_putT, Nat.reduceLT, Nat.reduceEqDiff, if_true, if_false, List.getElem?_cons_succ, List.getElem?_cons_zero, Option.bind_some, id, not, k0, p1]
             · simp only [opA, aev, convZ, conv, vA, opBin, opPick, opUn, unA, opLoad, loadVarA, agg3, agg22, agg24, siz24, opFieldAddr, fld24, ptrAdd, Nat.add_eq, Nat.zero_add, ld, ldA, Cfg.l, List.getElem?_cons_succ, List.getElem?_cons_zero, Fr.get_putT, Nat.reduceLT, Nat.reduceEqDiff, if_true, if_false, bin_gtr64, bin_and64, bin_eql64, bin_lss64, bin_sub64, bin_add64, bin_mul64, bin_geqU, bin_leqU, bin_geq, bin_leq, k0, p1]; with_reducible exact rfl
             · simp only [Fr.nt_putT, n1]; decide)
          | (apply pskip
             · simp only [gdOk, boolIs_bool, bEq, Fr.get_putT, Nat.reduceLT, Nat.reduceEqDiff, if_true, if_false, List.getElem?_cons_succ, List.getElem?_cons_zero, Option.bind_some, id, not, k0, p1]
             · simp only [Fr.nt_putT, n1]; decide)
          | (apply pcall
             · with_reducible exact rfl
             · simp only [gdOk, boolIs_bool, bEq, Fr.get_putT, Nat.reduceLT, Nat.reduceEqDiff, if_true, if_false, List.getElem?_cons_succ, List.getElem?_cons_zero, Option.bind_some, id, not, k0, p1]
             · simp only [opA, aev, aevs, consO, convZ, conv, opCall, opCallee, invokeA, app, Fr.get_putT, Nat.reduceLT, Nat.reduceEqDiff, if_true, if_false, k0, p1]; exact rfl
             · exact mayT_eq c
             · show H.nx + 1 + 1 < mH; omega
             · simp only [Fr.nt_putT, n1]; decide))
        exact pnil
      · exact ⟨by simp only [Fr.get_putT, Nat.reduceLT, Nat.reduceEqDiff, if_true, if_false]; rfl, by simp only [Fr.df_putT, d1]⟩
    · skip
      cases k1 : iLe (addI c.c2 24) c.c3
      · skip
        refine ⟨?_, ?_, ?_⟩
        rotate_left
        · skip
          repeat (first
            | (apply pval
               · with_reducible exact rfl
               · simp only [gdOk, boolIs_bool, bEq, Fr.get_putT, Nat.reduceLT, Nat.reduceEqDiff, if_true, if_false, List.getElem?_cons_succ, List.getElem?_cons_zero, Option.bind_some, id, not, k0, k1, p1]
               · simp only [opA, aev, convZ, conv, vA, opBin, opPick, opUn, unA, opLoad, loadVarA, agg3, agg22, agg24, siz24, opFieldAddr, fld24, ptrAdd, Nat.add_eq, Nat.zero_add, ld, ldA, Cfg.l, List.getElem?_cons_succ, List.getElem?_cons_zero, Fr.get_putT, Nat.reduceLT, Nat.reduceEqDiff, if_true, if_false, bin_gtr64, bin_and64, bin_eql64, bin_lss64, bin_sub64, bin_add64, bin_mul64, bin_geqU, bin_leqU, bin_geq, bin_leq, k0, k1, p1]; with_reducible exact rfl
               · simp only [Fr.nt_putT, n1]; decide)
            | (apply pskip
               · simp only [gdOk, boolIs_bool, bEq, Fr.get_putT, Nat.reduceLT, Nat.reduceEqDiff, if_true, if_false, List.getElem?_cons_succ, List.getElem?_cons_zero, Option.bind_some, id, not, k0, k1, p1]
               · simp only [Fr.nt_putT, n1]; decide)
            | (apply pcall
               · with_reducible exact rfl
               · simp only [gdOk, boolIs_bool, bEq, Fr.get_putT, Nat.reduceLT, Nat.reduceEqDiff, if_true, if_false, List.getElem?_cons_succ, List.getElem?_cons_zero, Option.bind_some, id, not, k0, k1, p1]
               · simp only [opA, aev, aevs, consO, convZ, conv, opCall, opCallee, invokeA, app, Fr.get_putT, Nat.reduceLT, Nat.reduceEqDiff, if_true, if_false, k0, k1, p1]; exact rfl
               · exact mayT_eq c
               · show H.nx + 1 + 1 < mH; omega
               · simp only [Fr.nt_putT, n1]; decide))
          exact pnil
        · exact ⟨by simp only [Fr.get_putT, Nat.reduceLT, Nat.reduceEqDiff, if_true, if_false]; rfl, by simp only [Fr.df_putT, d1]⟩
      · skip
        cases k2 : iLe 8 c.c2
        · skip
          refine ⟨?_, ?_, ?_⟩
          rotate_left
          · skip
            repeat (first
              | (apply pval
                 · with_reducible exact rfl
                 · simp only [gdOk, boolIs_bool, bEq, Fr.get_putT, Nat.reduceLT, Nat.reduceEqDiff, if_true, if_false, List.getElem?_cons_succ, List.getElem?_cons_zero, Option.bind_some, id, not, k0, k1, k2, p1]
                 · simp only [opA, aev, convZ, conv, vA, opBin, opPick, opUn, unA, opLoad, loadVarA, agg3, agg22, agg24, siz24, opFieldAddr, fld24, ptrAdd, Nat.add_eq, Nat.zero_add, ld, ldA, Cfg.l, List.getElem?_cons_succ, List.getElem?_cons_zero, Fr.get_putT, Nat.reduceLT, Nat.reduceEqDiff, if_true, if_false, bin_gtr64, bin_and64, bin_eql64, bin_lss64, bin_sub64, bin_add64, bin_mul64, bin_geqU, bin_leqU, bin_geq, bin_leq, k0, k1, k2, p1]; with_reducible exact rfl
                 · simp only [Fr.nt_putT, n1]; decide)
              | (apply pskip
                 · simp only [gdOk, boolIs_bool, bEq, Fr.get_putT, Nat.reduceLT, Nat.reduceEqDiff, if_true, if_false, List.getElem?_cons_succ, List.getElem?_cons_zero, Option.bind_some, id, not, k0, k1, k2, p1]
                 · simp only [Fr.nt_putT, n1]; decide)
              | (apply pcall
                 · with_reducible exact rfl
                 · simp only [gdOk, boolIs_bool, bEq, Fr.get_putT, Nat.reduceLT, Nat.reduceEqDiff, if_true, if_false, List.getElem?_cons_succ, List.getElem?_cons_zero, Option.bind_some, id, not, k0, k1, k2, p1]
                 · simp only [opA, aev, aevs, consO, convZ, conv, opCall, opCallee, invokeA, app, Fr.get_putT, Nat.reduceLT, Nat.reduceEqDiff, if_true, if_false, k0, k1, k2, p1]; exact rfl
                 · exact mayT_eq c
                 · show H.nx + 1 + 1 < mH; omega
                 · simp only [Fr.nt_putT, n1]; decide))
            exact pnil
          · exact ⟨by simp only [Fr.get_putT, Nat.reduceLT, Nat.reduceEqDiff, if_true, if_false]; rfl, by simp only [Fr.df_putT, d1]⟩
        · skip
          cases k3 : iLe c.c4 2
          · skip
            refine ⟨?_, ?_, ?_⟩
            rotate_left
            · skip
              repeat (first
                | (apply pval
                   · with_reducible exact rfl
                   · simp only [gdOk, boolIs_bool, bEq, Fr.get_putT, Nat.reduceLT, Nat.reduceEqDiff, if_true, if_false, List.getElem?_cons_succ, List.getElem?_cons_zero, Option.bind_some, id, not, k0, k1, k2, k3, p1]
                   · simp only [opA, aev, convZ, conv, vA, opBin, opPick, opUn, unA, opLoad, loadVarA, agg3, agg22, agg24, siz24, opFieldAddr, fld24, ptrAdd, Nat.add_eq, Nat.zero_add, ld, ldA, Cfg.l, List.getElem?_cons_succ, List.getElem?_cons_zero, Fr.get_putT, Nat.reduceLT, Nat.reduceEqDiff, if_true, if_false, bin_gtr64, bin_and64, bin_eql64, bin_lss64, bin_sub64, bin_add64, bin_mul64, bin_geqU, bin_leqU, bin_geq, bin_leq, k0, k1, k2, k3, p1]; with_reducible exact rfl
                   · simp only [Fr.nt_putT, n1]; decide)
                | (apply pskip
                   · simp only [gdOk, boolIs_bool, bEq, Fr.get_putT, Nat.reduceLT, Nat.reduceEqDiff, if_true, if_false, List.getElem?_cons_succ, List.getElem?_cons_zero, Option.bind_some, id, not, k0, k1, k2, k3, p1]
                   · simp only [Fr.nt_putT, n1]; decide)
                | (apply pcall
                   · with_reducible exact rfl
                   · simp only [gdOk, boolIs_bool, bEq, Fr.get_putT, Nat.reduceLT, Nat.reduceEqDiff, if_true, if_false, List.getElem?_cons_succ, List.getElem?_cons_zero, Option.bind_some, id, not, k0, k1, k2, k3, p1]
                   · simp only [opA, aev, aevs, consO, convZ, conv, opCall, opCallee, invokeA, app, Fr.get_putT, Nat.reduceLT, Nat.reduceEqDiff, if_true, if_false, k0, k1, k2, k3, p1]; exact rfl
                   · exact mayT_eq c
                   · show H.nx + 1 + 1 < mH; omega
                   · simp only [Fr.nt_putT, n1]; decide))
              exact pnil
            · exact ⟨by simp only [Fr.get_putT, Nat.reduceLT, Nat.reduceEqDiff, if_true, if_false]; rfl, by simp only [Fr.df_putT, d1]⟩
          · skip
            cases k4 : iLe 64 c.c8
            · skip
              refine ⟨?_, ?_, ?_⟩
              rotate_left
              · skip
                repeat (first
                  | (apply pval
                     · with_reducible exact rfl
                     · simp only [gdOk, boolIs_bool, bEq, Fr.get_putT, Nat.reduceLT, Nat.reduceEqDiff, if_true, if_false, List.getElem?_cons_succ, List.getElem?_cons_zero, Option.bind_some, id, not, k0, k1, k2, k3, k4, p1]
                     · simp only [opA, aev, convZ, conv, vA, opBin, opPick, opUn, unA, opLoad, loadVarA, agg3, agg22, agg24, siz24, opFieldAddr, fld24, ptrAdd, Nat.add_eq, Nat.zero_add, ld, ldA, Cfg.l, List.getElem?_cons_succ, List.getElem?_cons_zero, Fr.get_putT, Nat.reduceLT, Nat.reduceEqDiff, if_true, if_false, bin_gtr64, bin_and64, bin_eql64, bin_lss64, bin_sub64, bin_add64, bin_mul64, bin_geqU, bin_leqU, bin_geq, bin_leq, k0, k1, k2, k3, k4, p1]; with_reducible exact rfl
                     · simp only [Fr.nt_putT, n1]; decide)
                  | (apply pskip
                     · simp only [gdOk, boolIs_bool, bEq, Fr.get_putT, Nat.reduceLT, Nat.reduceEqDiff, if_true, if_false, List.getElem?_cons_succ, List.getElem?_cons_zero, Option.bind_some, id, not, k0, k1, k2, k3, k4, p1]
                     · simp only [Fr.nt_putT, n1]; decide)
                  | (apply pcall
                     · with_reducible exact rfl
                     · simp only [gdOk, boolIs_bool, bEq, Fr.get_putT, Nat.reduceLT, Nat.reduceEqDiff, if_true, if_false, List.getElem?_cons_succ, List.getElem?_cons_zero, Option.bind_some, id, not, k0, k1, k2, k3, k4, p1]
                     · simp only [opA, aev, aevs, consO, convZ, conv, opCall, opCallee, invokeA, app, Fr.get_putT, Nat.reduceLT, Nat.reduceEqDiff, if_true, if_false, k0, k1, k2, k3, k4, p1]; exact rfl
                     · exact mayT_eq c
                     · show H.nx + 1 + 1 < mH; omega
                     · simp only [Fr.nt_putT, n1]; decide))
                exact pnil
              · exact ⟨by simp only [Fr.get_putT, Nat.reduceLT, Nat.reduceEqDiff, if_true, if_false]; rfl, by simp only [Fr.df_putT, d1]⟩
            · skip
              cases k5 : iEq c.c7 1048576
              · skip
                refine ⟨?_, ?_, ?_⟩
                rotate_left
                · skip
                  repeat (first
                    | (apply pval
                       · with_reducible exact rfl
                       · simp only [gdOk, boolIs_bool, bEq, Fr.get_putT, Nat.reduceLT, Nat.reduceEqDiff, if_true, if_false, List.getElem?_cons_succ, List.getElem?_cons_zero, Option.bind_some, id, not, k0, k1, k2, k3, k4, k5, p1]
                       · simp only [opA, aev, convZ, conv, vA, opBin, opPick, opUn, unA, opLoad, loadVarA, agg3, agg22, agg24, siz24, opFieldAddr, fld24, ptrAdd, Nat.add_eq, Nat.zero_add, ld, ldA, Cfg.l, List.getElem?_cons_succ, List.getElem?_cons_zero, Fr.get_putT, Nat.reduceLT, Nat.reduceEqDiff, if_true, if_false, bin_gtr64, bin_and64, bin_eql64, bin_lss64, bin_sub64, bin_add64, bin_mul64, bin_geqU, bin_leqU, bin_geq, bin_leq, k0, k1, k2, k3, k4, k5, p1]; with_reducible exact rfl
                       · simp only [Fr.nt_putT, n1]; decide)
                    | (apply pskip
                       · simp only [gdOk, boolIs_bool, bEq, Fr.get_putT, Nat.reduceLT, Nat.reduceEqDiff, if_true, if_false, List.getElem?_cons_succ, List.getElem?_cons_zero, Option.bind_some, id, not, k0, k1, k2, k3, k4, k5, p1]
                       · simp only [Fr.nt_putT, n1]; decide)
                    | (apply pcall
                       · with_reducible exact rfl
                       · simp only [gdOk, boolIs_bool, bEq, Fr.get_putT, Nat.reduceLT, Nat.reduceEqDiff, if_true, if_false, List.getElem?_cons_succ, List.getElem?_cons_zero, Option.bind_some, id, not, k0, k1, k2, k3, k4, k5, p1]
                       · simp only [opA, aev, aevs, consO, convZ, conv, opCall, opCallee, invokeA, app, Fr.get_putT, Nat.reduceLT, Nat.reduceEqDiff, if_true, if_false, k0, k1, k2, k3, k4, k5, p1]; exact rfl
                       · exact mayT_eq c
                       · show H.nx + 1 + 1 < mH; omega
                       · simp only [Fr.nt_putT, n1]; decide))
                  exact pnil
                · exact ⟨by simp only [Fr.get_putT, Nat.reduceLT, Nat.reduceEqDiff, if_true, if_false]; rfl, by simp only [Fr.df_putT, d1]⟩
              · skip
                refine ⟨?_, ?_, ?_⟩
                rotate_left
                · skip
                  repeat (first
                    | (apply pval
                       · with_reducible exact rfl
                       · simp only [gdOk, boolIs_bool, bEq, Fr.get_putT, Nat.reduceLT, Nat.reduceEqDiff, if_true, if_false, List.getElem?_cons_succ, List.getElem?_cons_zero, Option.bind_some, id, not, k0, k1, k2, k3, k4, k5, p1]
                       · simp only [opA, aev, convZ, conv, vA, opBin, opPick, opUn, unA, opLoad, loadVarA, agg3, agg22, agg24, siz24, opFieldAddr, fld24, ptrAdd, Nat.add_eq, Nat.zero_add, ld, ldA, Cfg.l, List.getElem?_cons_succ, List.getElem?_cons_zero, Fr.get_putT, Nat.reduceLT, Nat.reduceEqDiff, if_true, if_false, bin_gtr64, bin_and64, bin_eql64, bin_lss64, bin_sub64, bin_add64, bin_mul64, bin_geqU, bin_leqU, bin_geq, bin_leq, k0, k1, k2, k3, k4, k5, p1]; with_reducible exact rfl
                       · simp only [Fr.nt_putT, n1]; decide)
                    | (apply pskip
                       · simp only [gdOk, boolIs_bool, bEq, Fr.get_putT, Nat.reduceLT, Nat.reduceEqDiff, if_true, if_false, List.getElem?_cons_succ, List.getElem?_cons_zero, Option.bind_some, id, not, k0, k1, k2, k3, k4, k5, p1]
                       · simp only [Fr.nt_putT, n1]; decide)
                    | (apply pcall
                       · with_reducible exact rfl
                       · simp only [gdOk, boolIs_bool, bEq, Fr.get_putT, Nat.reduceLT, Nat.reduceEqDiff, if_true, if_false, List.getElem?_cons_succ, List.getElem?_cons_zero, Option.bind_some, id, not, k0, k1, k2, k3, k4, k5, p1]
                       · simp only [opA, aev, aevs, consO, convZ, conv, opCall, opCallee, invokeA, app, Fr.get_putT, Nat.reduceLT, Nat.reduceEqDiff, if_true, if_false, k0, k1, k2, k3, k4, k5, p1]; exact rfl
                       · exact mayT_eq c
                       · show H.nx + 1 + 1 < mH; omega
                       · simp only [Fr.nt_putT, n1]; decide))
                  exact pnil
                · exact ⟨by simp only [Fr.get_putT, Nat.reduceLT, Nat.reduceEqDiff, if_true, if_false]; rfl, by simp only [Fr.df_putT, d1]⟩
  obtain ⟨f2, q1, p2, d2⟩ := s1
  refine ⟨.ret, f2, [.bool (quietC c)], .inr rfl, codeS_seq (seqP_region tblMay_ok rfl (by rw [e0]; simp [isDefer]) q0) (codeS_seq (seqP_region tblMay_ok rfl (by rw [e1]; simp [isDefer]) q1) codeS_ret), d2, ?_, rfl⟩
  rw [hr]
  simp [resA, res1, consO, p2]

end Go.Proofs.YtginbifeinpciaaGreat
