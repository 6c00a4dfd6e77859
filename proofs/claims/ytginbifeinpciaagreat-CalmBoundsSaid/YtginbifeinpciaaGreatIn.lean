/- Pure functions of configs. -/
import Derived.Test.YtginbifeinpciaaGreatShapes
namespace Go.Proofs.YtginbifeinpciaaGreat
open Go Go.Ev
def tadd (g0 : Nat) (t : List AV → Option (AV × Nat)) (tbl : FuncId → List AV → Option (AV × Nat)) (g : FuncId) (args : List AV) : Option (AV × Nat) :=
  match Nat.beq g g0 with
  | true => t args
  | false => tbl g args
theorem pure_none : PureOk Tryz.prog (fun _ _ => none) := fun _ _ _ _ h => by cases h
theorem pure_add {g0 : Nat} {t : List AV → Option (AV × Nat)} {tbl : FuncId → List AV → Option (AV × Nat)} (h : ∀ args v d, t args = some (v, d) → ∀ H : AH, H.nx + d < mH → CallS Tryz.prog g0 args H v ⟨H.bl, H.nx + d⟩) (hp : PureOk Tryz.prog tbl) : PureOk Tryz.prog (tadd g0 t tbl) := by
  intro g args v d hg H hroom
  unfold tadd at hg
  split at hg
  · rename_i he
    have he := Nat.eq_of_beq_eq_true he
    subst he
    exact h args v d hg H hroom
  · exact hp g args v d hg H hroom
abbrev iv (n : Int) : AV := .int .i64 n
abbrev uv (n : Int) : AV := .int .u64 n
theorem iEq_self (n : Int) : iEq n n = true := by rw [iEq_eq]; simp
theorem abeq_int (k : IntKind) (n : Int) : abeq (.int k n) (.int k n) = true := by
  show and (kEq k k) (iEq n n) = true
  rw [iEq_self]
  cases k <;> rfl
theorem abeq_bool (b : Bool) : abeq (.bool b) (.bool b) = true := by cases b <;> rfl
theorem boolIs_bool (w b : Bool) : boolIs w (.bool b) = bEq b w := rfl
theorem bin_geq {P : Program} {t : TypeId} (a b : Int) : binA P .geq t (iv a) (iv b) = some (.bool (iLe b a)) := rfl
theorem bin_leq {P : Program} {t : TypeId} (a b : Int) : binA P .leq t (iv a) (iv b) = some (.bool (iLe a b)) := rfl
def inT : List AV → Option (AV × Nat)
  | [.int .i64 a, .int .i64 b, .int .i64 c] => some (.bool (and (iLe b a) (iLe a c)), 0)
  | _ => none
theorem in_ok (args : List AV) (v : AV) (d : Nat) (h : inT args = some (v, d)) (H : AH) (hroom : H.nx + d < mH) : CallS Tryz.prog 31 args H v ⟨H.bl, H.nx + d⟩ := by
  unfold inT at h
  split at h
  · rename_i a b c
    injection h with h
    injection h with h1 h2
    subst h1; subst h2
    obtain ⟨hn, hr, r0, r1, hb, e0, e1⟩ := sh31
    refine (fn_codeS (H' := H) plain Tryz.func31 hb (by rw [hn]; omega) (by rw [hn]; simp) fun f hdf hrd hnt hget => ?_).2
    have hnt : f.nt = 15 := hnt.trans hn
    have g0 : f.get 0 = iv a := hget 0
    have g1 : f.get 1 = iv b := hget 1
    have g2 : f.get 2 = iv c := hget 2
    have s0 : ∃ f1, seqK Tryz.prog (fun _ _ => none) [some 6] [(some 6, .assign (.const (.bool false)), none)] f H = some (f1, H) ∧ f1.get 0 = iv a ∧ f1.get 1 = iv b ∧ f1.get 2 = iv c ∧ f1.nt = 15 ∧ f1.df = [] := by
      simp only [seqK, gdOk, kdPR, kindOf, opA, aev, convZ, conv, vA, Fr.put_some, hnt, Nat.reduceLT]
      exact ⟨_, rfl, by simp [Fr.get_putT, g0], by simp [Fr.get_putT, g1], by simp [Fr.get_putT, g2], hnt, hdf⟩
    obtain ⟨f1, q1, a0, a1, a2, n1, d1⟩ := s0
    have s1 : ∃ f2, seqK Tryz.prog (fun _ _ => none) [some 7, some 8, some 9, some 10, some 11, some 12, some 13, some 14, some 6] [(some 7, .move (.tmp 0), none), (some 8, .move (.tmp 1), none), (some 9, .binOp .geq 3 (.tmp 7) (.tmp 8) 3, none), (some 10, .move (.tmp 9), none), (some 11, .move (.tmp 0), some (3, true)), (some 12, .move (.tmp 2), some (3, true)), (some 13, .binOp .leq 3 (.tmp 11) (.tmp 12) 3, some (3, true)), (some 14, .pick (.tmp 10) (.tmp 13) (.const (.bool false)), none), (some 6, .assign (.tmp 14), none)] f1 H = some (f2, H) ∧ f2.get 6 = .bool (and (iLe b a) (iLe a c)) ∧ f2.df = [] := by
      cases hab : iLe b a <;>
      · simp only [seqK, gdOk, kdPR, kindOf, opA, aev, convZ, conv, vA, opBin, opPick, bin_geq, bin_leq, hab, boolIs_bool, bEq, Fr.put_some, Fr.nt_putT, n1, Fr.get_putT, a0, a1, a2, Nat.reduceLT, Nat.reduceEqDiff, if_true, if_false, List.getElem?_cons_succ, List.getElem?_cons_zero, Option.bind_some, id, not]
        exact ⟨_, rfl, by simp [Fr.get_putT], d1⟩
    obtain ⟨f2, q2, b6, d2⟩ := s1
    refine ⟨.ret, f2, [.bool (and (iLe b a) (iLe a c))], .inr rfl, codeS_seq (seqK_region mixed pure_none e0 (by simp) (by simp [isDefer]) q1) (codeS_seq (seqK_region mixed pure_none e1 (by simp) (by simp [isDefer]) q2) codeS_ret), d2, ?_, rfl⟩
    rw [hr]
    simp [resA, res1, consO, b6]
  · cases h
end Go.Proofs.YtginbifeinpciaaGreat
