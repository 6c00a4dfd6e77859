/- Numbers, strings, operators: what the abstract machine reckons is what the model reckons. -/
import Derived.Test.YtginbifeinpciaaGreatEvS5
import Derived.Laws.Strings
namespace Go.Ev
open Go

theorem kEq_iff {i j : IntKind} : kEq i j = true ↔ i = j := by cases i <;> cases j <;> simp [kEq]
theorem iEq_eq (a b : Int) : iEq a b = (a == b) := by
  cases a <;> cases b <;> rw [Bool.eq_iff_iff] <;> simp [iEq, Nat.beq_eq] <;> omega
theorem iLt_eq (a b : Int) : iLt a b = decide (a < b) := by
  cases a <;> cases b <;> rw [Bool.eq_iff_iff] <;> simp [iLt] <;> omega
theorem iLe_eq (a b : Int) : iLe a b = decide (a ≤ b) := by
  cases a <;> cases b <;> rw [Bool.eq_iff_iff] <;> simp [iLe] <;> omega
theorem wrap_small (k : IntKind) (a : Nat) (h : a < top k) : k.wrap (Int.ofNat a) = Int.ofNat a := by
  cases k <;> simp only [top] at h <;> simp [IntKind.wrap, IntKind.bits, IntKind.signed] <;> omega
theorem wr_eq (k : IntKind) (n : Int) : wr k n = k.wrap n := by
  unfold wr
  split
  · split
    · rename_i a x h
      have : ¬ top k ≤ a := fun h1 => by rw [Nat.ble_eq_true_of_le h1] at h; cases h
      exact (wrap_small k a (by omega)).symm
    · rfl
  · rfl
theorem top_le (k : IntKind) : top k ≤ 2 ^ k.bits := by cases k <;> decide
theorem top_pow (k : IntKind) : ∃ p, top k = 2 ^ p := by
  cases k
  · exact ⟨7, rfl⟩
  · exact ⟨15, rfl⟩
  · exact ⟨31, rfl⟩
  · exact ⟨63, rfl⟩
  · exact ⟨8, rfl⟩
  · exact ⟨16, rfl⟩
  · exact ⟨32, rfl⟩
  · exact ⟨64, rfl⟩
theorem bv_small (k : IntKind) (a : Nat) (h : a < top k) : (BitVec.ofInt k.bits (Int.ofNat a)).toNat = a := by
  show (BitVec.ofInt k.bits (a : Int)).toNat = a
  rw [BitVec.ofInt_natCast, BitVec.toNat_ofNat]
  exact Nat.mod_eq_of_lt (Nat.lt_of_lt_of_le h (top_le k))
theorem small_or {k : IntKind} {a b : Int} {f : Nat → Nat → AV} {g : Unit → AV} (hf : ∀ x y, x < top k → y < top k → a = .ofNat x → b = .ofNat y → f x y = g ()) : small k a b f g = g () := by
  unfold small
  split
  · split
    · rename_i x y z h
      have h' : (Nat.ble (Nat.succ x) (top k) && Nat.ble (Nat.succ y) (top k)) = true := h
      rw [Bool.and_eq_true] at h'
      exact hf x y (Nat.le_of_ble_eq_true h'.1) (Nat.le_of_ble_eq_true h'.2) rfl rfl
    · rfl
  · rfl
theorem andA_eq (k : IntKind) (a b : Int) : andA k a b = andG k a b := small_or fun x y hx hy ha hb => by
  subst ha; subst hb
  unfold andG
  rw [BitVec.toNat_and, bv_small k x hx, bv_small k y hy]
  have : x &&& y < top k := Nat.lt_of_le_of_lt Nat.and_le_left hx
  exact congrArg (AV.int k) (wrap_small k (x &&& y) this).symm
theorem orA_eq (k : IntKind) (a b : Int) : orA k a b = orG k a b := small_or fun x y hx hy ha hb => by
  subst ha; subst hb
  unfold orG
  rw [BitVec.toNat_or, bv_small k x hx, bv_small k y hy]
  obtain ⟨p, hp⟩ := top_pow k
  have : x ||| y < top k := by rw [hp] at hx hy ⊢; exact Nat.or_lt_two_pow hx hy
  exact congrArg (AV.int k) (wrap_small k (x ||| y) this).symm
theorem xorA_eq (k : IntKind) (a b : Int) : xorA k a b = xorG k a b := small_or fun x y hx hy ha hb => by
  subst ha; subst hb
  unfold xorG
  rw [BitVec.toNat_xor, bv_small k x hx, bv_small k y hy]
  obtain ⟨p, hp⟩ := top_pow k
  have : x ^^^ y < top k := by rw [hp] at hx hy ⊢; exact Nat.xor_lt_two_pow hx hy
  exact congrArg (AV.int k) (wrap_small k (x ^^^ y) this).symm
theorem quoA_some {k : IntKind} {a b : Int} {v : AV} (h : quoA k a b = some v) : b ≠ 0 ∧ v = .int k (k.wrap (a.tdiv b)) := by
  unfold quoA at h
  split at h
  · cases h
  · rename_i hb
    rw [iEq_eq] at hb
    injection h with h
    refine ⟨by simpa using hb, ?_⟩
    rw [← h]
    refine small_or fun x y hx hy ha hb' => ?_
    subst ha; subst hb'
    show AV.int k (Int.ofNat (x / y)) = AV.int k (k.wrap ((Int.ofNat x).tdiv (Int.ofNat y)))
    rw [show (Int.ofNat x).tdiv (Int.ofNat y) = Int.ofNat (x / y) from rfl, wrap_small k _ (Nat.lt_of_le_of_lt (Nat.div_le_self x y) hx)]
theorem remA_some {k : IntKind} {a b : Int} {v : AV} (h : remA k a b = some v) : b ≠ 0 ∧ v = .int k (a.tmod b) := by
  unfold remA at h
  split at h
  · cases h
  · rename_i hb
    rw [iEq_eq] at hb
    injection h with h
    refine ⟨by simpa using hb, ?_⟩
    rw [← h]
    refine small_or fun x y hx hy ha hb' => ?_
    subst ha; subst hb'
    rfl
theorem nmin_eq (a b : Nat) : nmin a b = min a b := by
  unfold nmin
  split
  · rename_i h; have := Nat.le_of_ble_eq_true h; omega
  · rename_i h
    have : ¬ a ≤ b := fun h1 => by rw [Nat.ble_eq_true_of_le h1] at h; cases h
    omega
section
variable {P : Program} {w : World}
/-- What stands for a number or a bool stands for the same. -/
theorem rel_intOp {op : BinOp} {k : IntKind} {a b : Int} {v : AV} (h : intOp op k a b = some v) (m : BM) : ∃ u, (binOp op 0 (.int k a) (.int k b)).run P w = .ok u w ∧ VRel m v u := by
  cases op <;> simp only [intOp] at h
  case add => injection h with h; subst h; rw [wr_eq]; exact ⟨_, by simp [binOp, Op.intArith], .int _ _⟩
  case sub => injection h with h; subst h; rw [wr_eq]; exact ⟨_, by simp [binOp, Op.intArith]; rfl, .int _ _⟩
  case mul => injection h with h; subst h; rw [wr_eq]; exact ⟨_, by simp [binOp, Op.intArith], .int _ _⟩
  case quo => obtain ⟨hb, rfl⟩ := quoA_some h; exact ⟨_, by simp [binOp, Op.intDiv, hb], .int _ _⟩
  case rem => obtain ⟨hb, rfl⟩ := remA_some h; exact ⟨_, by simp [binOp, Op.intDiv, hb], .int _ _⟩
  case and => injection h with h; subst h; rw [andA_eq]; exact ⟨_, by simp [binOp, Op.intBits], .int _ _⟩
  case or => injection h with h; subst h; rw [orA_eq]; exact ⟨_, by simp [binOp, Op.intBits], .int _ _⟩
  case xor => injection h with h; subst h; rw [xorA_eq]; exact ⟨_, by simp [binOp, Op.intBits], .int _ _⟩
  case andNot => injection h with h; subst h; exact ⟨_, by simp [binOp, Op.intBits], .int _ _⟩
  case eql => injection h with h; subst h; rw [iEq_eq]; exact ⟨_, by simp [binOp, Op.intCmp], .bool _⟩
  case neq => injection h with h; subst h; rw [iEq_eq]; exact ⟨_, by simp [binOp, Op.intCmp]; rfl, .bool _⟩
  case lss => injection h with h; subst h; rw [iLt_eq]; exact ⟨_, by simp [binOp, Op.intCmp], .bool _⟩
  case leq => injection h with h; subst h; rw [iLe_eq]; exact ⟨_, by simp [binOp, Op.intCmp], .bool _⟩
  case gtr => injection h with h; subst h; rw [iLt_eq]; exact ⟨_, by simp [binOp, Op.intCmp], .bool _⟩
  case geq => injection h with h; subst h; rw [iLe_eq]; exact ⟨_, by simp [binOp, Op.intCmp], .bool _⟩
  all_goals cases h
theorem shl_eq (k : IntKind) (a : Int) (n : Nat) : shlA k a n = .int k (k.wrap (a * 2 ^ n)) := by
  unfold shlA
  rw [wr_eq]
  cases a with
  | ofNat x =>
    show AV.int k (k.wrap (Int.ofNat (x * 2 ^ n))) = AV.int k (k.wrap (Int.ofNat x * 2 ^ n))
    congr 2
  | negSucc x => rfl
theorem shr_eq (k : IntKind) (a : Int) (n : Nat) : shrA k a n = .int k (a.fdiv (2 ^ n)) := by
  unfold shrA
  cases a with
  | ofNat x =>
    show AV.int k (Int.ofNat (x / 2 ^ n)) = AV.int k ((Int.ofNat x).fdiv (2 ^ n))
    congr 1
    show ((x / 2 ^ n : Nat) : Int) = (x : Int).fdiv (2 ^ n)
    rw [Int.fdiv_eq_ediv_of_nonneg _ (Int.pow_nonneg (by omega))]
    simp
  | negSucc x => rfl
theorem rel_shift {op : BinOp} {k j : IntKind} {a b : Int} {v : AV} (sh : IntKind → Int → Nat → AV) (h : shiftA sh k a b = some v) (m : BM)
    (hop : (op = .shl ∧ sh = shlA) ∨ (op = .shr ∧ sh = shrA)) (t : TypeId) : ∃ u, (binOp op t (.int k a) (.int j b)).run P w = .ok u w ∧ VRel m v u := by
  unfold shiftA at h
  split at h
  · rename_i y
    injection h with h
    rw [nmin_eq] at h
    subst h
    have hy : ¬ (Int.ofNat y < 0) := by simp
    have hmin : min (Int.ofNat y).toNat k.bits = min y k.bits := rfl
    rcases hop with ⟨rfl, rfl⟩ | ⟨rfl, rfl⟩
    · rw [shl_eq]
      exact ⟨_, by simp only [binOp, Op.shift, if_neg hy, hmin]; rfl, .int _ _⟩
    · rw [shr_eq]
      exact ⟨_, by simp only [binOp, Op.shift, if_neg hy, hmin]; rfl, .int _ _⟩
  · cases h
theorem u8Eq_iff (a b : UInt8) : u8Eq a b = true ↔ a = b := by
  unfold u8Eq
  rw [Nat.beq_eq]
  exact ⟨fun h => UInt8.toNat_inj.1 h, fun h => by rw [h]⟩
theorem strEq_iff : ∀ (a b : List UInt8), strEq a b = true ↔ a = b
  | [], [] => by simp [strEq]
  | [], b :: r => by simp [strEq]
  | a :: l, [] => by simp [strEq]
  | a :: l, b :: r => by
    show (u8Eq a b && strEq l r) = true ↔ _
    rw [Bool.and_eq_true, u8Eq_iff, strEq_iff l r]
    simp
theorem strEq_eq (a b : List UInt8) : strEq a b = (a == b) := by rw [Bool.eq_iff_iff, strEq_iff]; simp
theorem toList_mk (s : List UInt8) : (ByteArray.mk (Array.mk s)).toList = s := by rw [ByteArray.toList_eq]
theorem size_mk (s : List UInt8) : (ByteArray.mk (Array.mk s)).size = s.length := rfl
theorem append_mk (a b : List UInt8) : (ByteArray.mk (Array.mk a)) ++ (ByteArray.mk (Array.mk b)) = ⟨⟨a ++ b⟩⟩ := by
  apply ByteArray.ext
  simp
theorem rel_strOp {op : BinOp} {a b : List UInt8} {v : AV} (h : strOp op a b = some v) (m : BM) (t : TypeId) : ∃ u, (binOp op t (.string ⟨⟨a⟩⟩) (.string ⟨⟨b⟩⟩)).run P w = .ok u w ∧ VRel m v u := by
  cases op <;> simp only [strOp] at h
  case add =>
    split at h
    · rename_i hle
      injection h with h
      subst h
      rw [len_eq, len_eq] at hle
      have hlt : ¬ top .i64 ≤ a.length + b.length := fun h1 => by
        have : Nat.ble (top .i64) (Nat.add a.length b.length) = true := Nat.ble_eq_true_of_le h1
        rw [this] at hle; cases hle
      refine ⟨.string ⟨⟨app a b⟩⟩, ?_, .str _⟩
      have hmax : ¬ (((a.length + b.length : Nat) : Int) > IntKind.i64.max) := by
        simp [IntKind.max, IntKind.signed, IntKind.bits, top] at hlt ⊢
        omega
      simp only [binOp, Op.stringOp, size_mk, if_neg hmax, append_mk, app_eq]
      rfl
    · cases h
  case eql => injection h with h; subst h; exact ⟨_, by simp only [binOp, Op.stringOp, toList_mk, ← strEq_eq]; rfl, .bool _⟩
  case neq => injection h with h; subst h; exact ⟨_, by simp only [binOp, Op.stringOp, toList_mk, ← strEq_eq]; rfl, .bool _⟩
  case lss => injection h with h; subst h; exact ⟨_, by simp only [binOp, Op.stringOp, toList_mk]; rfl, .bool _⟩
  case leq => injection h with h; subst h; exact ⟨_, by simp only [binOp, Op.stringOp, toList_mk, ← strEq_eq]; rfl, .bool _⟩
  case gtr => injection h with h; subst h; exact ⟨_, by simp only [binOp, Op.stringOp, toList_mk, ← strEq_eq]; rfl, .bool _⟩
  case geq => injection h with h; subst h; exact ⟨_, by simp only [binOp, Op.stringOp, toList_mk]; rfl, .bool _⟩
  all_goals cases h
end
end Go.Ev
