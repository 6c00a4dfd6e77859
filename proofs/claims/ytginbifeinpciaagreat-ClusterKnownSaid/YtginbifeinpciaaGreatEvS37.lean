/- pack.Sum, by its code. -/
import Derived.Test.YtginbifeinpciaaGreatEvS36
namespace Go.Ev
open Go Go.RowKit Go.ChangeMaps

section
variable {P : Program}
theorem loop_count {F : Fence} {c : Code} {Q : Exit → Act → World → Prop} {n : Nat} (I : Nat → Act → World → Prop) (hs : ∀ i a w, i < n → I i a w → c.wpIn F 0 P (Exit.then (I (i + 1)) Q) a w)
    (he : ∀ a w K, I n a w → c.wpIn F 0 P (Exit.then K Q) a w) : ∀ k i a w, i + k = n → I i a w → LoopN F P c Q (k + 1) a w := by
  intro k
  induction k with
  | zero => intro i a w hk hi; have : i = n := by omega
            subst this; exact he a w _ hi
  | succ k ih =>
    intro i a w hk hi
    show c.wpIn F 0 P (Exit.then (LoopN F P c Q (k + 1)) Q) a w
    refine wpIn_mono (hs i a w (by omega) hi) fun e a' w' hq => ?_
    cases e <;> first | exact hq | skip
    exact ih (i + 1) a' w' (by omega) hq
def u32 (n : Nat) : AV := .int .u32 (.ofNat n)
structure SumShape (P : Program) (fn : Func) (tS tE tU tI tV : TypeId) : Prop where
  nt : fn.ntmps = 33
  res : fn.results.toList = [.tmp 2]
  code : ∃ i0 i1 i2 i3 i4 i5 i6 i7 i8 i9 i10 i11 i12 i13 i14 id0 id1 id2 id3 r0 r1 r2 r3 r4 r5 r6 r7 r8 r9 r10 r11 r12 r13 r14, fn.body = some (.seq (.region i0 r0 false) (.seq (.region i1 r1 false) (.seq (.seq (.region i2 r2 false) (.block id0 (.loop (.seq (.region i3 r3 false) (.seq (.cond (.tmp 11) .skip (.exit id0)) (.seq (.block id1 (.seq (.region i4 r4 false) (.seq (.region i5 r5 false) (.seq (.region i6 r6 false) (.block id2 (.loop (.seq (.seq (.region i7 r7 false) (.cond (.tmp 19) .skip (.exit id2))) (.seq (.block id3 (.seq (.region i9 r9 false) (.seq (.region i10 r10 false) (.seq (.region i11 r11 false) (.cond (.tmp 27) (.region i12 r12 false) .skip))))) (.region i8 r8 false))))))))) (.region i13 r13 false))))))) (.seq (.region i14 r14 false) .ret)))) ∧
    r0.toList.map strip = [(some 2, .assign (.const (.int .u32 0)), none)] ∧ r1.toList.map strip = [(some 3, .assign (.const (.int .u32 4294967295)), none)] ∧
    r2.toList.map strip = [(some 8, .move (.tmp 0), none), (some 9, .call ⟨.builtin .len, #[.tmp 8], #[tS]⟩, none), (some 10, .move (.const (.int .i64 0)), none)] ∧
    r3.toList.map strip = [(some 11, .binOp .lss tI (.tmp 10) (.tmp 9) tI, none)] ∧
    r4.toList.map strip = [(some 12, .indexAddr tS (.tmp 8) (.tmp 10), none), (some 13, .load tE (.tmp 12), none), (some 5, .assign (.tmp 13), none)] ∧
    r5.toList.map strip = [(some 14, .move (.tmp 3), none), (some 15, .move (.tmp 5), none), (some 16, .convert tE tU (.tmp 15), none), (some 17, .binOp .xor tU (.tmp 14) (.tmp 16) tU, none), (some 3, .assign (.tmp 17), none)] ∧
    r6.toList.map strip = [(some 6, .assign (.const (.int .i64 0)), none)] ∧
    r7.toList.map strip = [(some 18, .move (.tmp 6), none), (some 19, .binOp .lss tI (.tmp 18) (.const (.int .i64 8)) tI, none)] ∧
    r9.toList.map strip = [(some 22, .move (.tmp 3), none), (some 23, .binOp .and tU (.tmp 22) (.const (.int .u32 1)) tU, none), (some 7, .assign (.tmp 23), none)] ∧
    r10.toList.map strip = [(some 24, .move (.tmp 3), none), (some 25, .binOp .shr tU (.tmp 24) (.const (.int .u64 1)) tV, none), (some 3, .assign (.tmp 25), none)] ∧
    r11.toList.map strip = [(some 26, .move (.tmp 7), none), (some 27, .binOp .eql tU (.tmp 26) (.const (.int .u32 1)) tU, none)] ∧
    r12.toList.map strip = [(some 28, .move (.tmp 3), none), (some 29, .binOp .xor tU (.tmp 28) (.const (.int .u32 2197175160)) tU, none), (some 3, .assign (.tmp 29), none)] ∧
    r8.toList.map strip = [(some 20, .move (.tmp 6), none), (some 21, .binOp .add tI (.tmp 20) (.const (.int .i64 1)) tI, none), (some 6, .assign (.tmp 21), none)] ∧
    r13.toList.map strip = [(some 30, .binOp .add tI (.tmp 10) (.const (.int .i64 1)) tI, none), (some 10, .move (.tmp 30), none)] ∧
    r14.toList.map strip = [(some 31, .move (.tmp 3), none), (some 32, .unOp .xor tU (.tmp 31), none), (some 2, .assign (.tmp 32), none)]
  slS : P.underlying tS = some (.slice tE)
  aggE : aggT P tE = some false
  szE : sizeT P tE = some 1
  inE : P.underlying tE = some (.int .u8)
  inU : P.underlying tU = some (.int .u32)
noncomputable def step8 (h : Nat) : Nat := Bool.rec (Nat.shiftRight h 1) (Nat.xor (Nat.shiftRight h 1) 2197175160) (Nat.beq (Nat.land h 1) 1)
theorem crc8_zero (h : Nat) : crc8 h 0 = h := rfl
theorem crc8_head (h n : Nat) : crc8 h (n + 1) = crc8 (step8 h) n := rfl
theorem crc8_succ : ∀ (n h : Nat), crc8 h (n + 1) = step8 (crc8 h n)
  | 0, h => rfl
  | n + 1, h => by rw [crc8_head, crc8_succ n (step8 h), crc8_head]
theorem shiftRight_lt {h : Nat} (hh : h < 4294967296) : Nat.shiftRight h 1 < 4294967296 := by
  show h >>> 1 < _
  rw [Nat.shiftRight_eq_div_pow]
  omega
theorem xor_lt {a b : Nat} (ha : a < 4294967296) (hb : b < 4294967296) : Nat.xor a b < 4294967296 := by
  show a ^^^ b < 2 ^ 32
  exact Nat.xor_lt_two_pow (by simpa using ha) (by simpa using hb)
theorem step8_lt {h : Nat} (hh : h < 4294967296) : step8 h < 4294967296 := by
  unfold step8
  cases Nat.beq (Nat.land h 1) 1 with
  | false => exact shiftRight_lt hh
  | true => exact xor_lt (shiftRight_lt hh) (by decide)
theorem crc8_lt : ∀ (n : Nat) {h : Nat}, h < 4294967296 → crc8 h n < 4294967296
  | 0, _, hh => hh
  | n + 1, h, hh => by rw [crc8_head]; exact crc8_lt n (step8_lt hh)
theorem small32 {x y : Nat} (hx : x < 4294967296) (hy : y < 4294967296) (f : Nat → Nat → AV) (g : Unit → AV) : small .u32 (.ofNat x) (.ofNat y) f g = f x y := by
  unfold small
  have h1 : Nat.ble (Nat.succ x) (top .u32) = true := Nat.ble_eq_true_of_le hx
  have h2 : Nat.ble (Nat.succ y) (top .u32) = true := Nat.ble_eq_true_of_le hy
  simp only [h1, h2]
  rfl
theorem bin_and {t : TypeId} {x y : Nat} (hx : x < 4294967296) (hy : y < 4294967296) : binA P .and t (u32 x) (u32 y) = some (u32 (Nat.land x y)) := by
  show some (andA .u32 (.ofNat x) (.ofNat y)) = _
  unfold andA
  rw [small32 hx hy]
  rfl
theorem bin_xor {t : TypeId} {x y : Nat} (hx : x < 4294967296) (hy : y < 4294967296) : binA P .xor t (u32 x) (u32 y) = some (u32 (Nat.xor x y)) := by
  show some (xorA .u32 (.ofNat x) (.ofNat y)) = _
  unfold xorA
  rw [small32 hx hy]
  rfl
theorem bin_shr {t : TypeId} {x : Nat} : binA P .shr t (u32 x) (.int .u64 (.ofNat 1)) = some (u32 (Nat.shiftRight x 1)) := by
  show some (AV.int .u32 (.ofNat (Nat.div x (Nat.pow 2 1)))) = _
  have : Nat.div x (Nat.pow 2 1) = Nat.shiftRight x 1 := by
    show x / 2 ^ 1 = x >>> 1
    rw [Nat.shiftRight_eq_div_pow]
  rw [this]
  rfl
theorem bin_lss {t : TypeId} {x y : Nat} : binA P .lss t (nA x) (nA y) = some (.bool (Nat.ble (Nat.succ x) y)) := rfl
theorem bin_eql {t : TypeId} {x y : Nat} : binA P .eql t (u32 x) (u32 y) = some (.bool (Nat.beq x y)) := rfl
theorem bin_add {t : TypeId} {x y : Nat} (h : x + y < 9223372036854775808) : binA P .add t (nA x) (nA y) = some (nA (x + y)) := by
  show some (AV.int .i64 (wr .i64 (Int.add (.ofNat x) (.ofNat y)))) = _
  have : Int.add (.ofNat x) (.ofNat y) = .ofNat (x + y) := rfl
  rw [this]
  unfold wr
  have h3 : Nat.ble (top .i64) (x + y) = false := by
    cases hb : Nat.ble (top .i64) (x + y) with
    | false => rfl
    | true =>
      have : 9223372036854775808 ≤ x + y := Nat.le_of_ble_eq_true hb
      omega
  simp only [h3]
  rfl
theorem not_u32 {h : Nat} (hh : h < 4294967296) : unA .xor (u32 h) = some (u32 (Nat.xor h 4294967295)) := by
  show some (xorG .u32 4294967295 (.ofNat h)) = _
  unfold xorG
  have h1 : (BitVec.ofInt 32 4294967295 ^^^ BitVec.ofInt 32 (Int.ofNat h)).toNat = Nat.xor h 4294967295 := by
    rw [BitVec.toNat_xor]
    have e1 : (BitVec.ofInt 32 4294967295).toNat = 4294967295 := by decide
    have e2 : (BitVec.ofInt 32 (Int.ofNat h)).toNat = h := by
      rw [BitVec.toNat_ofInt]
      show ((h : Int) % 4294967296).toNat = h
      omega
    rw [e1, e2, Nat.xor_comm]
    rfl
  have h2 : Nat.xor h 4294967295 < 4294967296 := xor_lt hh (by decide)
  show some (AV.int .u32 (IntKind.wrap .u32 ((BitVec.ofInt 32 4294967295 ^^^ BitVec.ofInt 32 (Int.ofNat h)).toNat : Int))) = _
  rw [h1]
  generalize Nat.xor h 4294967295 = y at h2
  have : IntKind.wrap .u32 (y : Int) = .ofNat y := by
    simp [IntKind.wrap, IntKind.bits, IntKind.signed]
    omega
  rw [this]
  rfl
theorem crcL_cons {v : AV} {l : List AV} {h hf : Nat} (e : crcL (v :: l) h = some hf) : ∃ x, v = .int .u8 (.ofNat x) ∧ x < 256 ∧ crcL l (crc8 (Nat.xor h x) 8) = some hf := by
  unfold crcL at e
  split at e
  · rename_i k x
    split at e
    · rename_i hk
      have hk : (kEq k .u8 && Nat.ble x 255) = true := hk
      rw [Bool.and_eq_true] at hk
      have hx := Nat.le_of_ble_eq_true hk.2
      refine ⟨x, ?_, by omega, e⟩
      have : k = .u8 := by cases k <;> first | rfl | (have := hk.1; cases this)
      rw [this]
    · cases e
  · cases e
theorem sum_some {args : List AV} {H H' : AH} {v : AV} (h : sumP args H = some (v, H')) : H' = H ∧ ((args = [.snil] ∧ v = u32 0) ∨
    ∃ b o n c l hf, args = [.slice b o n c] ∧ n < 9223372036854775808 ∧ loadA H b o n = some l ∧ crcL l 4294967295 = some hf ∧ v = u32 (Nat.xor hf 4294967295)) := by
  unfold sumP at h
  split at h
  · injection h with h
    injection h with h1 h2
    exact ⟨h2.symm, .inl ⟨rfl, h1.symm⟩⟩
  · rename_i b o n c
    split at h
    · rename_i hn
      unfold sumC at h
      split at h
      · rename_i l hl
        unfold sumO at h
        split at h
        · rename_i hf hc
          injection h with h
          injection h with h1 h2
          refine ⟨h2.symm, .inr ⟨b, o, n, c, l, hf, rfl, ?_, hl, hc, h1.symm⟩⟩
          rcases Nat.lt_or_ge n 9223372036854775808 with h3 | h3
          · exact h3
          · have : Nat.ble (top .i64) n = true := Nat.ble_eq_true_of_le h3
            rw [this] at hn; cases hn
        · cases h
      · cases h
    · cases h
  · cases h
theorem evalBool {m : BM} {r : Option Nat} {f : Fr} {a : Act} (fr : FrRel m r f a) {t : Nat} {b : Bool} (h : f.get t = .bool b) : a.eval (.tmp t) = .bool b := by
  have := aev_rel fr.ev (x := .tmp t) rfl
  rw [h] at this
  generalize a.eval (.tmp t) = u at this
  cases this
  rfl
theorem sum_sound (hp : Plain P) {g : FuncId} {fn : Func} (hg : P.funcs[g]? = some fn) {tS tE tU tI tV : TypeId} (sh : SumShape P fn tS tE tU tI tV) {args : List AV} {H H' : AH} {v : AV} (h : sumP args H = some (v, H')) :
    H.nx ≤ H'.nx ∧ CallS P g args H v H' := by
  obtain ⟨rfl, hcase⟩ := sum_some h
  -- one form for both
  obtain ⟨x, n, l, hf, hargs, hn, hlenl, hcrc, hv, hlenA, hload⟩ : ∃ x n l hf, args = [x] ∧ n < 9223372036854775808 ∧ l.length = n ∧ crcL l 4294967295 = some hf ∧ v = u32 (Nat.xor hf 4294967295) ∧
      lenA P x H' (P.underlying tS) = some (nA n) ∧ ∀ i, i < n → ∃ b o c, x = .slice b o n c ∧ load1 H' b (o + i) = l[i]? := by
    rcases hcase with ⟨h1, h2⟩ | ⟨b, o, n, c, l, hf, h1, h2, h3, h4, h5⟩
    · refine ⟨.snil, 0, [], 4294967295, h1, by omega, rfl, rfl, h2, by rw [sh.slS]; rfl, fun i hi => by omega⟩
    · have hl : l.length = n := by
        unfold loadA at h3
        split at h3
        · rename_i cs hcs
          unfold inRange at h3
          split at h3
          · rename_i hle
            injection h3 with h3
            have := Nat.le_of_ble_eq_true hle
            rw [len_eq] at this
            have this : o + n ≤ cs.length := this
            rw [← h3, cut_eq]
            simp
            omega
          · cases h3
        · cases h3
      refine ⟨_, n, l, hf, h1, h2, hl, h4, h5, by rw [sh.slS]; rfl, fun i hi => ⟨b, o, c, rfl, ?_⟩⟩
      have : l[i]? = some l[i] := List.getElem?_eq_getElem (by omega)
      rw [this]
      exact load_nth h3 this
  obtain ⟨i0, i1, i2, i3, i4, i5, i6, i7, i8, i9, i10, i11, i12, i13, i14, id0, id1, id2, id3, r0, r1, r2, r3, r4, r5, r6, r7, r8, r9, r10, r11, r12, r13, r14, hbody, e0, e1, e2, e3, e4, e5, e6, e7, e9, e10, e11, e12, e8, e13, e14⟩ := sh.code
  refine ⟨Nat.le_refl _, walk_fn hp hg hbody (by rw [sh.nt]; omega) (by rw [hargs, sh.nt]; simp) fun N m w a f hN st fr hdf hrd hnt hget => ?_⟩
  have hnt : f.nt = 33 := hnt.trans sh.nt
  have hg0 : f.get 0 = x := by rw [hget, hargs]; rfl
  have c0 : convZ (.int .u32 0) = some (u32 0) := rfl
  have c1 : convZ (.int .u32 4294967295) = some (u32 4294967295) := rfl
  have c2 : convZ (.int .i64 0) = some (nA 0) := rfl
  have c3 : convZ (.int .i64 8) = some (nA 8) := rfl
  have c4 : convZ (.int .u32 1) = some (u32 1) := rfl
  have c5 : convZ (.int .u64 1) = some (.int .u64 (.ofNat 1)) := rfl
  have c6 : convZ (.int .u32 2197175160) = some (u32 2197175160) := rfl
  have c7 : convZ (.int .i64 1) = some (nA 1) := rfl
  have s0 : seqS P [(some 2, .assign (.const (.int .u32 0)), none)] f H' = some (f.putT 2 (u32 0), H') := by
    simp [seqS, opA, aev, c0, vA, Fr.put_some, hnt]
  refine wpIn_seq ((seqS_region e0 s0).2 N m w a none hN st fr _ fun m1 a1 w1 s1 st1 fr1 => ?_)
  have s1' : seqS P [(some 3, .assign (.const (.int .u32 4294967295)), none)] (f.putT 2 (u32 0)) H' = some ((f.putT 2 (u32 0)).putT 3 (u32 4294967295), H') := by
    simp [seqS, opA, aev, c1, vA, Fr.put_some, hnt, Fr.nt_putT]
  refine wpIn_seq ((seqS_region e1 s1').2 N m1 w1 a1 none hN st1 fr1 _ fun m2 a2 w2 s2 st2 fr2 => ?_)
  obtain ⟨f2, hf2⟩ : ∃ f2, f2 = (f.putT 2 (u32 0)).putT 3 (u32 4294967295) := ⟨_, rfl⟩
  rw [← hf2] at fr2
  have g20 : f2.get 0 = x := by rw [hf2]; simp [Fr.get_putT, hg0]
  have g23 : f2.get 3 = u32 4294967295 := by rw [hf2]; simp [Fr.get_putT]
  have nt2 : f2.nt = 33 := by rw [hf2]; simp [Fr.nt_putT, hnt]
  have df2 : f2.df = [] := by rw [hf2]; exact hdf
  have s2' : seqS P [(some 8, .move (.tmp 0), none), (some 9, .call ⟨.builtin .len, #[.tmp 8], #[tS]⟩, none), (some 10, .move (.const (.int .i64 0)), none)] f2 H' = some (((f2.putT 8 x).putT 9 (nA n)).putT 10 (nA 0), H') := by
    simp [seqS, opA, aev, aevs, consO, c2, vA, Fr.put_some, nt2, Fr.nt_putT, g20, Fr.get_putT, opCall, opCallee, builtinA, builtinR, builtin1, hlenA]
  refine wpIn_seq (wpIn_seq ((seqS_region e2 s2').2 N m2 w2 a2 none hN st2 fr2 _ fun m3 a3 w3 s3 st3 fr3 => ?_))
  -- the state at the loop's head
  have hl0 : crcL (l.drop 0) 4294967295 = some hf := hcrc
  let S : Nat → Act → World → Prop := fun i a' w' => ∃ m' f' hi, Stp m H' w m' H' w' ∧ St N m' H' w' ∧ FrRel m' none f' a' ∧ f'.get 8 = x ∧ f'.get 9 = nA n ∧ f'.get 10 = nA i ∧ f'.get 3 = u32 hi ∧ hi < 4294967296 ∧ crcL (l.drop i) hi = some hf ∧ f'.nt = 33 ∧ f'.df = []
  have start : S 0 a3 w3 := ⟨m3, _, _, (s1.trans s2).trans s3, st3, fr3, by simp [Fr.get_putT], by simp [Fr.get_putT], by simp [Fr.get_putT], by simp [Fr.get_putT, g23], by decide, hl0, by simp [Fr.nt_putT, nt2], by simp [Fr.df_putT, df2]⟩
  have head : ∀ (i : Nat) (m' : BM) (f' : Fr) a' w', St N m' H' w' → FrRel m' none f' a' → f'.get 9 = nA n → f'.get 10 = nA i → f'.nt = 33 → ∀ Q, (∀ m2 a2 w2, Stp m' H' w' m2 H' w2 → St N m2 H' w2 → FrRel m2 none (f'.putT 11 (.bool (Nat.ble (Nat.succ i) n))) a2 → Q .normal a2 w2) → (Code.region i3 r3 false).wpIn (FW none) 0 P Q a' w' := by
    intro i m' f' a' w' st' fr' g9 g10 nt' Q hQ
    have hr : seqS P [(some 11, .binOp .lss tI (.tmp 10) (.tmp 9) tI, none)] f' H' = some (f'.putT 11 (.bool (Nat.ble (Nat.succ i) n)), H') := by
      simp [seqS, opA, aev, vA, Fr.put_some, nt', g9, g10, opBin, bin_lss]
    exact (seqS_region e3 hr).2 N m' w' a' none hN st' fr' Q hQ
  refine wpIn_block (wpIn_loopN (loop_count (n := n) S ?hs ?he n 0 a3 w3 (by omega) start))
  case hs =>
    rintro i a' w' hi ⟨m', f', hh, q1, q2, q3, g8, g9, g10, g3, hlt, hc, nt', df'⟩
    refine wpIn_seq (head i m' f' a' w' q2 q3 g9 g10 nt' _ fun m4 a4 w4 s4 st4 fr4 => ?_)
    have hle : Nat.ble (Nat.succ i) n = true := Nat.ble_eq_true_of_le hi
    refine wpIn_seq (wpIn_cond_true (evalBool fr4 (t := 11) (b := true) (by rw [Fr.get_putT _ _ _ _ (by omega), if_pos rfl, hle])) (wpIn_skip (wpIn_seq (wpIn_block (wpIn_seq ?_)))))
    obtain ⟨f4, hf4⟩ : ∃ f4, f4 = f'.putT 11 (.bool (Nat.ble (Nat.succ i) n)) := ⟨_, rfl⟩
    rw [← hf4] at fr4
    have g48 : f4.get 8 = x := by rw [hf4]; simp [Fr.get_putT, g8]
    have g49 : f4.get 9 = nA n := by rw [hf4]; simp [Fr.get_putT, g9]
    have g410 : f4.get 10 = nA i := by rw [hf4]; simp [Fr.get_putT, g10]
    have g43 : f4.get 3 = u32 hh := by rw [hf4]; simp [Fr.get_putT, g3]
    have nt4 : f4.nt = 33 := by rw [hf4]; simp [Fr.nt_putT, nt']
    have df4 : f4.df = [] := by rw [hf4]; simp [Fr.df_putT, df']
    have hil : i < l.length := by omega
    rw [List.drop_eq_getElem_cons hil] at hc
    obtain ⟨y, hy, hy256, hc'⟩ := crcL_cons hc
    obtain ⟨b, o, c, hx, hld⟩ := hload i hi
    rw [List.getElem?_eq_getElem hil, hy] at hld
    have hidx : indexAddrA P tS x (natOf (nA i)) = some (.ptr b (o + i)) := by
      rw [hx]
      show indexAddrN P (.slice b o n c) i (P.underlying tS) = _
      rw [sh.slS]
      show atIndex b o i n (sizeT P tE) = _
      rw [sh.szE]
      unfold atIndex
      have : Nat.ble n i = false := by
        cases hb : Nat.ble n i with
        | false => rfl
        | true => have := Nat.le_of_ble_eq_true hb; omega
      rw [this]
      show some (AV.ptr b (o + i * 1)) = _
      rw [Nat.mul_one]
    have hr4 : seqS P [(some 12, .indexAddr tS (.tmp 8) (.tmp 10), none), (some 13, .load tE (.tmp 12), none), (some 5, .assign (.tmp 13), none)] f4 H' =
        some (((f4.putT 12 (.ptr b (o + i))).putT 13 (.int .u8 (.ofNat y))).putT 5 (.int .u8 (.ofNat y)), H') := by
      simp only [seqS, opA, aev, vA, Fr.put_some, nt4, Fr.nt_putT, g48, g410, Fr.get_putT, opIndexAddr, hidx, opLoad, loadVarA, sh.aggE, hld, Nat.reduceLT, Nat.reduceEqDiff, if_true, if_false]
    refine (seqS_region e4 hr4).2 N m4 w4 a4 none hN st4 fr4 _ fun m5 a5 w5 s5 st5 fr5 => wpIn_seq ?_
    obtain ⟨f5, hf5⟩ : ∃ f5, f5 = ((f4.putT 12 (.ptr b (o + i))).putT 13 (.int .u8 (.ofNat y))).putT 5 (.int .u8 (.ofNat y)) := ⟨_, rfl⟩
    rw [← hf5] at fr5
    have g58 : f5.get 8 = x := by rw [hf5]; simp [Fr.get_putT, g48]
    have g59 : f5.get 9 = nA n := by rw [hf5]; simp [Fr.get_putT, g49]
    have g510 : f5.get 10 = nA i := by rw [hf5]; simp [Fr.get_putT, g410]
    have g53 : f5.get 3 = u32 hh := by rw [hf5]; simp [Fr.get_putT, g43]
    have g55 : f5.get 5 = .int .u8 (.ofNat y) := by rw [hf5]; simp [Fr.get_putT]
    have nt5 : f5.nt = 33 := by rw [hf5]; simp [Fr.nt_putT, nt4]
    have df5 : f5.df = [] := by rw [hf5]; simp [Fr.df_putT, df4]
    have hconv : convA P tE tU (.int .u8 (.ofNat y)) H' = some (.val (u32 y) H') := by
      unfold convA
      rw [sh.inE, sh.inU]
      show some (AR.val (.int .u32 (wr .u32 (.ofNat y))) H') = _
      unfold wr
      have : Nat.ble (top .u32) y = false := by
        cases hb : Nat.ble (top .u32) y with
        | false => rfl
        | true => have : 4294967296 ≤ y := Nat.le_of_ble_eq_true hb; omega
      simp only [this]
      rfl
    have hxor : binA P .xor tU (u32 hh) (u32 y) = some (u32 (Nat.xor hh y)) := bin_xor hlt (by omega)
    have hr5 : seqS P [(some 14, .move (.tmp 3), none), (some 15, .move (.tmp 5), none), (some 16, .convert tE tU (.tmp 15), none), (some 17, .binOp .xor tU (.tmp 14) (.tmp 16) tU, none), (some 3, .assign (.tmp 17), none)] f5 H' =
        some (((((f5.putT 14 (u32 hh)).putT 15 (.int .u8 (.ofNat y))).putT 16 (u32 y)).putT 17 (u32 (Nat.xor hh y))).putT 3 (u32 (Nat.xor hh y)), H') := by
      simp only [seqS, opA, aev, vA, Fr.put_some, nt5, Fr.nt_putT, g53, g55, Fr.get_putT, opConv, hconv, opBin, hxor, Nat.reduceLT, Nat.reduceEqDiff, if_true, if_false]
    refine (seqS_region e5 hr5).2 N m5 w5 a5 none hN st5 fr5 _ fun m6 a6 w6 s6 st6 fr6 => wpIn_seq ?_
    obtain ⟨f6, hf6⟩ : ∃ f6, f6 = ((((f5.putT 14 (u32 hh)).putT 15 (.int .u8 (.ofNat y))).putT 16 (u32 y)).putT 17 (u32 (Nat.xor hh y))).putT 3 (u32 (Nat.xor hh y)) := ⟨_, rfl⟩
    rw [← hf6] at fr6
    have g68 : f6.get 8 = x := by rw [hf6]; simp [Fr.get_putT, g58]
    have g69 : f6.get 9 = nA n := by rw [hf6]; simp [Fr.get_putT, g59]
    have g610 : f6.get 10 = nA i := by rw [hf6]; simp [Fr.get_putT, g510]
    have g63 : f6.get 3 = u32 (Nat.xor hh y) := by rw [hf6]; simp [Fr.get_putT]
    have nt6 : f6.nt = 33 := by rw [hf6]; simp [Fr.nt_putT, nt5]
    have df6 : f6.df = [] := by rw [hf6]; simp [Fr.df_putT, df5]
    have hr6 : seqS P [(some 6, .assign (.const (.int .i64 0)), none)] f6 H' = some (f6.putT 6 (nA 0), H') := by
      simp only [seqS, opA, aev, vA, c2, Fr.put_some, nt6, Nat.reduceLT]
    refine (seqS_region e6 hr6).2 N m6 w6 a6 none hN st6 fr6 _ fun m7 a7 w7 s7 st7 fr7 => ?_
    have hx0 : Nat.xor hh y < 4294967296 := xor_lt hlt (by omega)
    -- the inner loop
    let T : Nat → Act → World → Prop := fun j a' w' => ∃ m' f', Stp m H' w m' H' w' ∧ St N m' H' w' ∧ FrRel m' none f' a' ∧ f'.get 8 = x ∧ f'.get 9 = nA n ∧ f'.get 10 = nA i ∧ f'.get 6 = nA j ∧ f'.get 3 = u32 (crc8 (Nat.xor hh y) j) ∧ f'.nt = 33 ∧ f'.df = []
    have start2 : T 0 a7 w7 := ⟨m7, _, ((q1.trans s4).trans (s5.trans s6)).trans s7, st7, fr7, by simp [Fr.get_putT, g68], by simp [Fr.get_putT, g69], by simp [Fr.get_putT, g610], by simp [Fr.get_putT], by simp [Fr.get_putT, g63, crc8_zero], by simp [Fr.nt_putT, nt6], by simp [Fr.df_putT, df6]⟩
    have head2 : ∀ (j : Nat) (m' : BM) (f' : Fr) a' w', St N m' H' w' → FrRel m' none f' a' → f'.get 6 = nA j → f'.nt = 33 → ∀ Q, (∀ m2 a2 w2, Stp m' H' w' m2 H' w2 → St N m2 H' w2 → FrRel m2 none ((f'.putT 18 (nA j)).putT 19 (.bool (Nat.ble (Nat.succ j) 8))) a2 → Q .normal a2 w2) → (Code.region i7 r7 false).wpIn (FW none) 0 P Q a' w' := by
      intro j m' f' a' w' st' fr' g6 nt' Q hQ
      have hr : seqS P [(some 18, .move (.tmp 6), none), (some 19, .binOp .lss tI (.tmp 18) (.const (.int .i64 8)) tI, none)] f' H' = some ((f'.putT 18 (nA j)).putT 19 (.bool (Nat.ble (Nat.succ j) 8)), H') := by
        simp only [seqS, opA, aev, vA, c3, Fr.put_some, nt', Fr.nt_putT, g6, Fr.get_putT, opBin, bin_lss, Nat.reduceLT, if_true]
      exact (seqS_region e7 hr).2 N m' w' a' none hN st' fr' Q hQ
    refine wpIn_block (wpIn_loopN (loop_count (n := 8) T ?hs2 ?he2 8 0 a7 w7 rfl start2))
    case hs2 =>
      rintro j a' w' hj ⟨m', f', q1, q2, q3, g8, g9, g10, g6, g3, nt', df'⟩
      refine wpIn_seq (wpIn_seq (head2 j m' f' a' w' q2 q3 g6 nt' _ fun m4 a4 w4 s4 st4 fr4 => ?_))
      have hle : Nat.ble (Nat.succ j) 8 = true := Nat.ble_eq_true_of_le hj
      refine wpIn_cond_true (evalBool fr4 (t := 19) (b := true) (by rw [Fr.get_putT _ _ _ _ (by omega), if_pos rfl, hle])) (wpIn_skip (wpIn_seq (wpIn_block (wpIn_seq ?_))))
      obtain ⟨f4, hf4⟩ : ∃ f4, f4 = (f'.putT 18 (nA j)).putT 19 (.bool (Nat.ble (Nat.succ j) 8)) := ⟨_, rfl⟩
      rw [← hf4] at fr4
      have g48 : f4.get 8 = x := by rw [hf4]; simp [Fr.get_putT, g8]
      have g49 : f4.get 9 = nA n := by rw [hf4]; simp [Fr.get_putT, g9]
      have g410 : f4.get 10 = nA i := by rw [hf4]; simp [Fr.get_putT, g10]
      have g46 : f4.get 6 = nA j := by rw [hf4]; simp [Fr.get_putT, g6]
      have nt4 : f4.nt = 33 := by rw [hf4]; simp [Fr.nt_putT, nt']
      have df4 : f4.df = [] := by rw [hf4]; simp [Fr.df_putT, df']
      obtain ⟨h, hh'⟩ : ∃ h, h = crc8 (Nat.xor hh y) j := ⟨_, rfl⟩
      have hlt' : h < 4294967296 := by rw [hh']; exact crc8_lt j hx0
      have hnext : crc8 (Nat.xor hh y) (j + 1) = step8 h := by rw [crc8_succ, hh']
      have g43 : f4.get 3 = u32 h := by rw [hf4]; simp [Fr.get_putT, g3, hh']
      have hr9 : seqS P [(some 22, .move (.tmp 3), none), (some 23, .binOp .and tU (.tmp 22) (.const (.int .u32 1)) tU, none), (some 7, .assign (.tmp 23), none)] f4 H' =
          some (((f4.putT 22 (u32 h)).putT 23 (u32 (Nat.land h 1))).putT 7 (u32 (Nat.land h 1)), H') := by
        have hb : binA P .and tU (u32 h) (u32 1) = some (u32 (Nat.land h 1)) := bin_and hlt' (by decide)
        simp only [seqS, opA, aev, vA, c4, Fr.put_some, nt4, Fr.nt_putT, g43, Fr.get_putT, opBin, hb, Nat.reduceLT, Nat.reduceEqDiff, if_true, if_false]
      refine (seqS_region e9 hr9).2 N m4 w4 a4 none hN st4 fr4 _ fun m5 a5 w5 s5 st5 fr5 => wpIn_seq ?_
      obtain ⟨f5, hf5⟩ : ∃ f5, f5 = ((f4.putT 22 (u32 h)).putT 23 (u32 (Nat.land h 1))).putT 7 (u32 (Nat.land h 1)) := ⟨_, rfl⟩
      rw [← hf5] at fr5
      have g58 : f5.get 8 = x := by rw [hf5]; simp [Fr.get_putT, g48]
      have g59 : f5.get 9 = nA n := by rw [hf5]; simp [Fr.get_putT, g49]
      have g510 : f5.get 10 = nA i := by rw [hf5]; simp [Fr.get_putT, g410]
      have g56 : f5.get 6 = nA j := by rw [hf5]; simp [Fr.get_putT, g46]
      have g53 : f5.get 3 = u32 h := by rw [hf5]; simp [Fr.get_putT, g43]
      have g57 : f5.get 7 = u32 (Nat.land h 1) := by rw [hf5]; simp [Fr.get_putT]
      have nt5 : f5.nt = 33 := by rw [hf5]; simp [Fr.nt_putT, nt4]
      have df5 : f5.df = [] := by rw [hf5]; simp [Fr.df_putT, df4]
      have hr10 : seqS P [(some 24, .move (.tmp 3), none), (some 25, .binOp .shr tU (.tmp 24) (.const (.int .u64 1)) tV, none), (some 3, .assign (.tmp 25), none)] f5 H' =
          some (((f5.putT 24 (u32 h)).putT 25 (u32 (Nat.shiftRight h 1))).putT 3 (u32 (Nat.shiftRight h 1)), H') := by
        simp only [seqS, opA, aev, vA, c5, Fr.put_some, nt5, Fr.nt_putT, g53, Fr.get_putT, opBin, bin_shr, Nat.reduceLT, Nat.reduceEqDiff, if_true, if_false]
      refine (seqS_region e10 hr10).2 N m5 w5 a5 none hN st5 fr5 _ fun m6 a6 w6 s6 st6 fr6 => wpIn_seq ?_
      obtain ⟨f6, hf6⟩ : ∃ f6, f6 = ((f5.putT 24 (u32 h)).putT 25 (u32 (Nat.shiftRight h 1))).putT 3 (u32 (Nat.shiftRight h 1)) := ⟨_, rfl⟩
      rw [← hf6] at fr6
      have g68 : f6.get 8 = x := by rw [hf6]; simp [Fr.get_putT, g58]
      have g69 : f6.get 9 = nA n := by rw [hf6]; simp [Fr.get_putT, g59]
      have g610 : f6.get 10 = nA i := by rw [hf6]; simp [Fr.get_putT, g510]
      have g66 : f6.get 6 = nA j := by rw [hf6]; simp [Fr.get_putT, g56]
      have g63 : f6.get 3 = u32 (Nat.shiftRight h 1) := by rw [hf6]; simp [Fr.get_putT]
      have g67 : f6.get 7 = u32 (Nat.land h 1) := by rw [hf6]; simp [Fr.get_putT, g57]
      have nt6 : f6.nt = 33 := by rw [hf6]; simp [Fr.nt_putT, nt5]
      have df6 : f6.df = [] := by rw [hf6]; simp [Fr.df_putT, df5]
      have hr11 : seqS P [(some 26, .move (.tmp 7), none), (some 27, .binOp .eql tU (.tmp 26) (.const (.int .u32 1)) tU, none)] f6 H' =
          some ((f6.putT 26 (u32 (Nat.land h 1))).putT 27 (.bool (Nat.beq (Nat.land h 1) 1)), H') := by
        simp only [seqS, opA, aev, vA, c4, Fr.put_some, nt6, Fr.nt_putT, g67, Fr.get_putT, opBin, bin_eql, Nat.reduceLT, if_true]
      refine (seqS_region e11 hr11).2 N m6 w6 a6 none hN st6 fr6 _ fun m7 a7 w7 s7 st7 fr7 => ?_
      obtain ⟨f7, hf7⟩ : ∃ f7, f7 = (f6.putT 26 (u32 (Nat.land h 1))).putT 27 (.bool (Nat.beq (Nat.land h 1) 1)) := ⟨_, rfl⟩
      rw [← hf7] at fr7
      have g78 : f7.get 8 = x := by rw [hf7]; simp [Fr.get_putT, g68]
      have g79 : f7.get 9 = nA n := by rw [hf7]; simp [Fr.get_putT, g69]
      have g710 : f7.get 10 = nA i := by rw [hf7]; simp [Fr.get_putT, g610]
      have g76 : f7.get 6 = nA j := by rw [hf7]; simp [Fr.get_putT, g66]
      have g73 : f7.get 3 = u32 (Nat.shiftRight h 1) := by rw [hf7]; simp [Fr.get_putT, g63]
      have g727 : f7.get 27 = .bool (Nat.beq (Nat.land h 1) 1) := by rw [hf7]; simp [Fr.get_putT]
      have nt7 : f7.nt = 33 := by rw [hf7]; simp [Fr.nt_putT, nt6]
      have df7 : f7.df = [] := by rw [hf7]; simp [Fr.df_putT, df6]
      -- the round's end
      have fin : ∀ (m' : BM) (f' : Fr) a' w', Stp m H' w m' H' w' → St N m' H' w' → FrRel m' none f' a' → f'.get 8 = x → f'.get 9 = nA n → f'.get 10 = nA i → f'.get 6 = nA j → f'.get 3 = u32 (step8 h) → f'.nt = 33 → f'.df = [] → ∀ Q : Exit → Act → World → Prop, (∀ a2 w2, T (j + 1) a2 w2 → Q .normal a2 w2) → (Code.region i8 r8 false).wpIn (FW none) 0 P Q a' w' := by
        intro m' f' a' w' q1 q2 q3 g8 g9 g10 g6 g3 nt' df' Q hQ
        have hb : binA P .add tI (nA j) (nA 1) = some (nA (j + 1)) := bin_add (by omega)
        have hr8 : seqS P [(some 20, .move (.tmp 6), none), (some 21, .binOp .add tI (.tmp 20) (.const (.int .i64 1)) tI, none), (some 6, .assign (.tmp 21), none)] f' H' =
            some (((f'.putT 20 (nA j)).putT 21 (nA (j + 1))).putT 6 (nA (j + 1)), H') := by
          simp only [seqS, opA, aev, vA, c7, Fr.put_some, nt', Fr.nt_putT, g6, Fr.get_putT, opBin, hb, Nat.reduceLT, Nat.reduceEqDiff, if_true, if_false]
        refine (seqS_region e8 hr8).2 N m' w' a' none hN q2 q3 Q fun m9 a9 w9 s9 st9 fr9 => hQ a9 w9 ⟨m9, _, q1.trans s9, st9, fr9, by simp [Fr.get_putT, g8], by simp [Fr.get_putT, g9], by simp [Fr.get_putT, g10], by simp [Fr.get_putT], ?_, by simp [Fr.nt_putT, nt'], by simp [Fr.df_putT, df']⟩
        rw [hnext]
        simp [Fr.get_putT, g3]
      cases hbit : Nat.beq (Nat.land h 1) 1 with
      | true =>
        have hb : binA P .xor tU (u32 (Nat.shiftRight h 1)) (u32 2197175160) = some (u32 (Nat.xor (Nat.shiftRight h 1) 2197175160)) := bin_xor (shiftRight_lt hlt') (by decide)
        have hr12 : seqS P [(some 28, .move (.tmp 3), none), (some 29, .binOp .xor tU (.tmp 28) (.const (.int .u32 2197175160)) tU, none), (some 3, .assign (.tmp 29), none)] f7 H' =
            some (((f7.putT 28 (u32 (Nat.shiftRight h 1))).putT 29 (u32 (Nat.xor (Nat.shiftRight h 1) 2197175160))).putT 3 (u32 (Nat.xor (Nat.shiftRight h 1) 2197175160)), H') := by
          simp only [seqS, opA, aev, vA, c6, Fr.put_some, nt7, Fr.nt_putT, g73, Fr.get_putT, opBin, hb, Nat.reduceLT, Nat.reduceEqDiff, if_true, if_false]
        refine wpIn_cond_true (evalBool fr7 (by rw [g727, hbit])) ((seqS_region e12 hr12).2 N m7 w7 a7 none hN st7 fr7 _ fun m8 a8 w8 s8 st8 fr8 => ?_)
        refine fin m8 _ a8 w8 (((q1.trans s4).trans (s5.trans s6)).trans (s7.trans s8)) st8 fr8 (by simp [Fr.get_putT, g78]) (by simp [Fr.get_putT, g79]) (by simp [Fr.get_putT, g710]) (by simp [Fr.get_putT, g76]) ?_ (by simp [Fr.nt_putT, nt7]) (by simp [Fr.df_putT, df7]) _ fun a2 w2 ht => ht
        have hst : step8 h = Nat.xor (Nat.shiftRight h 1) 2197175160 := by unfold step8; rw [hbit]
        rw [hst]
        simp [Fr.get_putT]
      | false =>
        refine wpIn_cond_false (evalBool fr7 (by rw [g727, hbit])) (wpIn_skip ?_)
        refine fin m7 f7 a7 w7 (((q1.trans s4).trans (s5.trans s6)).trans s7) st7 fr7 g78 g79 g710 g76 ?_ nt7 df7 _ fun a2 w2 ht => ht
        have hst : step8 h = Nat.shiftRight h 1 := by unfold step8; rw [hbit]
        rw [hst]
        exact g73
    case he2 =>
      rintro a' w' K ⟨m', f', q1, q2, q3, g8, g9, g10, g6, g3, nt', df'⟩
      refine wpIn_seq (wpIn_seq (head2 8 m' f' a' w' q2 q3 g6 nt' _ fun m4 a4 w4 s4 st4 fr4 => ?_))
      refine wpIn_cond_false (evalBool fr4 (t := 19) (b := false) (by rw [Fr.get_putT _ _ _ _ (by omega), if_pos rfl]; rfl)) (wpIn_exit ?_)
      show Exit.inBlock id2 _ (.exit id2) a4 w4
      simp only [Exit.inBlock, if_true]
      have hb : binA P .add tI (nA i) (nA 1) = some (nA (i + 1)) := bin_add (by omega)
      have h13 : seqS P [(some 30, .binOp .add tI (.tmp 10) (.const (.int .i64 1)) tI, none), (some 10, .move (.tmp 30), none)] ((f'.putT 18 (nA 8)).putT 19 (.bool (Nat.ble (Nat.succ 8) 8))) H' =
          some (((((f'.putT 18 (nA 8)).putT 19 (.bool (Nat.ble (Nat.succ 8) 8))).putT 30 (nA (i + 1))).putT 10 (nA (i + 1))), H') := by
        simp only [seqS, opA, aev, vA, c7, Fr.put_some, nt', Fr.nt_putT, g10, Fr.get_putT, opBin, hb, Nat.reduceLT, Nat.reduceEqDiff, if_true, if_false]
      refine (seqS_region e13 h13).2 N m4 w4 a4 none hN st4 fr4 _ fun m5 a5 w5 s5 st5 fr5 => ?_
      exact ⟨m5, _, _, (q1.trans s4).trans s5, st5, fr5, by simp [Fr.get_putT, g8], by simp [Fr.get_putT, g9], by simp [Fr.get_putT], by simp [Fr.get_putT, g3], crc8_lt 8 hx0, hc', by simp [Fr.nt_putT, nt'], by simp [Fr.df_putT, df']⟩
  case he =>
    rintro a' w' K ⟨m', f', hh, q1, q2, q3, g8, g9, g10, g3, hlt, hc, nt', df'⟩
    refine wpIn_seq (head n m' f' a' w' q2 q3 g9 g10 nt' _ fun m4 a4 w4 s4 st4 fr4 => ?_)
    have hle : Nat.ble (Nat.succ n) n = false := by
      cases hb : Nat.ble (Nat.succ n) n with
      | false => rfl
      | true => have := Nat.le_of_ble_eq_true hb; omega
    refine wpIn_seq (wpIn_cond_false (evalBool fr4 (t := 11) (b := false) (by rw [Fr.get_putT _ _ _ _ (by omega), if_pos rfl, hle])) (wpIn_exit ?_))
    show Exit.inBlock id0 _ (.exit id0) a4 w4
    simp only [Exit.inBlock, if_true]
    have hhf : hh = hf := by
      rw [List.drop_eq_nil_of_le (by omega)] at hc
      have hc : some hh = some hf := hc
      injection hc
    subst hhf
    have hnot := not_u32 hlt
    have h14 : seqS P [(some 31, .move (.tmp 3), none), (some 32, .unOp .xor tU (.tmp 31), none), (some 2, .assign (.tmp 32), none)] (f'.putT 11 (.bool (Nat.ble (Nat.succ n) n))) H' =
        some ((((f'.putT 11 (.bool (Nat.ble (Nat.succ n) n))).putT 31 (u32 hh)).putT 32 (u32 (Nat.xor hh 4294967295))).putT 2 (u32 (Nat.xor hh 4294967295)), H') := by
      simp only [seqS, opA, aev, vA, Fr.put_some, nt', Fr.nt_putT, g3, Fr.get_putT, opUn, hnot, Nat.reduceLT, Nat.reduceEqDiff, if_true, if_false]
    refine wpIn_seq ((seqS_region e14 h14).2 N m4 w4 a4 none hN st4 fr4 _ fun m5 a5 w5 s5 st5 fr5 => wpIn_ret ⟨.inr rfl, m5, _, [u32 (Nat.xor hh 4294967295)], (q1.trans s4).trans s5, st5, fr5, by simp [Fr.df_putT, df'], ?_, hv.symm⟩)
    rw [sh.res]
    simp [resA, res1, consO, Fr.get_putT]
end
end Go.Ev
