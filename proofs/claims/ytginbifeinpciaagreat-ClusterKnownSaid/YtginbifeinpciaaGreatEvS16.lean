/- A compiled operation does what the operation comes to. -/
import Derived.Test.YtginbifeinpciaaGreatEvS15
namespace Go.Ev
open Go

section
variable {P : Program} {R : Type} {f : Fr} {H : AH}
theorem cGet_aev {x : Operand} {g : Fr → AV} (h : cGet x = some ⟨g⟩) (f : Fr) : aev f x = some (g f) := by
  cases x with
  | tmp t =>
    simp only [cGet] at h
    injection h with h
    have hg : (cSlot (rowG (Nat.div t 16)) (colG (Nat.mod t 16))).get f = f.get t := by
      show (colG (t % 16)).get ((rowG (t / 16)).get f.tm) = _
      rw [colG_get, rowG_get]
      rfl
    rw [h] at hg
    show some (f.get t) = some (g f)
    rw [← hg]
  | const u =>
    simp only [cGet] at h
    show convZ u = some (g f)
    unfold cConst at h
    split at h
    · rename_i a ha
      injection h with h
      injection h with h
      rw [← h, ha]
    · cases h
  | global g => cases h
  | func g =>
    simp only [cGet] at h
    injection h with h
    injection h with h
    rw [← h]
    rfl
theorem cPut_put {d : Option Tmp} {v : AV} {f : Fr} {k : Fr → Option R} {res : R} (h : (cPut d).put v f k = some res) : ∃ f', f.put d v = some f' ∧ k f' = some res := by
  cases d with
  | none => exact ⟨f, rfl, h⟩
  | some t =>
    obtain ⟨tm, df, nt, rd, fn⟩ := f
    have h' : (match Nat.ble (Nat.succ t) nt with
      | true => k ⟨(rowS (t / 16)).upd ((colS (t % 16)).set v) tm, df, nt, rd, fn⟩
      | false => none) = some res := h
    split at h'
    · rename_i hle
      refine ⟨⟨tm.put t v, df, nt, rd, fn⟩, ?_, ?_⟩
      · show (match Nat.ble (Nat.succ t) nt with
          | true => some (⟨tm.put t v, df, nt, rd, fn⟩ : Fr)
          | false => none) = _
        rw [hle]
      · rw [← h']
        congr 2
        rw [rowS_upd]
        show tm.upd (fun r => r.set v (t % 16)) (t / 16) = _
        congr 1
        funext r
        rw [colS_set]
    · cases h'
theorem cList_aevs : ∀ {xs : List Operand} {g : Fr → List AV}, cList xs = some ⟨g⟩ → ∀ f, aevs f xs = some (g f)
  | [], g, h, f => by simp only [cList] at h; injection h with h; injection h with h; rw [← h]; rfl
  | x :: xs, g, h, f => by
    simp only [cList] at h
    split at h
    · rename_i g1 h1
      split at h
      · rename_i g2 h2
        injection h with h
        injection h with h
        rw [← h]
        show consO (aev f x) (aevs f xs) = _
        rw [cGet_aev h1, cList_aevs h2]
        rfl
      · cases h
    · cases h
abbrev Runs (P : Program) (o : Oper) (c : OpK R) : Prop :=
  ∀ (ih : Ih R) (f : Fr) (H : AH) (k : AV → Fr → AH → Option R) (res : R), c.run ih f H k = some res → arK ih (cPut o.dst).put f H k (opA P f H o.op) = some res
theorem runs_gen {o : Oper} : Runs (R := R) P o (genK P o.op (cPut o.dst)) := fun _ _ _ _ _ h => h
theorem runs_fail {o : Oper} : Runs (R := R) P o failK := fun _ _ _ _ _ h => by cases h
theorem runs_un {o : Oper} {u : UnK R} {x : Operand} {op1 : AH → Option AV → Option AR} (ho : ∀ f H, opA P f H o.op = op1 H (aev f x))
    (hu : ∀ (v : AV) (H : AH) (k : AV → Option R) (res : R), u.un v k = some res → ∃ r, op1 H (some v) = some (.val r H) ∧ k r = some res) : Runs (R := R) P o (un1 (cPut o.dst) u (cGet x)) := by
  intro ih f H k res h
  unfold un1 at h
  split at h
  · rename_i g hg
    have h' : u.un (g f) (fun v => (cPut o.dst).put v f fun f' => k v f' H) = some res := h
    obtain ⟨r, h1, h2⟩ := hu (g f) H _ res h'
    rw [ho, cGet_aev hg, h1]
    exact h2
  · cases h
theorem runs_bin {o : Oper} {u : BinK R} {x y : Operand} {op2 : AH → Option AV → Option AV → Option AR} (ho : ∀ f H, opA P f H o.op = op2 H (aev f x) (aev f y))
    (hu : ∀ (v v' : AV) (H : AH) (k : AV → Option R) (res : R), u.bin v v' k = some res → ∃ r, op2 H (some v) (some v') = some (.val r H) ∧ k r = some res) : Runs (R := R) P o (bin1 (cPut o.dst) u (cGet x) (cGet y)) := by
  intro ih f H k res h
  unfold bin1 at h
  split at h
  · rename_i g hg
    split at h
    · rename_i g' hg'
      have h' : u.bin (g' f) (g f) (fun v => (cPut o.dst).put v f fun f' => k v f' H) = some res := h
      obtain ⟨r, h1, h2⟩ := hu (g' f) (g f) H _ res h'
      rw [ho, cGet_aev hg, cGet_aev hg', h1]
      exact h2
    · cases h
  · cases h
theorem vK_some {k : AV → Option R} {x : Option AV} {res : R} (h : vK k x = some res) : ∃ v, x = some v ∧ k v = some res := by
  unfold vK at h
  split at h
  · exact ⟨_, rfl, h⟩
  · cases h
theorem intK_bin {op : BinOp} {t : TypeId} {g : IntKind → Int → Int → AV} (hg : ∀ k a b, intOp op k a b = some (g k a b)) (h1 : op ≠ .shl) (h2 : op ≠ .shr) (v v' : AV) (H : AH) (k : AV → Option R) (res : R)
    (h : (intK (R := R) P op t g).bin v v' k = some res) : ∃ r, opBin P H op t (some v) (some v') = some (.val r H) ∧ k r = some res := by
  unfold intK at h
  dsimp only at h
  split at h
  · rename_i i a
    split at h
    · rename_i j b
      split at h
      · rename_i hk
        refine ⟨g i a b, ?_, h⟩
        have : intOps op i j a b = some (g i a b) := by
          unfold intOps
          split
          · exact absurd rfl h1
          · exact absurd rfl h2
          · rw [hk]; exact hg i a b
        simp only [opBin, binA, this, vA]
      · cases h
    · cases h
  · obtain ⟨r, h3, h4⟩ := vK_some h
    exact ⟨r, by simp only [opBin, h3, vA], h4⟩
theorem cBin_bin (op : BinOp) (t : TypeId) (v v' : AV) (H : AH) (k : AV → Option R) (res : R) (h : (cBin (R := R) P op t).bin v v' k = some res) : ∃ r, opBin P H op t (some v) (some v') = some (.val r H) ∧ k r = some res := by
  have gen : ∀ op, vK k (binA P op t v v') = some res → ∃ r, opBin P H op t (some v) (some v') = some (.val r H) ∧ k r = some res := by
    intro op h
    obtain ⟨r, h3, h4⟩ := vK_some h
    exact ⟨r, by simp only [opBin, h3, vA], h4⟩
  cases op with
  | add => exact intK_bin (fun k a b => rfl) (by simp) (by simp) v v' H k res h
  | sub => exact intK_bin (fun k a b => rfl) (by simp) (by simp) v v' H k res h
  | mul => exact intK_bin (fun k a b => rfl) (by simp) (by simp) v v' H k res h
  | and => exact intK_bin (fun k a b => rfl) (by simp) (by simp) v v' H k res h
  | or => exact intK_bin (fun k a b => rfl) (by simp) (by simp) v v' H k res h
  | eql => exact intK_bin (fun k a b => rfl) (by simp) (by simp) v v' H k res h
  | neq => exact intK_bin (fun k a b => rfl) (by simp) (by simp) v v' H k res h
  | lss => exact intK_bin (fun k a b => rfl) (by simp) (by simp) v v' H k res h
  | leq => exact intK_bin (fun k a b => rfl) (by simp) (by simp) v v' H k res h
  | gtr => exact intK_bin (fun k a b => rfl) (by simp) (by simp) v v' H k res h
  | geq => exact intK_bin (fun k a b => rfl) (by simp) (by simp) v v' H k res h
  | _ => exact gen _ h
theorem runs_mov {o : Oper} {x : Operand} (ho : ∀ f H, opA P f H o.op = vA H (aev f x)) : Runs (R := R) P o (movK (cPut o.dst) (cGet x)) := by
  intro ih f H k res h
  unfold movK at h
  split at h
  · rename_i g hg
    rw [ho, cGet_aev hg]
    exact h
  · cases h
theorem hK_some {k : AH → Option R} {x : Option AH} {res : R} (h : hK k x = some res) : ∃ H, x = some H ∧ k H = some res := by
  unfold hK at h
  split at h
  · exact ⟨_, rfl, h⟩
  · cases h
theorem cOp_runs (o : Oper) : Runs (R := R) P o (cOp P o) := by
  unfold cOp
  split
  · rename_i x ho; exact runs_mov fun f H => by rw [ho]; rfl
  · rename_i x ho; exact runs_mov fun f H => by rw [ho]; rfl
  · rename_i op t x y yt ho; exact runs_bin (op2 := fun H => opBin P H op t) (fun f H => by rw [ho]; rfl) (cBin_bin op t)
  · rename_i t x ho
    unfold cLoad
    split
    · rename_i hagg
      split
      · rename_i n hn
        intro ih f H k res h
        unfold memK at h
        split at h
        · rename_i g hg
          have h' : ldAgg n H (g f) (fun v => (cPut o.dst).put v f fun f' => k v f' H) = some res := h
          unfold ldAgg at h'
          split at h'
          · rename_i b off hp
            obtain ⟨v, h1, h2⟩ := vK_some h'
            have : opA P f H o.op = some (.val v H) := by
              rw [ho]
              show opLoad P H t (aev f x) = _
              rw [cGet_aev hg, hp]
              simp only [opLoad, loadVarA, hagg, loadAgg, hn, h1, vA]
            rw [this]
            exact h2
          · cases h'
        · cases h
      · exact runs_fail
    · rename_i hagg
      intro ih f H k res h
      unfold memK at h
      split at h
      · rename_i g hg
        have h' : ld1 H (g f) (fun v => (cPut o.dst).put v f fun f' => k v f' H) = some res := h
        unfold ld1 at h'
        split at h'
        · rename_i b off hp
          obtain ⟨v, h1, h2⟩ := vK_some h'
          have : opA P f H o.op = some (.val v H) := by
            rw [ho]
            show opLoad P H t (aev f x) = _
            rw [cGet_aev hg, hp]
            simp only [opLoad, loadVarA, hagg, h1, vA]
          rw [this]
          exact h2
        · cases h'
      · cases h
    · exact runs_fail
  · rename_i t a x ho
    unfold cStore
    split
    · rename_i n hn
      split
      · rename_i g hg
        split
        · rename_i g' hg'
          intro ih f H k res h
          have h' : storeV n H (g f) (g' f) (fun H' => (cPut o.dst).put und f fun f' => k und f' H') = some res := h
          unfold storeV at h'
          split at h'
          · rename_i b off hp
            split at h'
            · rename_i hl
              obtain ⟨H', h1, h2⟩ := hK_some h'
              have : opA P f H o.op = some (.val und H') := by
                rw [ho]
                show opStore P H t (aev f x) (aev f a) = _
                rw [cGet_aev hg, cGet_aev hg', hp]
                simp only [opStore, storeN, hn, hl, h1, hA]
              rw [this]
              exact h2
            · cases h'
          · cases h'
        · exact runs_fail
      · exact runs_fail
    · exact runs_fail
  · rename_i t x i ho
    unfold cFieldAddr
    split
    · rename_i n hn
      refine runs_un (op1 := fun H => opFieldAddr P H t i) (fun f H => by rw [ho]; rfl) fun v H k res h => ?_
      unfold addK at h
      dsimp only at h
      split at h
      · exact ⟨_, by simp only [opFieldAddr, hn, ptrAdd, vA], h⟩
      · cases h
    · exact runs_fail
  · rename_i x i ho
    refine runs_un (op1 := fun H => opExtract H i) (fun f H => by rw [ho]; rfl) fun v H k res h => ?_
    unfold tupK at h
    dsimp only at h
    split at h
    · obtain ⟨r, h1, h2⟩ := vK_some h
      exact ⟨r, by simp only [opExtract, h1, vA], h2⟩
    · cases h
  · rename_i x ho
    refine runs_un (op1 := fun H => opNilCheck H) (fun f H => by rw [ho]; rfl) fun v H k res h => ?_
    unfold nilK at h
    dsimp only at h
    split at h
    · exact ⟨_, rfl, h⟩
    · exact ⟨_, rfl, h⟩
    · exact ⟨_, rfl, h⟩
    · cases h
  · rename_i c ho
    unfold cCall
    split
    · rename_i g hc
      unfold cCallF
      split
      · rename_i l hl
        intro ih f H k res h
        have h' : ih (.call g (l f) H) (fun v H' => (cPut o.dst).put v f fun f' => k v f' H') = some res := h
        have : opA P f H o.op = some (.enter g (l f)) := by
          rw [ho]
          show opCall P f H c (aevs f c.args.toList) = _
          rw [cList_aevs hl]
          simp only [opCall, opCallee, hc, aev, invokeA, app_eq]
          simp
        rw [this]
        exact h'
      · exact runs_fail
    · rw [← ho]; exact runs_gen
  · exact runs_gen
end
end Go.Ev
