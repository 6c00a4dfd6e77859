/- copy, clear, len, min and max; maps. -/
import Derived.Test.YtginbifeinpciaaGreatEvS11
namespace Go.Ev
open Go

section
variable {P : Program} {m : BM} {H : AH} {w : World}
theorem slLen_lenOf {x : AV} {n : Nat} (h : slLen x = some n) : lenOfA x = some n := by
  unfold slLen at h
  split at h
  · exact h
  · exact h
  · cases h
theorem firstA_nil {size : Nat} {x : AV} {l : List AV} (h : firstA H size 0 x = some l) : l = [] := by
  unfold firstA at h
  split at h
  · unfold loadA at h
    split at h
    · unfold inRange at h
      split at h
      · injection h with h
        rw [← h, cut_eq]
        show List.take (0 * size) _ = []
        simp
      · cases h
    · cases h
  · injection h with h; exact h.symm
  · injection h with h; rw [← h]; rfl
  · cases h
theorem lrel_nil {a : Array Value} (h : LRel m [] a.toList) : a.toList = [] := by
  cases ha : a.toList with
  | nil => rfl
  | cons q qs => rw [ha] at h; cases h
theorem copy_run (r : Rel m H.get w) (hk : HOk H) {ats : Array TypeId} {ty t : TypeId} {args : Array Value} {d x v : AV} {ud ux : Value} {H' : AH} (h : copyA P t d x H = some (.val v H'))
    (ht0 : ats[0]? = some t) (h0 : args[0]? = some ud) (h1 : args[1]? = some ux) (hd : VRel m d ud) (hx : VRel m x ux) :
    Res P (Builtin.copy_ ats ty args) (fun m' z => VRel m' v z) m H w H' := by
  unfold copyA at h
  split at h
  · rename_i elem hel
    have hel := isSl_some hel
    unfold copy1 at h
    split at h
    · rename_i size sl hsz hsl
      unfold copy2 at h
      split at h
      · rename_i dl hdl
        rw [nmin_eq] at h
        unfold copyTo at h
        split at h
        · rename_i cells hcells
          have hmin : Nat.min sl dl = min sl dl := rfl
          obtain ⟨a, ha, hla⟩ := firstA_run (P := P) r hcells hx hsl (Nat.min_le_left _ _)
          have hlen := lenOfA_run (P := P) hsl hx w
          split at h
          · rename_i b o n c
            obtain ⟨hst, rfl⟩ := hA_some h
            simp only [slLen] at hdl
            injection hdl with hdl
            subst hdl
            cases hd with
            | slice hb hc =>
              obtain ⟨m', _, w', hr', s', r', hk', rfl⟩ := storeA_run (P := P) r hk hst hb hla
              refine ⟨_, .int .i64 (Int.ofNat (min sl n)), w', ?_, s', r', hk', .int _ _⟩
              simp [Builtin.copy_, ht0, h0, h1, run_underlying hel, hlen, hmin, sizeT_run hsz, ha, hr', goInt]
            | slice0 a0 hb =>
              have e0 : min sl 0 = 0 := Nat.min_zero _
              rw [e0] at hcells ha ⊢
              have := firstA_nil hcells
              subst this
              have ha0 := lrel_nil hla
              simp only [storeA] at hst
              injection hst with hst
              subst hst
              refine .pure r hk (a := .int .i64 0) ?_ (.int _ _)
              simp [Builtin.copy_, ht0, h0, h1, run_underlying hel, hlen, sizeT_run hsz, ha, ha0, storeCells, goInt]
          · injection h with h
            injection h with e1 e2
            subst e1; subst e2
            simp only [slLen] at hdl
            injection hdl with hdl
            subst hdl
            cases hd
            refine .pure r hk (a := .int .i64 (Int.ofNat (min sl 0))) ?_ (.int _ _)
            simp [Builtin.copy_, ht0, h0, h1, run_underlying hel, hlen, sizeT_run hsz, goInt]
            rw [Nat.min_zero] at ha
            simp [ha]
          · cases h
        · cases h
      · cases h
    · cases h
  · cases h

theorem clear_run (r : Rel m H.get w) (hk : HOk H) {ats : Array TypeId} {ty t : TypeId} {args : Array Value} {x : AV} {ux : Value} {H' : AH} (h : clearA P t x H = some H')
    (ht0 : ats[0]? = some t) (h0 : args[0]? = some ux) (hx : VRel m x ux) : Res P (Builtin.clear_ ats ty args) (fun m' z => VRel m' Ev.und z) m H w H' := by
  unfold clearA at h
  split at h
  · rename_i elem hel
    have hel := isSl_some hel
    split at h
    · injection h with h
      subst h
      cases hx
      exact .pure r hk (a := .tuple #[]) (by simp [Builtin.clear_, ht0, h0, run_underlying hel]) (.und m)
    · rename_i b o n c
      split at h
      · injection h with h
        subst h
        cases hx <;> exact .pure r hk (a := .tuple #[]) (by simp [Builtin.clear_, ht0, h0, run_underlying hel]) (.und m)
      · rename_i n
        cases hx with
        | slice hb hc =>
          unfold clearTo at h
          split at h
          · rename_i z size hz hsz
            split at h
            · rename_i hl
              have hl := Nat.eq_of_beq_eq_true hl
              rw [len_eq] at hl
              obtain ⟨zv, hzv, hzr⟩ := zeroT_run (P := P) hz w
              have hzs : zv.cells.size = size := by rw [← hl, (hzr m).cells.length]; simp
              have hrr := rep_rel (hzr m).cells (n + 1) zv.cells.size rfl
              obtain ⟨m', _, w', hr', s', r', hk', rfl⟩ := storeA_run (P := P) r hk h hb hrr
              refine ⟨_, .tuple #[], w', ?_, s', r', hk', .und _⟩
              have hr2 : (storeCells ⟨_, _, none⟩ (Builtin.zeroCells zv.cells (n + 1)).toList).run P w = .ok () w' := hr'
              simp [Builtin.clear_, ht0, h0, run_underlying hel, hzv, hr2]
            · cases h
          · cases h
    · cases h
  · cases h

theorem max_run : ∀ {l : List AV} {x v : AV} {us : List Value} {u : Value}, maxA l x = some v → LRel m l us → VRel m x u → ∀ w, ∃ z, (us.foldlM Builtin.max2 u).run P w = .ok z w ∧ VRel m v z
  | [], x, v, us, u, h, hl, hx, w => by
    cases hl
    simp only [maxA] at h
    injection h with h
    subst h
    exact ⟨u, by simp, hx⟩
  | y :: l, x, v, us, u, h, hl, hx, w => by
    cases hl with
    | cons hy hl =>
      simp only [maxA] at h
      split at h
      · split at h
        · rename_i k a _ j b
          cases hx; cases hy
          rw [iLt_eq] at h
          have hv : VRel m (.int k (match decide (a < b) with | true => b | false => a)) (.int k (if b > a then b else a)) := by
            by_cases hab : a < b
            · rw [if_pos hab]; simp only [hab, decide_true]; exact .int _ _
            · rw [if_neg hab]; simp only [hab, decide_false]; exact .int _ _
          obtain ⟨z, hz, hr⟩ := max_run h hl hv w
          exact ⟨z, by simp only [List.foldlM_cons, Builtin.max2, Sem.run_bind, Sem.run_pure, Result.andThen_ok]; exact hz, hr⟩
        · cases h
      · cases h
theorem min_run : ∀ {l : List AV} {x v : AV} {us : List Value} {u : Value}, minA l x = some v → LRel m l us → VRel m x u → ∀ w, ∃ z, (us.foldlM Builtin.min2 u).run P w = .ok z w ∧ VRel m v z
  | [], x, v, us, u, h, hl, hx, w => by
    cases hl
    simp only [minA] at h
    injection h with h
    subst h
    exact ⟨u, by simp, hx⟩
  | y :: l, x, v, us, u, h, hl, hx, w => by
    cases hl with
    | cons hy hl =>
      simp only [minA] at h
      split at h
      · split at h
        · rename_i k a _ j b
          cases hx; cases hy
          rw [iLt_eq] at h
          have hv : VRel m (.int k (match decide (b < a) with | true => b | false => a)) (.int k (if b < a then b else a)) := by
            by_cases hab : b < a
            · rw [if_pos hab]; simp only [hab, decide_true]; exact .int _ _
            · rw [if_neg hab]; simp only [hab, decide_false]; exact .int _ _
          obtain ⟨z, hz, hr⟩ := min_run h hl hv w
          exact ⟨z, by simp only [List.foldlM_cons, Builtin.min2, Sem.run_bind, Sem.run_pure, Result.andThen_ok]; exact hz, hr⟩
        · cases h
      · cases h

/-! Maps -/
theorem kd_key {κ : Option IntKind} {a b : AV} (h : sameKd a b = true) (hb : KeyK κ b) : KeyK κ a := by
  unfold sameKd at h
  split at h
  · split at h
    · exact hb
    · cases h
  · split at h
    · rw [kEq_iff] at h; subst h; exact hb
    · cases h
  · cases h
theorem keyA_some {k : AV} {d : Option TypeDesc} (h : keyA k d = true) : ∃ κ, KeyK κ k ∧ ((κ = none ∧ d = some .string) ∨ ∃ j, κ = some j ∧ d = some (.int j)) := by
  unfold keyA at h
  split at h
  · split at h
    · exact ⟨none, rfl, .inl ⟨rfl, rfl⟩⟩
    · cases h
  · split at h
    · rw [kEq_iff] at h; subst h; exact ⟨some _, rfl, .inr ⟨_, rfl, rfl⟩⟩
    · cases h
  · cases h
theorem key_inj {κ κ' : Option IntKind} {k : AV} (h : KeyK κ k) (h' : KeyK κ' k) : κ = κ' := by
  unfold KeyK at h h'
  split at h
  · rw [h, h']
  · rw [h, h']
  · exact absurd h id
/-- Two keys of one kind: the model's look and the machine's. -/
theorem key_same {κ : Option IntKind} {d : TypeDesc} (hd : (κ = none ∧ d = .string) ∨ ∃ j, κ = some j ∧ d = .int j) {a b : AV} {u v : Value} (ha : KeyK κ a) (hb : KeyK κ b) (hu : VRel m a u) (hv : VRel m b v) :
    Instr.sameNow d u v = some (sbeq a b) ∧ (sbeq a b = true ↔ a = b) ∧ (sbeq a b = true → u = v ∧ Instr.sameBits 10000 v u = true) := by
  unfold KeyK at ha hb
  split at ha
  · rename_i s
    subst ha
    split at hb
    · rename_i s'
      cases hu; cases hv
      rcases hd with ⟨_, rfl⟩ | ⟨j, h1, _⟩
      · have e1 : ((ByteArray.mk ⟨s⟩) == (ByteArray.mk ⟨s'⟩)) = strEq s s' := by rw [beq_toListBytes, toList_mk, toList_mk, strEq_eq]
        refine ⟨?_, ?_, ?_⟩
        · show some ((ByteArray.mk ⟨s⟩) == (ByteArray.mk ⟨s'⟩)) = some (strEq s s')
          rw [e1]
        · show strEq s s' = true ↔ _
          rw [strEq_iff]
          simp
        · intro h
          have h : strEq s s' = true := h
          rw [strEq_iff] at h
          subst h
          exact ⟨rfl, by
            show ((ByteArray.mk ⟨s⟩) == (ByteArray.mk ⟨s⟩)) = true
            rw [e1, (strEq_iff s s).2 rfl]⟩
      · cases h1
    · cases hb
    · exact absurd hb id
  · rename_i j n
    subst ha
    split at hb
    · cases hb
    · rename_i j' n'
      injection hb with hb
      subst hb
      cases hu; cases hv
      rcases hd with ⟨h1, _⟩ | ⟨j', h1, rfl⟩
      · cases h1
      · injection h1 with h1
        subst h1
        have e1 : sbeq (.int j n) (.int j n') = (n == n') := by
          show (kEq j j && iEq n n') = _
          rw [kEq_iff.2 rfl, iEq_eq, Bool.true_and]
        refine ⟨?_, ?_, ?_⟩
        · rw [e1]; simp [Instr.sameNow]
        · rw [e1]; simp
        · intro h
          rw [e1] at h
          have h : n = n' := by simpa using h
          subst h
          exact ⟨rfl, by simp [Instr.sameBits]⟩
    · exact absurd hb id
  · exact absurd ha id

theorem findNow_run {κ : Option IntKind} {d : TypeDesc} (hd : (κ = none ∧ d = .string) ∨ ∃ j, κ = some j ∧ d = .int j) {k : AV} {uk : Value} (hk : KeyK κ k) (huk : VRel m k uk) :
    ∀ (ces : List MapEntry) (i : Nat), (∀ e ∈ ces, ∃ a, KeyK κ a ∧ VRel m a e.key) →
      (Instr.findNow d uk ces i = some none ∧ ∀ e ∈ ces, ¬ (∃ a, KeyK κ a ∧ VRel m a e.key ∧ a = k)) ∨
      ∃ c1 e c2, ces = c1 ++ e :: c2 ∧ Instr.findNow d uk ces i = some (some (i + c1.length, e.val)) ∧ e.key = uk ∧ Instr.sameBits 10000 e.key uk = true ∧ VRel m k e.key
  | [], i, _ => .inl ⟨rfl, fun e he => by cases he⟩
  | e :: ces, i, h => by
    obtain ⟨a, ha, hva⟩ := h e (by simp)
    obtain ⟨h1, h2, h3⟩ := key_same hd hk ha huk hva
    cases hb : sbeq k a with
    | true =>
      rw [hb] at h1 h2 h3
      obtain ⟨h4, h5⟩ := h3 rfl
      have h6 := h2.1 rfl
      subst h6
      exact .inr ⟨[], e, ces, rfl, by simp [Instr.findNow, h1], h4.symm, h5, hva⟩
    | false =>
      rw [hb] at h1 h2
      have hne : ¬ (∃ a', KeyK κ a' ∧ VRel m a' e.key ∧ a' = k) := by
        rintro ⟨a', ha', hva', rfl⟩
        have h7 := (key_same hd ha' ha huk hva).1
        have h8 := key_same hd ha' ha' huk hva'
        have h9 := h8.1
        rw [h1] at h7
        rw [h1] at h9
        have : sbeq a' a' = true := h8.2.1.2 rfl
        rw [this] at h9
        cases h9
      rcases findNow_run hd hk huk ces (i + 1) (fun e' he' => h e' (List.mem_cons_of_mem _ he')) with ⟨h4, h5⟩ | ⟨c1, e', c2, rfl, h4, h5, h6, h7⟩
      · refine .inl ⟨by simp [Instr.findNow, h1, h4], fun e' he' => ?_⟩
        cases he' with
        | head => exact hne
        | tail _ he' => exact h5 e' he'
      · exact .inr ⟨e :: c1, e', c2, rfl, by simp only [Instr.findNow, h1, h4, List.length_cons]; congr 3; omega, h5, h6, h7⟩
end
end Go.Ev
