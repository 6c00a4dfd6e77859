/- Slicing; places and parts. -/
import Derived.Test.YtginbifeinpciaaGreatEvS8
namespace Go.Ev
open Go

section
variable {P : Program} {m : BM} {H : AH} {w : World}
/-- Operands that may be missing. -/
def ORel (m : BM) : Option AV → Option Value → Prop
  | none, none => True
  | some v, some u => VRel m v u
  | _, _ => False

theorem bndA_run {v : AV} {u : Value} {y y' i : Nat} (h : bndA v y = some i) (hv : VRel m v u) (hy : y ≤ y') (code : BoundsCode) (w : World) : (Instr.sliceBound u y' code).run P w = .ok i w ∧ i ≤ y := by
  unfold bndA at h
  split at h
  · rename_i k j
    split at h
    · rename_i hle
      have hle := Nat.le_of_ble_eq_true hle
      injection h with h
      subst h
      cases hv
      refine ⟨?_, hle⟩
      have h1 : (0 : Int) ≤ Int.ofNat j ∧ Int.ofNat j ≤ (y' : Int) := ⟨by simp, by simp; omega⟩
      simp only [Instr.sliceBound, asIntOf, Sem.run_bind, Sem.run_pure, Result.andThen_ok, if_pos h1]
      rfl
    · cases h
  · cases h

theorem bndsA_run {n cap c' l h mx : Nat} {low high max : Option AV} {lo hi ma : Option Value} (e : bndsA n cap low high max = some (l, h, mx)) (hlo : ORel m low lo) (hhi : ORel m high hi) (hma : ORel m max ma)
    (hc : cap ≤ c') (sl : Bool) (w : World) :
    (∃ mx', (Instr.sliceBounds sl n c' lo hi ma).run P w = .ok (l, h, mx') w ∧ (mx' = mx ∨ (mx = cap ∧ mx' = c'))) ∧ l ≤ h ∧ h ≤ mx ∧ mx ≤ cap := by
  unfold bndsA bnds1 at e
  have step2 : ∀ (mm : Nat) (d : Option Nat), bnds2 low mm d = some (l, h, mx) → d = some h ∧ mx = mm ∧ bndO low h (some 0) = some l := by
    intro mm d e
    unfold bnds2 at e
    split at e
    · unfold bnds3 at e
      split at e
      · injection e with e
        injection e with e1 e2
        injection e2 with e2 e3
        subst e1; subst e2; subst e3
        exact ⟨rfl, rfl, by assumption⟩
      · cases e
    · cases e
  have low_run : bndO low h (some 0) = some l → ∀ code, ((match lo with | some v => Instr.sliceBound v h code | none => pure 0 : Sem Nat)).run P w = .ok l w ∧ l ≤ h := by
    intro e code
    cases low with
    | none =>
      cases lo with
      | none => simp only [bndO] at e; injection e with e; subst e; exact ⟨by simp, Nat.zero_le _⟩
      | some _ => exact absurd hlo id
    | some lv =>
      cases lo with
      | none => exact absurd hlo id
      | some lu => exact bndA_run e hlo (Nat.le_refl _) code w
  split at e
  · rename_i mm hm
    obtain ⟨e1, rfl, e3⟩ := step2 _ _ e
    cases max with
    | none =>
      cases ma with
      | some _ => exact absurd hma id
      | none =>
        simp only [bndO] at hm
        injection hm with hm
        subst hm
        have hlr := low_run e3
        cases high with
        | none =>
          cases hi with
          | some _ => exact absurd hhi id
          | none =>
            simp only [bndO, defA] at e1
            split at e1
            · rename_i hle
              have hle := Nat.le_of_ble_eq_true hle
              injection e1 with e1
              subst e1
              refine ⟨⟨c', ?_, .inr ⟨rfl, rfl⟩⟩, (hlr .sliceB).2, hle, Nat.le_refl _⟩
              have := (hlr .sliceB).1
              cases lo with
              | none => simp only [Sem.run_pure] at this; injection this with this; subst this; simp [Instr.sliceBounds]
              | some lv => simp only at this; simp [Instr.sliceBounds, this]
            · cases e1
        | some hv =>
          cases hi with
          | none => exact absurd hhi id
          | some hu =>
            simp only [bndO] at e1
            have hh := fun code => bndA_run (P := P) e1 hhi hc code w
            refine ⟨⟨c', ?_, .inr ⟨rfl, rfl⟩⟩, (hlr .sliceB).2, (hh .sliceB).2, Nat.le_refl _⟩
            have h1 := (hlr .sliceB).1
            have h2 := fun code => (hh code).1
            cases lo with
            | none => simp only [Sem.run_pure] at h1; injection h1 with h1; subst h1; simp [Instr.sliceBounds, h2]
            | some lv => simp only at h1; simp [Instr.sliceBounds, h1, h2]
    | some mv =>
      cases ma with
      | none => exact absurd hma id
      | some mu =>
        simp only [bndO] at hm
        have hmm := fun code => bndA_run (P := P) hm hma hc code w
        have hlr := low_run e3
        cases high with
        | none => simp only [bndO] at e1; cases e1
        | some hv =>
          cases hi with
          | none => exact absurd hhi id
          | some hu =>
            simp only [bndO] at e1
            have hh := fun code => bndA_run (P := P) e1 hhi (Nat.le_refl _) code w
            refine ⟨⟨mx, ?_, .inl rfl⟩, (hlr .sliceB).2, (hh .sliceB).2, (hmm .sliceB).2⟩
            have h1 := fun code => (hlr code).1
            have h2 := fun code => (hh code).1
            have h3 := fun code => (hmm code).1
            cases lo with
            | none =>
              have h1 := h1 .sliceB
              simp only [Sem.run_pure] at h1; injection h1 with h1; subst h1; simp [Instr.sliceBounds, h2, h3]
            | some lv => simp only at h1; simp [Instr.sliceBounds, h1, h2, h3]
  · cases e

theorem sliceAt_run (r : Rel m H.get w) {t : TypeId} {x v : AV} {u : Value} {low high max : Option AV} {lo hi ma : Option Value} (h : sliceA P H x low high max (P.underlying t) = some v)
    (hx : VRel m x u) (hlo : ORel m low lo) (hhi : ORel m high hi) (hma : ORel m max ma) : ∃ z, (Instr.sliceAt t u lo hi ma).run P w = .ok z w ∧ VRel m v z := by
  unfold sliceA at h
  split at h
  · rename_i ht
    split at h
    · rename_i s
      split at h
      · cases hx
        cases ma with
        | some _ => exact absurd hma id
        | none =>
          unfold cutStr at h
          split at h
          · rename_i l hh mm e
            injection h with h
            subst h
            rw [len_eq] at e
            obtain ⟨⟨mx', hr, _⟩, h1, h2, h3⟩ := bndsA_run (P := P) (c' := s.length) e hlo hhi hma (Nat.le_refl _) false w
            refine ⟨.string ⟨⟨cut s l (Nat.sub hh l)⟩⟩, ?_, .str _⟩
            simp only [Instr.sliceAt, Instr.slice, Sem.run_bind, run_underlying ht, Result.andThen_ok, Option.isSome_none, Bool.false_eq_true, if_false, size_mk, Sem.run_pure, hr]
            congr 2
            rw [cut_eq]
            apply ByteArray.ext
            apply Array.ext'
            simp [ByteArray.data_extract, List.extract_eq_take_drop]
          · cases h
      · cases h
    · cases h
  · rename_i elem ht
    split at h
    · rename_i b o n cap
      unfold okSlice at h
      split at h
      · rename_i sz hsz
        split at h
        · rename_i hok
          unfold mkSlice at h
          split at h
          · rename_i l hh mm e
            rw [hsz] at h
            injection h with h
            subst h
            cases hx with
            | slice hb hc =>
              rename_i c' cb
              have hcap : cap ≤ c' := by rcases hc with h | h <;> omega
              obtain ⟨⟨mx', hr, hmx⟩, h1, h2, h3⟩ := bndsA_run (P := P) (c' := c') e hlo hhi hma hcap true w
              have hrun : (Instr.sliceAt t (.slice (some ⟨cb.blk, cb.base + o, none⟩) n c') lo hi ma).run P w = .ok (.slice (if mx' = l then some ⟨cb.blk, cb.base + o, none⟩ else some ⟨cb.blk, cb.base + o + l * sz, none⟩) (hh - l) (mx' - l)) w := by
                simp only [Instr.sliceAt, Instr.slice, Sem.run_bind, run_underlying ht, Result.andThen_ok, hr, sizeT_run hsz, Sem.run_pure, Option.map_some, add_eq]
              refine ⟨_, hrun, ?_⟩
              by_cases h0 : mx' = l
              · rw [if_pos h0]
                have : mm = l := by omega
                have e1 : Nat.sub hh l = 0 := by show hh - l = 0; omega
                have e2 : Nat.sub mm l = 0 := by show mm - l = 0; omega
                have e3 : hh - l = 0 := e1
                have e4 : mx' - l = 0 := by omega
                rw [e1, e2, e3, e4]
                exact .slice0 _ hb
              · rw [if_neg h0]
                have := VRel.slice (m := m) (b := b) (o := o + l * sz) (n := hh - l) (c := mm - l) (c' := mx' - l) hb ?_
                · rw [Nat.add_assoc]
                  exact this
                · rcases hmx with h5 | ⟨h5, h6⟩
                  · exact .inl (by omega)
                  · rcases hc with hc | ⟨q1, q2, q3, q4⟩
                    · exact .inl (by omega)
                    · have hszb : cb.sz = sz := by
                        unfold szOk at hok
                        split at hok
                        · rename_i sl s cs hg
                          obtain ⟨k1, k2, k3, k4, _⟩ := r.live b _ cb hg hb
                          split at hok
                          · rw [k3]; exact Nat.eq_of_beq_eq_true hok
                          · exfalso
                            have := k4 rfl
                            have h9 : cap * cb.sz < c' * cb.sz := Nat.mul_lt_mul_of_pos_right q1 q4
                            omega
                        · cases hok
                      rw [h5, h6]
                      have hle : l ≤ cap := by omega
                      obtain ⟨j, rfl⟩ := Nat.exists_eq_add_of_le hle
                      obtain ⟨j', rfl⟩ := Nat.exists_eq_add_of_le (Nat.le_trans hle (Nat.le_of_lt q1))
                      refine .inr ⟨by omega, ?_, ?_, q4⟩
                      · rw [Nat.add_sub_cancel_left, ← hszb, ← q2, Nat.add_mul]; omega
                      · rw [Nat.add_sub_cancel_left, ← hszb, Nat.add_mul] at *; omega
            | slice0 a hb =>
              rename_i cb
              obtain ⟨⟨mx', hr, hmx⟩, h1, h2, h3⟩ := bndsA_run (P := P) (c' := 0) e hlo hhi hma (Nat.le_refl _) true w
              have e0 : mx' = 0 := by omega
              have e1 : l = 0 := by omega
              have e2 : hh = 0 := by omega
              have e3 : mm = 0 := by omega
              subst e0; subst e1; subst e2; subst e3
              refine ⟨.slice (some a) 0 0, ?_, .slice0 _ hb⟩
              simp [Instr.sliceAt, Instr.slice, run_underlying ht, hr, sizeT_run hsz]
          · cases h
        · cases h
      · cases h
    · cases hx
      split at h
      · rename_i sz hsz
        unfold nilSlice at h
        split at h
        · rename_i q e
          injection h with h
          subst h
          obtain ⟨l, hh, mm⟩ := q
          obtain ⟨⟨mx', hr, hmx⟩, h1, h2, h3⟩ := bndsA_run (P := P) (c' := 0) e hlo hhi hma (Nat.le_refl _) true w
          have e0 : mx' = 0 := by omega
          have e1 : l = 0 := by omega
          have e2 : hh = 0 := by omega
          subst e0; subst e1; subst e2
          refine ⟨.slice none 0 0, ?_, .snil⟩
          simp [Instr.sliceAt, Instr.slice, run_underlying ht, hr, sizeT_run hsz]
        · cases h
      · cases h
    · cases h
  · rename_i n elem ht
    split at h
    · rename_i b o
      cases hx with
      | ptr hb =>
        rename_i cb
        unfold mkSlice at h
        split at h
        · rename_i l hh mm e
          split at h
          · rename_i sz hsz
            injection h with h
            subst h
            obtain ⟨⟨mx', hr, hmx⟩, h1, h2, h3⟩ := bndsA_run (P := P) (c' := n) e hlo hhi hma (Nat.le_refl _) false w
            have hmm : mx' = mm := by omega
            subst hmm
            have hrun : (Instr.sliceAt t (.pointer (some ⟨cb.blk, cb.base + o, none⟩)) lo hi ma).run P w = .ok (.slice (some (if mx' = l then ⟨cb.blk, cb.base + o, none⟩ else ⟨cb.blk, cb.base + o + l * sz, none⟩)) (hh - l) (mx' - l)) w := by
              simp only [Instr.sliceAt, Instr.sureAddr, Sem.run_bind, run_underlying ht, Result.andThen_ok, hr, sizeT_run hsz, Sem.run_pure, add_eq]
            refine ⟨_, hrun, ?_⟩
            by_cases h0 : mx' = l
            · rw [if_pos h0]
              have e1 : Nat.sub hh l = 0 := by show hh - l = 0; omega
              have e2 : Nat.sub mx' l = 0 := by show mx' - l = 0; omega
              have e3 : hh - l = 0 := e1
              have e4 : mx' - l = 0 := e2
              rw [e1, e2, e3, e4]
              exact .slice0 _ hb
            · rw [if_neg h0]
              have := VRel.slice (m := m) (b := b) (o := o + l * sz) (n := hh - l) (c := mx' - l) (c' := mx' - l) hb (.inl rfl)
              rw [Nat.add_assoc]
              exact this
          · cases h
        · cases h
    · cases h
  · cases h
end
end Go.Ev
