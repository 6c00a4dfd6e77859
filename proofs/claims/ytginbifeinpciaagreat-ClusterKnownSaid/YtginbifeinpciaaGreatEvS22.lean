/- A step that knows a part of memory, within the whole. -/
import Derived.Test.YtginbifeinpciaaGreatEvS21
namespace Go.Ev
open Go

/-- A step made under a part hs of what is known, taken into the whole. -/
theorem Rel.merge {m m' : BM} {hh hs hs' hh' : HF} {w w' : World} {nx nx' NA NB : Nat} (r : Rel m hh w) (hsub : ∀ b x, hs b = some x → m b ≠ none → hh b = some x) (s : Step m hs nx w m' hs' nx' w') (r' : Rel m' hs' w')
    (hnew : ∀ b x, hh' b = some x → m' b ≠ none → hs' b = some x ∨ (m b ≠ none ∧ hs b = none ∧ hh b = some x)) (hids : ∀ b, m b = none → m' b ≠ none → NA ≤ b ∧ b < NB) (hAB : NA ≤ NB) : Rel m' hh' w' ∧ Step m hh NA w m' hh' NB w' := by
  have some_ne : ∀ {α : Type} {o : Option α} {x : α}, o = some x → o ≠ none := fun h1 h2 => by rw [h1] at h2; cases h2
  -- a block that is not of the part shares no cell with the part
  have far : ∀ b x cb, hs b = none → hh b = some x → m b = some cb → ∀ i, cb.base ≤ i → i < cb.base + cb.room → ¬ Owned m hs cb.blk i := by
    intro b x cb h1 h2 h3 i h4 h5 ho
    obtain ⟨b1, x1, cb1, g1, g2, g3, g4, g5⟩ := ho
    have hne : b1 ≠ b := fun e => by rw [e, h1] at g1; cases g1
    exact r.apart b1 b x1 x cb1 cb hne (hsub b1 x1 g1 (some_ne g2)) h2 g2 h3 g3 i ⟨g4, g5, h4, h5⟩
  have same : ∀ b cb, m b ≠ none → m' b = some cb → m b = some cb := by
    intro b cb h1 h2
    cases hb : m b with
    | none => exact absurd hb h1
    | some cb' =>
      have := s.ext b cb' hb
      rw [h2] at this
      exact this.symm
  refine ⟨⟨r'.dom, fun b x cb h1 h2 => ?_, fun b b' x x' cb cb' h0 h1 h2 h3 h4 h5 i hi => ?_⟩, ⟨s.ext, fun b h1 h2 => ?_, hAB, s.size, s.tape, s.os, s.output, fun B c e f h1 => ?_, fun B o h1 h2 h3 => ?_, fun B i ho => ?_⟩⟩
  · rcases hnew b x h1 (some_ne h2) with h3 | ⟨h3, h4, h5⟩
    · exact r'.live b x cb h3 h2
    · have hb := same b cb h3 h2
      have hk := r.live b x cb h5 hb
      cases x with
      | cells sl sz l =>
        obtain ⟨k1, k2, k3, k4, c, e, lo, hi, k5, k6, k7, k8⟩ := hk
        obtain ⟨c', q1, q2, q3⟩ := s.cells cb.blk c e (lo, hi) k5
        refine ⟨k1, k2, k3, k4, c', e, lo, hi, q1, by rw [q2]; exact k6, k7, fun i v hv => ?_⟩
        obtain ⟨u, hu, hr⟩ := k8 i v hv
        have hi : i < l.length := by
          rcases Nat.lt_or_ge i l.length with h6 | h6
          · exact h6
          · rw [List.getElem?_eq_none h6] at hv; cases hv
        exact ⟨u, by rw [q3 _ (far b _ cb h4 h5 hb _ (by omega) (by omega))]; exact hu, hr.mono s.ext⟩
      | loop y =>
        have hk0 := hk
        obtain ⟨k1, k2, L, k3, _⟩ := hk
        exact hk0.of_heap s.ext ((s.objs cb.blk _ k3 (fun c e f h => by cases h) (far b _ cb h4 h5 hb 0 (by omega) (by omega))).trans k3.symm)
      | deferred y =>
        have hk0 := hk
        obtain ⟨k1, k2, k3⟩ := hk
        exact hk0.of_heap s.ext ((s.objs cb.blk _ k3 (fun c e f h => by cases h) (far b _ cb h4 h5 hb 0 (by omega) (by omega))).trans k3.symm)
      | map y =>
        have hk0 := hk
        obtain ⟨k1, k2, ces, k, k3, _⟩ := hk
        exact hk0.of_heap s.ext ((s.objs cb.blk _ k3 (fun c e f h => by cases h) (far b _ cb h4 h5 hb 0 (by omega) (by omega))).trans k3.symm)
  · have mix : ∀ b b' x x' cb cb', hs' b = some x → m' b = some cb → (m b' ≠ none ∧ hs b' = none ∧ hh b' = some x') → m' b' = some cb' → cb.blk = cb'.blk → ∀ i, ¬ (cb.base ≤ i ∧ i < cb.base + cb.room ∧ cb'.base ≤ i ∧ i < cb'.base + cb'.room) := by
      intro b b' x x' cb cb' g1 g2 ⟨g3, g4, g5⟩ g6 g7 i ⟨i1, i2, i3, i4⟩
      have hb' := same b' cb' g3 g6
      rcases s.grow cb.blk i ⟨b, x, cb, g1, g2, rfl, i1, i2⟩ with ho | ho
      · rw [g7] at ho
        exact far b' x' cb' g4 g5 hb' i i3 i4 ho
      · have := (r.dom b' cb' hb').2
        omega
    rcases hnew b x h1 (some_ne h3) with g | g
    · rcases hnew b' x' h2 (some_ne h4) with g' | g'
      · exact r'.apart b b' x x' cb cb' h0 g g' h3 h4 h5 i hi
      · exact mix b b' x x' cb cb' g h3 g' h4 h5 i hi
    · rcases hnew b' x' h2 (some_ne h4) with g' | g'
      · exact mix b' b x' x cb' cb g' h4 g h3 h5.symm i ⟨hi.2.2.1, hi.2.2.2, hi.1, hi.2.1⟩
      · exact r.apart b b' x x' cb cb' h0 g.2.2 g'.2.2 (same b cb g.1 h3) (same b' cb' g'.1 h4) h5 i hi
  · exact hids b h1 h2
  · obtain ⟨c', q1, q2, q3⟩ := s.cells B c e f h1
    refine ⟨c', q1, q2, fun i hi => q3 i fun ho => hi ?_⟩
    obtain ⟨b1, x1, cb1, g1, g2, g3⟩ := ho
    exact ⟨b1, x1, cb1, hsub b1 x1 g1 (some_ne g2), g2, g3⟩
  · refine s.objs B o h1 h2 fun ho => h3 ?_
    obtain ⟨b1, x1, cb1, g1, g2, g3⟩ := ho
    exact ⟨b1, x1, cb1, hsub b1 x1 g1 (some_ne g2), g2, g3⟩
  · obtain ⟨b, x, cb, g1, g2, g3⟩ := ho
    rcases hnew b x g1 (some_ne g2) with g | g
    · rcases s.grow B i ⟨b, x, cb, g, g2, g3⟩ with ho | ho
      · obtain ⟨b1, x1, cb1, q1, q2, q3⟩ := ho
        exact .inl ⟨b1, x1, cb1, hsub b1 x1 q1 (some_ne q2), q2, q3⟩
      · exact .inr ho
    · exact .inl ⟨b, x, cb, g.2.2, same b cb g.1 g2, g3⟩

/-! The order in which operations may come up -/
theorem before_fold {g : Array Nat → Oper → Nat} : ∀ (l : List Oper) (acc : Array Nat), (l.foldl (fun acc o => acc.push (g acc o)) acc).size = acc.size + l.length ∧
    (∀ i, i < acc.size → (l.foldl (fun acc o => acc.push (g acc o)) acc)[i]? = acc[i]?) ∧
    ∀ i o, l[i]? = some o → ∃ acc' : Array Nat, acc'.size = acc.size + i ∧ (∀ k, k < acc.size + i → acc'[k]? = (l.foldl (fun acc o => acc.push (g acc o)) acc)[k]?) ∧ (l.foldl (fun acc o => acc.push (g acc o)) acc)[acc.size + i]? = some (g acc' o)
  | [], acc => ⟨rfl, fun _ _ => rfl, fun i o h => by simp at h⟩
  | o :: l, acc => by
    obtain ⟨h1, h2, h3⟩ := before_fold (g := g) l (acc.push (g acc o))
    simp only [Array.size_push] at h1 h2 h3
    refine ⟨by simp only [List.foldl_cons, List.length_cons]; omega, fun i hi => ?_, fun i o' ho' => ?_⟩
    · simp only [List.foldl_cons]
      rw [h2 i (by omega), Array.getElem?_push, if_neg (by omega)]
    · simp only [List.foldl_cons]
      cases i with
      | zero =>
        simp at ho'
        subst ho'
        refine ⟨acc, rfl, fun k hk => ?_, ?_⟩
        · rw [h2 k (by omega), Array.getElem?_push, if_neg (by omega)]
        · rw [h2 _ (by omega)]
          simp
      | succ i =>
        obtain ⟨acc', q1, q2, q3⟩ := h3 i o' (by simpa using ho')
        refine ⟨acc', by omega, fun k hk => q2 k (by omega), ?_⟩
        rw [show acc.size + (i + 1) = acc.size + 1 + i from by omega]
        exact q3
theorem testBit_edges {P : Edge → Bool} {acc : Array Nat} {k : Nat} : ∀ (l : List Edge) (s : Nat), (l.foldl (fun s e => if P e then s ||| 2 ^ e.on ||| acc.getD e.on 0 else s) s).testBit k = true →
    s.testBit k = true ∨ ∃ e ∈ l, P e = true ∧ (e.on = k ∨ (acc.getD e.on 0).testBit k = true)
  | [], s, h => .inl h
  | e :: l, s, h => by
    simp only [List.foldl_cons] at h
    rcases testBit_edges l _ h with h1 | ⟨e', h1, h2⟩
    · by_cases hp : P e = true
      · rw [if_pos hp] at h1
        simp only [Nat.testBit_or, Bool.or_eq_true] at h1
        rcases h1 with (h1 | h1) | h1
        · exact .inl h1
        · exact .inr ⟨e, by simp, hp, .inl (by rw [Nat.testBit_two_pow] at h1; simpa using h1)⟩
        · exact .inr ⟨e, by simp, hp, .inr h1⟩
      · rw [if_neg hp] at h1
        exact .inl h1
    · exact .inr ⟨e', List.mem_cons_of_mem _ h1, h2⟩
/-- What must come before an operation. -/
theorem before_bit {ops : Array Oper} {i k : Nat} (h : ((Region.before ops).getD i 0).testBit k = true) :
    ∃ o, ops[i]? = some o ∧ ∃ e ∈ o.after.toList, Region.binds .any e = true ∧ (e.on = k ∨ (e.on < i ∧ ((Region.before ops).getD e.on 0).testBit k = true)) := by
  have hB : Region.before ops = ops.toList.foldl (fun acc o => acc.push (o.after.foldl (fun s e => if Region.binds .any e then s ||| 2 ^ e.on ||| acc.getD e.on 0 else s) 0)) #[] := by
    unfold Region.before
    rw [Array.foldl_toList]
  obtain ⟨h1, _, h3⟩ := before_fold (g := fun acc o => o.after.foldl (fun s e => if Region.binds .any e then s ||| 2 ^ e.on ||| acc.getD e.on 0 else s) 0) ops.toList #[]
  rw [← hB] at h1 h3
  cases ho : ops[i]? with
  | none =>
    exfalso
    have hlen : (Region.before ops).size ≤ i := by
      rw [h1]
      have := Array.getElem?_eq_none_iff.1 ho
      simpa using this
    rw [Array.getD_eq_getD_getElem?, Array.getElem?_eq_none hlen] at h
    simp at h
  | some o =>
    obtain ⟨acc', q1, q2, q3⟩ := h3 i o (by rw [Array.getElem?_toList]; exact ho)
    simp only [Array.size_empty, Nat.zero_add] at q1 q2 q3
    rw [Array.getD_eq_getD_getElem?, q3] at h
    simp only [Option.getD_some] at h
    rw [← Array.foldl_toList] at h
    rcases testBit_edges _ _ h with h4 | ⟨e, he, hp, h4⟩
    · simp at h4
    · refine ⟨o, rfl, e, he, hp, ?_⟩
      rcases h4 with h4 | h4
      · exact .inl h4
      · right
        by_cases hlt : e.on < i
        · refine ⟨hlt, ?_⟩
          rw [Array.getD_eq_getD_getElem?, q2 _ hlt] at h4
          rw [Array.getD_eq_getD_getElem?]
          exact h4
        · exfalso
          rw [Array.getD_eq_getD_getElem?, Array.getElem?_eq_none (by omega)] at h4
          simp at h4
end Go.Ev
