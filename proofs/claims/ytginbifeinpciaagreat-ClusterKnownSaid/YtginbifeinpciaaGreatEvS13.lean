/- Maps: looking up, putting, deleting, making; len. -/
import Derived.Test.YtginbifeinpciaaGreatEvS12
namespace Go.Ev
open Go

section
variable {P : Program} {m : BM} {H : AH} {w : World}
theorem checkKey_succ {κ : Option IntKind} {kt : TypeId} {d : TypeDesc} (hkt : P.underlying kt = some d) (hd : (κ = none ∧ d = .string) ∨ ∃ j, κ = some j ∧ d = .int j) (b : Bool) (u : Value) (n : Nat) (w : World) : (Instr.checkKey b (n + 1) kt u).run P w = .ok () w := by
  rcases hd with ⟨_, rfl⟩ | ⟨j, _, rfl⟩ <;> simp [Instr.checkKey, run_underlying hkt]
theorem checkKey_run {κ : Option IntKind} {kt : TypeId} {d : TypeDesc} (hkt : P.underlying kt = some d) (hd : (κ = none ∧ d = .string) ∨ ∃ j, κ = some j ∧ d = .int j) (b : Bool) (u : Value) (w : World) : (Instr.checkKey b 10000 kt u).run P w = .ok () w :=
  checkKey_succ hkt hd b u 9999 w
theorem findKey_run {kt : TypeId} {d : TypeDesc} (hkt : P.underlying kt = some d) {uk : Value} {ces : List MapEntry} {r : Option (Nat × Value)} (h : Instr.findNow d uk ces 0 = some r) (w : World) :
    (Instr.findKey kt uk ces).run P w = .ok r w := by
  simp [Instr.findKey, run_underlying hkt, h]

/-- The keys of both lists. -/
theorem mapOk_keys {es : List (AV × AV)} {ces : Array MapEntry} (h : MapOk m es ces) {κ : Option IntKind} (hk : ∀ e ∈ es, KeyK κ e.1) : ∀ e ∈ ces.toList, ∃ a, KeyK κ a ∧ VRel m a e.key := by
  obtain ⟨l, hp, _, h1, h2, hd⟩ := h
  intro e he
  have he' := hp.mem_iff.2 he
  obtain ⟨i, hi, rfl⟩ := List.getElem_of_mem he'
  have hlen : es.length = l.length := by simpa using h1.length
  have hes : es[i]? = some es[i] := List.getElem?_eq_getElem (by omega)
  obtain ⟨u, hu, hr⟩ := h1.get (i := i) (v := es[i].1) (by simp [hes])
  simp at hu
  obtain ⟨_, hu, rfl⟩ := hu
  refine ⟨es[i].1, hk _ (by simp), ?_⟩
  rw [List.getElem?_eq_getElem hi] at hu
  injection hu with hu
  rw [hu]
  exact hr
theorem kdOk_key {κ : Option IntKind} {k : AV} {es : List (AV × AV)} (h : kdOk k es = true) (hk : KeyK κ k) (he : ∃ κ, ∀ e ∈ es, KeyK κ e.1) : ∀ e ∈ es, KeyK κ e.1 := by
  cases es with
  | nil => intro e he; cases he
  | cons e0 es =>
    obtain ⟨κ', he⟩ := he
    have h1 := kd_key (κ := κ') h (he e0 (by simp))
    rw [key_inj hk h1]
    exact he
/-- Where a key lies in the machine's list. -/
theorem findM_spec {κ : Option IntKind} {k : AV} (hk : KeyK κ k) : ∀ {es : List (AV × AV)}, (∀ e ∈ es, KeyK κ e.1) →
    (findM k es = none ∧ (∀ e ∈ es, e.1 ≠ k) ∧ (∀ v, putM k v es = es ++ [(k, v)]) ∧ delM k es = es) ∨
    ∃ e1 v e2, es = e1 ++ (k, v) :: e2 ∧ findM k es = some v ∧ (∀ v', putM k v' es = e1 ++ (k, v') :: e2) ∧ delM k es = e1 ++ e2
  | [], _ => .inl ⟨rfl, (fun e he => by cases he), (fun v => rfl), rfl⟩
  | (ek, ev) :: es, h => by
    have he : KeyK κ ek := h (ek, ev) (by simp)
    have hs : (sbeq k ek = true ↔ k = ek) := by
      cases κ with
      | none =>
        unfold KeyK at hk he
        split at hk
        · split at he
          · show strEq _ _ = true ↔ _
            rw [strEq_iff]; simp
          · cases he
          · exact absurd he id
        · cases hk
        · exact absurd hk id
      | some j =>
        unfold KeyK at hk he
        split at hk
        · cases hk
        · split at he
          · cases he
          · injection hk with hk; injection he with he
            subst hk; subst he
            show (kEq _ _ && iEq _ _) = true ↔ _
            rw [kEq_iff.2 rfl, iEq_eq]; simp
          · exact absurd he id
        · exact absurd hk id
    cases hb : sbeq k ek with
    | true =>
      have h1 := hs.1 hb
      refine .inr ⟨[], ev, es, by rw [h1]; rfl, by simp [findM, hb], fun v' => by simp [putM, hb], by simp [delM, hb]⟩
    | false =>
      have hne : ek ≠ k := fun h1 => by rw [hs.2 h1.symm] at hb; cases hb
      rcases findM_spec hk (es := es) (fun e' he' => h e' (List.mem_cons_of_mem _ he')) with ⟨h1, h2, h3, h4⟩ | ⟨e1, v, e2, rfl, h1, h2, h3⟩
      · refine .inl ⟨by simp [findM, hb, h1], fun e' he' => ?_, fun v => by simp [putM, hb, h3], by simp [delM, hb, h4]⟩
        cases he' with
        | head => exact hne
        | tail _ he' => exact h2 e' he'
      · exact .inr ⟨(ek, ev) :: e1, v, e2, rfl, by simp [findM, hb, h1], fun v' => by simp [putM, hb, h2], by simp [delM, hb, h3]⟩

/-- The two looks together. -/
theorem find_run {κ : Option IntKind} {d : TypeDesc} (hd : (κ = none ∧ d = .string) ∨ ∃ j, κ = some j ∧ d = .int j) {k : AV} {uk : Value} (hk : KeyK κ k) (huk : VRel m k uk) {es : List (AV × AV)} {ces : Array MapEntry}
    (hm : MapOk m es ces) (hkd : ∀ e ∈ es, KeyK κ e.1) :
    (Instr.findNow d uk ces.toList 0 = some none ∧ findM k es = none ∧ (∀ v, putM k v es = es ++ [(k, v)]) ∧ delM k es = es ∧ (∀ e ∈ es, e.1 ≠ k)) ∨
    ∃ (c1 : List MapEntry) (e : MapEntry) (c2 : List MapEntry) (e1 : List (AV × AV)) (v : AV) (e2 : List (AV × AV)) (l1 l2 : List MapEntry), ces.toList = c1 ++ e :: c2 ∧ Instr.findNow d uk ces.toList 0 = some (some (c1.length, e.val)) ∧ e.key = uk ∧ Instr.sameBits 10000 e.key uk = true ∧
      es = e1 ++ (k, v) :: e2 ∧ findM k es = some v ∧ (∀ v', putM k v' es = e1 ++ (k, v') :: e2) ∧ delM k es = e1 ++ e2 ∧ VRel m v e.val ∧
      (l1 ++ l2).Perm (c1 ++ c2) ∧ LRel m (e1.map (·.1)) (l1.map (·.key)) ∧ LRel m (e2.map (·.1)) (l2.map (·.key)) ∧ LRel m (e1.map (·.2)) (l1.map (·.val)) ∧ LRel m (e2.map (·.2)) (l2.map (·.val)) := by
  have hkeys := mapOk_keys hm hkd
  obtain ⟨l, hp, _, h1, h2, hdist⟩ := hm
  have hlen : es.length = l.length := by simpa using h1.length
  rcases findNow_run hd hk huk ces.toList 0 hkeys with ⟨h3, h4⟩ | ⟨c1, e, c2, h3, h4, h5, h6, h7⟩
  · rcases findM_spec hk hkd with ⟨f1, f2, f3, f4⟩ | ⟨e1, v, e2, f1, f2, f3, f4⟩
    · exact .inl ⟨h3, f1, f3, f4, f2⟩
    · exfalso
      have hi : es[e1.length]? = some (k, v) := by rw [f1]; simp
      obtain ⟨u, hu, hr⟩ := h1.get (i := e1.length) (v := k) (by simp [hi])
      simp at hu
      obtain ⟨e, he, rfl⟩ := hu
      have hmem : e ∈ ces.toList := hp.mem_iff.1 (List.mem_of_getElem? he)
      exact h4 e hmem ⟨k, hk, hr, rfl⟩
  · have hmem : e ∈ l := hp.mem_iff.2 (by rw [h3]; simp)
    obtain ⟨i, hi, hle⟩ := List.getElem_of_mem hmem
    have hes : es[i]? = some es[i] := List.getElem?_eq_getElem (by omega)
    have hli : l[i]? = some e := by rw [List.getElem?_eq_getElem hi, hle]
    obtain ⟨u, hu, hr⟩ := h1.get (i := i) (v := es[i].1) (by simp [hes])
    simp [hli] at hu
    subst hu
    obtain ⟨u2, hu2, hr2⟩ := h2.get (i := i) (v := es[i].2) (by simp [hes])
    simp [hli] at hu2
    subst hu2
    have hkey : es[i].1 = k := by
      have q := key_same hd (hkd es[i] (by simp)) hk hr h7
      have q1 := q.1
      have q2 := key_same hd hk hk h7 h7
      rw [q2.1, q2.2.1.2 rfl] at q1
      injection q1 with q1
      exact q.2.1.1 q1.symm
    rcases findM_spec hk hkd with ⟨f1, f2, f3, f4⟩ | ⟨e1, v, e2, f1, f2, f3, f4⟩
    · exact absurd hkey (f2 es[i] (by simp))
    · -- the place is the same one
      have hie : i = e1.length := by
        have hj : es[e1.length]? = some (k, v) := by rw [f1]; simp
        have hjl : e1.length < es.length := (List.getElem?_eq_some_iff.1 hj).1
        have hjv : es[e1.length] = (k, v) := (List.getElem?_eq_some_iff.1 hj).2
        rcases Nat.lt_trichotomy i e1.length with h8 | h8 | h8
        · exfalso
          have := (List.pairwise_iff_getElem.1 hdist) i e1.length (by omega) hjl h8
          rw [hjv, hkey] at this
          exact this rfl
        · exact h8
        · exfalso
          have := (List.pairwise_iff_getElem.1 hdist) e1.length i hjl (by omega) h8
          rw [hjv, hkey] at this
          exact this rfl
      have hv : es[i].2 = v := by
        have hj : es[e1.length]? = some (k, v) := by rw [f1]; simp
        have hjv : es[e1.length]? = some es[i] := by rw [← hie]; exact hes
        rw [hj] at hjv
        injection hjv with hjv
        rw [← hjv]
      rw [hv] at hr2
      have hl : l = l.take i ++ e :: l.drop (i + 1) := by
        rw [← hle]; simp
      refine .inr ⟨c1, e, c2, e1, v, e2, l.take i, l.drop (i + 1), h3, by rw [h4]; simp, h5, h6, f1, f2, f3, f4, hr2, ?_, ?_, ?_, ?_, ?_⟩
      · rw [h3] at hp
        rw [hl] at hp
        have hp2 := (List.perm_middle.symm.trans hp).trans List.perm_middle
        exact (List.perm_cons e).1 hp2
      · have := h1.take i
        rw [f1, hie] at this
        simpa [List.map_take, hie] using this
      · have := h1.drop (i + 1)
        rw [f1, hie] at this
        simpa [List.map_drop, hie, List.drop_append, List.drop_of_length_le] using this
      · have := h2.take i
        rw [f1, hie] at this
        simpa [List.map_take, hie] using this
      · have := h2.drop (i + 1)
        rw [f1, hie] at this
        simpa [List.map_drop, hie, List.drop_append, List.drop_of_length_le] using this
end
end Go.Ev
