/- Equality, operators, conversions, slicing: what the abstract machine reckons is what the model reckons. -/
import Derived.Test.YtginbifeinpciaaGreatEvS6
import Derived.Laws.StructEq
import Derived.Laws.IdiomStrings
namespace Go.Ev
open Go

section
variable {P : Program} {w : World} {m : BM}
theorem partA_run {t : TypeId} {cs : List AV} {off : Nat} {v : AV} (h : partA P t cs off = some v) {c : Array Value} (hl : LRel m cs c.toList) (w : World) : ∃ u, (part t c off).run P w = .ok u w ∧ VRel m v u := by
  unfold partA at h
  split at h
  · rename_i ht
    simp only [Option.map_eq_some_iff] at h
    obtain ⟨n, hn, rfl⟩ := h
    refine ⟨.agg (c.extract off (off + n)), ?_, .agg ?_⟩
    · simp [part, aggT_run ht, sizeT_run hn]
    · rw [cut_eq]
      have := (hl.drop off).take n
      simpa [List.extract_eq_take_drop] using this
  · rename_i ht
    rw [nth_eq] at h
    obtain ⟨u, hu, hr⟩ := hl.get h
    refine ⟨u, ?_, hr⟩
    rw [Array.getElem?_toList] at hu
    simp [part, aggT_run ht, hu]
  · cases h

theorem bEq_eq (a b : Bool) : bEq a b = (a == b) := by cases a <;> cases b <;> rfl

theorem eqFs_run {d : Nat} (ih : ∀ (t : TypeId) (x y : AV) (b : Bool) (u v : Value), eqA P d t x y = some b → VRel m x u → VRel m y v → ∀ w, (Op.equalIn d t u v).run P w = .ok b w) :
    ∀ (fs : List Field) (xs ys : List AV) (us vs : Array Value) (b : Bool), eqFs P (eqA P d) fs xs ys = some b → LRel m xs us.toList → LRel m ys vs.toList → ∀ w, (Op.eqFields d us vs fs).run P w = .ok b w
  | [], xs, ys, us, vs, b, h, _, _, w => by
    simp only [eqFs] at h
    injection h with h
    subst h
    simp [Op.eqFields]
  | f :: fs, xs, ys, us, vs, b, h, hx, hy, w => by
    simp only [eqFs] at h
    split at h
    · rename_i hn
      split at h
      · rename_i a a' ha ha'
        obtain ⟨u, hu, hur⟩ := partA_run ha hx w
        obtain ⟨u', hu', hur'⟩ := partA_run ha' hy w
        simp only [Op.eqFields, if_pos hn, Sem.run_bind, hu, hu', Result.andThen_ok]
        split at h
        · rename_i h1
          rw [ih _ _ _ _ _ _ h1 hur hur' w]
          simp only [Result.andThen_ok, Bool.not_true, Bool.false_eq_true, if_false]
          exact eqFs_run ih fs xs ys us vs b h hx hy w
        · rename_i r hr
          subst_vars
          rw [ih _ _ _ _ _ _ h hur hur' w]
          cases b with
          | true => exact absurd h hr
          | false => simp
      · cases h
    · rename_i hn
      simp only [Op.eqFields, if_neg hn]
      exact eqFs_run ih fs xs ys us vs b h hx hy w

theorem nilEq_some {a b : Option Bool} {r : Bool} (h : nilEq a b = some r) : (a = some true ∧ b = some r) ∨ (a = some false ∧ b = some true ∧ r = false) := by
  unfold nilEq at h
  split at h
  · injection h with h; subst h; exact .inl ⟨rfl, rfl⟩
  · injection h with h; exact .inr ⟨rfl, rfl, h.symm⟩
  · cases h

theorem eqA_run : ∀ (d : Nat) (t : TypeId) (x y : AV) (b : Bool) (u v : Value), eqA P d t x y = some b → VRel m x u → VRel m y v → ∀ w, (Op.equalIn d t u v).run P w = .ok b w
  | 0, _, _, _, _, _, _, h, _, _, _ => by simp [eqA] at h
  | d + 1, t, x, y, b, u, v, h, hx, hy, w => by
    unfold eqA at h
    split at h
    · rename_i ht
      split at h
      · cases hx; cases hy
        injection h with h; subst h
        rw [run_equalIn_bool' w d t _ _ ht, bEq_eq]
      · cases h
    · rename_i k ht
      split at h
      · split at h
        · rename_i hk
          rw [kEq_iff] at hk
          subst hk
          cases hx; cases hy
          injection h with h; subst h
          rw [run_equalIn_int w d t _ _ _ _ ht, iEq_eq]
        · cases h
      · cases h
    · rename_i ht
      split at h
      · cases hx; cases hy
        injection h with h; subst h
        rw [run_equalIn_string w d t _ _ ht, strEq_eq, toList_mk, toList_mk]
      · cases h
    · rename_i e ht
      rcases nilEq_some h with ⟨h1, h2⟩ | ⟨h1, h2, rfl⟩
      · cases hx <;> simp only [isPnil] at h1 <;> try cases h1
        cases hy <;> simp only [isPnil] at h2 <;> cases h2 <;> simp [Op.equalIn, run_underlying ht]
      · cases hx <;> simp only [isPnil] at h1 <;> try cases h1
        cases hy <;> simp only [isPnil] at h2 <;> (try cases h2) <;> simp [Op.equalIn, run_underlying ht]
    · rename_i e ht
      rcases nilEq_some h with ⟨h1, h2⟩ | ⟨h1, h2, rfl⟩
      · cases hx <;> simp only [isSnil] at h1 <;> try cases h1
        cases hy <;> simp only [isSnil] at h2 <;> cases h2 <;> simp [Op.equalIn, run_underlying ht]
      · cases hx <;> simp only [isSnil] at h1 <;> (try cases h1) <;>
        cases hy <;> simp only [isSnil] at h2 <;> (try cases h2) <;> simp [Op.equalIn, run_underlying ht]
    · rename_i e e' ht
      rcases nilEq_some h with ⟨h1, h2⟩ | ⟨h1, h2, rfl⟩
      · cases hx <;> simp only [isMnil] at h1 <;> try cases h1
        cases hy <;> simp only [isMnil] at h2 <;> cases h2 <;> simp [Op.equalIn, run_underlying ht]
      · cases hx <;> simp only [isMnil] at h1 <;> (try cases h1) <;>
        cases hy <;> simp only [isMnil] at h2 <;> (try cases h2) <;> simp [Op.equalIn, run_underlying ht]
    · rename_i e e' e'' ht
      rcases nilEq_some h with ⟨h1, h2⟩ | ⟨h1, h2, rfl⟩
      · cases hx <;> simp only [isFnil] at h1 <;> try cases h1
        cases hy <;> simp only [isFnil] at h2 <;> cases h2 <;> simp [Op.equalIn, run_underlying ht]
      · cases hx <;> simp only [isFnil] at h1 <;> (try cases h1) <;>
        cases hy <;> simp only [isFnil] at h2 <;> (try cases h2) <;> simp [Op.equalIn, run_underlying ht]
    · rename_i fs ht
      split at h
      · cases hx with
        | agg hx => cases hy with
          | agg hy =>
            split at h
            · cases h
            · rename_i hs
              have hf : P.fieldsOf t = fs := by simp [Program.fieldsOf, ht]
              rw [run_equalIn_struct w d t _ _ (by rw [hf]; exact ht) (by simpa using hs), hf]
              exact eqFs_run (fun t x y b u v h1 h2 h3 w => eqA_run d t x y b u v h1 h2 h3 w) fs.toList _ _ _ _ b h hx hy w
      · cases h
    · cases h

theorem eqGuard_rel {op : BinOp} {t : TypeId} {xo yo : Operand} {x : AV} {u v : Value} (h : (aggV x && P.eqGuardType P.depth t) = false) (hx : VRel m x u) : (eqGuard op t xo yo u v).run P w = .ok () w := by
  cases hx with
  | agg hx =>
    have h' : P.eqGuardType P.depth t = false := by simpa [aggV] using h
    cases op <;> cases v <;> simp [eqGuard, run_program, h']
  | _ => cases op <;> simp [eqGuard]

theorem binA_run {op : BinOp} {t : TypeId} {x y r : AV} {xo yo : Operand} {u v : Value} (h : binA P op t x y = some r) (hx : VRel m x u) (hy : VRel m y v) (w : World) :
    ∃ z, (do eqGuard op t xo yo u v; binOp op t u v : Sem Value).run P w = .ok z w ∧ VRel m r z := by
  unfold binA at h
  split at h
  · rename_i k a
    split at h
    · rename_i j b
      cases hx; cases hy
      have hg : (eqGuard op t xo yo (.int k a) (.int j b)).run P w = .ok () w := eqGuard_rel (m := m) (x := .int k a) rfl (.int k a)
      simp only [Sem.run_bind, hg, Result.andThen_ok]
      unfold intOps at h
      split at h
      · exact rel_shift shlA h m (.inl ⟨rfl, rfl⟩) t
      · exact rel_shift shrA h m (.inr ⟨rfl, rfl⟩) t
      · rename_i h1 h2
        split at h
        · rename_i hk
          rw [kEq_iff] at hk
          subst hk
          obtain ⟨z, hz, hr⟩ := rel_intOp (P := P) (w := w) h m
          refine ⟨z, ?_, hr⟩
          rw [← hz]
          cases op <;> first | rfl | exact absurd rfl h1 | exact absurd rfl h2
        · cases h
    · cases h
  · rename_i a
    split at h
    · rename_i b
      cases hx; cases hy
      have hg : (eqGuard op t xo yo (.string ⟨⟨a⟩⟩) (.string ⟨⟨b⟩⟩)).run P w = .ok () w := eqGuard_rel (m := m) (x := .str a) rfl (.str a)
      simp only [Sem.run_bind, hg, Result.andThen_ok]
      exact rel_strOp h m t
    · cases h
  · rename_i hni hns
    unfold eqlO at h
    have key : ∀ neg, eqlA P t neg x y = some r → ∃ b, (eqGuard op t xo yo u v).run P w = .ok () w ∧ (Op.equal t u v).run P w = .ok b w ∧ r = .bool (match neg with | true => !b | false => b) := by
      intro neg h
      unfold eqlA at h
      split at h
      · cases h
      · rename_i hg
        simp only [Option.map_eq_some_iff] at h
        obtain ⟨b, hb, rfl⟩ := h
        exact ⟨b, eqGuard_rel hg hx, eqA_run 10000 t x y b u v hb hx hy w, by cases neg <;> rfl⟩
    split at h
    · obtain ⟨b, h1, h2, rfl⟩ := key false h
      refine ⟨.bool b, ?_, .bool b⟩
      simp only [Sem.run_bind, h1, Result.andThen_ok]
      have : binOp .eql t u v = (do pure (.bool (← Op.equal t u v)) : Sem Value) := by
        cases hx <;> first | rfl | exact absurd rfl (hni _ _) | exact absurd rfl (hns _)
      rw [this]
      simp [h2]
    · obtain ⟨b, h1, h2, rfl⟩ := key true h
      refine ⟨.bool (!b), ?_, .bool (!b)⟩
      simp only [Sem.run_bind, h1, Result.andThen_ok]
      have : binOp .neq t u v = (do pure (.bool (!(← Op.equal t u v))) : Sem Value) := by
        cases hx <;> first | rfl | exact absurd rfl (hni _ _) | exact absurd rfl (hns _)
      rw [this]
      simp [h2]
    · cases h

theorem unA_run {op : UnOp} {x r : AV} {u : Value} (h : unA op x = some r) (hx : VRel m x u) (w : World) : ∃ z, (Op.unary op u).run P w = .ok z w ∧ VRel m r z := by
  unfold unA at h
  split at h
  · split at h
    · cases hx
      injection h with h; subst h
      rw [wr_eq]
      refine ⟨_, rfl, ?_⟩
      exact .int _ _
    · cases h
  · split at h
    · cases hx
      injection h with h; subst h
      exact ⟨_, rfl, .int _ _⟩
    · cases h
  · split at h
    · cases hx
      injection h with h; subst h
      exact ⟨_, rfl, .bool _⟩
    · cases h
  · cases h
end
end Go.Ev
