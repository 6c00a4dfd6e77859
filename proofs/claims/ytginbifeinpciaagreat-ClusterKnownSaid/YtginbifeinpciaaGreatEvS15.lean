/- One operation: what the abstract machine makes of it is what the model makes of it. -/
import Derived.Test.YtginbifeinpciaaGreatEvS14
namespace Go.Ev
open Go

/-- The frame's slots. -/
def EvalRel (m : BM) (f : Fr) (a : Act) : Prop := ∀ t, VRel m (f.get t) (a.tmps.getD t undef)
theorem EvalRel.mono {m m' : BM} {f : Fr} {a : Act} (h : EvalRel m f a) (e : Ext m m') : EvalRel m' f a := fun t => (h t).mono e

section
variable {P : Program} {m : BM} {H : AH} {w : World} {f : Fr} {a : Act}
theorem aev_rel (hf : EvalRel m f a) {x : Operand} {v : AV} (h : aev f x = some v) : VRel m v (a.eval x) := by
  cases x with
  | tmp t => simp only [aev] at h; injection h with h; subst h; exact hf t
  | const u => exact convZ_rel h m
  | global g => cases h
  | func g => simp only [aev] at h; injection h with h; subst h; exact .func .nil .nil
theorem aevs_rel (hf : EvalRel m f a) : ∀ {xs : List Operand} {vs : List AV}, aevs f xs = some vs → LRel m vs (xs.map a.eval)
  | [], vs, h => by simp only [aevs] at h; injection h with h; subst h; exact .nil
  | x :: xs, vs, h => by
    obtain ⟨v, vs', h1, h2, rfl⟩ := consO_some h
    exact .cons (aev_rel hf h1) (aevs_rel hf h2)
theorem optA_rel (hf : EvalRel m f a) {x : Option Operand} {v : Option AV} (h : optA f x = some v) : ORel m v (x.map a.eval) := by
  cases x with
  | none => simp only [optA] at h; injection h with h; subst h; exact trivial
  | some x =>
    simp only [optA, Option.map_eq_some_iff] at h
    obtain ⟨u, hu, rfl⟩ := h
    exact aev_rel hf hu
theorem pairsA_rel (hf : EvalRel m f a) : ∀ {xs : List (Nat × Operand)} {vs : List (Nat × AV)}, pairsA f xs = some vs → PRel m vs (xs.map fun p => (p.1, a.eval p.2))
  | [], vs, h => by simp only [pairsA] at h; injection h with h; subst h; exact .nil
  | x :: xs, vs, h => by
    obtain ⟨v, vs', h1, h2, rfl⟩ := consO_some h
    unfold pairO at h1
    split at h1
    · rename_i u hu
      injection h1 with h1
      subst h1
      exact .cons _ (aev_rel hf hu) (pairsA_rel hf h2)
    · cases h1

/-- What a step gives: a value, or nothing. -/
def Gives (v : AV) (m' : BM) (nx : Next) : Prop := ∃ z, (nx = .value z ∨ (nx = .skip ∧ z = undef)) ∧ VRel m' v z
theorem Res.value {s : Sem Value} {v : AV} {H' : AH} (h : Res P s (fun m' z => VRel m' v z) m H w H') : Res P (s >>= fun z => Pure.pure (Next.value z)) (Gives v) m H w H' := by
  obtain ⟨m', z, w', h1, h2, h3, h4, h5⟩ := h
  exact ⟨m', .value z, w', by simp [h1], h2, h3, h4, z, .inl rfl, h5⟩
theorem Res.unit {s : Sem Unit} {R : BM → Unit → Prop} {H' : AH} (h : Res P s R m H w H') : Res P (s >>= fun _ => Pure.pure Next.skip) (Gives Ev.und) m H w H' := by
  obtain ⟨m', z, w', h1, h2, h3, h4, h5⟩ := h
  exact ⟨m', .skip, w', by simp [h1], h2, h3, h4, undef, .inr ⟨rfl, rfl⟩, .und _⟩
theorem Res.of_run {s : Sem Value} {v : AV} (r : Rel m H.get w) (hk : HOk H) (h : ∃ z, s.run P w = .ok z w ∧ VRel m v z) : Res P s (fun m' z => VRel m' v z) m H w H := by
  obtain ⟨z, h1, h2⟩ := h
  exact .pure r hk h1 h2
theorem Res.congr {α : Type} {s s' : Sem α} {R : BM → α → Prop} {H' : AH} (h : Res P s R m H w H') (e : s'.run P w = s.run P w) : Res P s' R m H w H' := by
  obtain ⟨m', z, w', h1, h2⟩ := h
  exact ⟨m', z, w', e.trans h1, h2⟩

/-- The builtins. -/
theorem builtin_val (r : Rel m H.get w) (hk : HOk H) {b : Builtin} {ats : Array TypeId} {ty : TypeId} {cs : Array Bool} {args : List AV} {us : Array Value} {v : AV} {H' : AH} (h : builtinA P b ats.toList args H = some (.val v H'))
    (hid : ∀ b, H.nx ≤ b → b < H'.nx → m b = none) (hl : LRel m args us.toList) : Res P (builtin b ats ty cs us) (Gives v) m H w H' := by
  have rest : builtinR P b ats.toList args H = some (.val v H') → Res P (builtin b ats ty cs us) (Gives v) m H w H' := by
    intro h
    have tt : ∀ i t, ats.toList[i]? = some t → ats[i]? = some t := fun i t h => by rw [← Array.getElem?_toList]; exact h
    unfold builtinR at h
    split at h
    · rename_i x
      split at h
      · rename_i t ts hts
        obtain ⟨ux, h0, hx⟩ := hl.get (i := 0) rfl
        rw [Array.getElem?_toList] at h0
        have ht := tt 0 t (by rw [hts]; rfl)
        unfold builtin1 at h
        split at h
        · have hq := vA_some h; clear h; obtain ⟨h, rfl⟩ := hq
          exact (Res.of_run r hk (len_run (P := P) (ty := ty) r h ht h0 hx)).value
        · have hq := hA_some h; clear h; obtain ⟨h, rfl⟩ := hq
          exact (clear_run (P := P) (ty := ty) r hk h ht h0 hx).value
        · cases h
      · cases h
    · rename_i x y
      split at h
      · rename_i t u ts hts
        obtain ⟨ux, h0, hx⟩ := hl.get (i := 0) rfl
        obtain ⟨uy, h1, hy⟩ := hl.get (i := 1) rfl
        rw [Array.getElem?_toList] at h0 h1
        have ht := tt 0 t (by rw [hts]; rfl)
        have hu := tt 1 u (by rw [hts]; rfl)
        unfold builtin2 at h
        split at h
        · exact (append_run (P := P) (ty := ty) r hk h hid ht hu h0 h1 hx hy).value
        · exact (copy_run (P := P) (ty := ty) r hk h ht h0 h1 hx hy).value
        · have hq := hA_some h; clear h; obtain ⟨h, rfl⟩ := hq
          exact (delete_run (P := P) (ty := ty) r hk h ht h0 h1 hx hy).value
        · cases h
      · cases h
    · cases h
  unfold builtinA at h
  split at h
  · unfold mm at h
    split at h
    · rename_i x l
      have hq := vA_some h; clear h; obtain ⟨h, rfl⟩ := hq
      cases hu : us.toList with
      | nil => rw [hu] at hl; cases hl
      | cons u us' =>
        rw [hu] at hl
        cases hl with
        | cons hx hl =>
          obtain ⟨z, hz, hr⟩ := max_run (P := P) h hl hx w
          refine (Res.of_run r hk ⟨z, ?_, hr⟩).value
          simp only [Builtin.max_, hu]
          exact hz
    · cases h
  · unfold mm at h
    split at h
    · rename_i x l
      have hq := vA_some h; clear h; obtain ⟨h, rfl⟩ := hq
      cases hu : us.toList with
      | nil => rw [hu] at hl; cases hl
      | cons u us' =>
        rw [hu] at hl
        cases hl with
        | cons hx hl =>
          obtain ⟨z, hz, hr⟩ := min_run (P := P) h hl hx w
          refine (Res.of_run r hk ⟨z, ?_, hr⟩).value
          simp only [Builtin.min_, hu]
          exact hz
    · cases h
  · exact rest h

/-- An operation that gives a value at once. -/
theorem opA_val (r : Rel m H.get w) (hk : HOk H) (hf : EvalRel m f a) {o : Oper} {v : AV} {H' : AH} (h : opA P f H o.op = some (.val v H')) (hid : ∀ b, H.nx ≤ b → b < H'.nx → m b = none) : Res P (execOp a.eval o) (Gives v) m H w H' := by
  unfold opA at h
  split at h
  · rename_i x ho
    have hq := vA_some h; clear h; obtain ⟨h, rfl⟩ := hq
    exact .pure (a := .value (a.eval x)) r hk (by simp [execOp, ho]) ⟨_, .inl rfl, aev_rel hf h⟩
  · rename_i x ho
    have hq := vA_some h; clear h; obtain ⟨h, rfl⟩ := hq
    exact .pure (a := .value (a.eval x)) r hk (by simp [execOp, ho]) ⟨_, .inl rfl, aev_rel hf h⟩
  · rename_i c x y ho
    unfold opPick at h
    split at h
    · rename_i cv hc
      have hcr := aev_rel hf hc
      generalize hu : a.eval c = u at hcr
      cases hcr
      split at h
      · have hq := vA_some h; clear h; obtain ⟨h, rfl⟩ := hq
        exact .pure (a := .value (a.eval x)) r hk (by simp [execOp, ho, hu, asBool]) ⟨_, .inl rfl, aev_rel hf h⟩
      · have hq := vA_some h; clear h; obtain ⟨h, rfl⟩ := hq
        exact .pure (a := .value (a.eval y)) r hk (by simp [execOp, ho, hu, asBool]) ⟨_, .inl rfl, aev_rel hf h⟩
    · cases h
  · rename_i t ho
    cases hz : zeroT P t with
    | none => rw [hz] at h; cases h
    | some z =>
      rw [hz] at h
      obtain ⟨u, hu, hur⟩ := zeroT_run (P := P) hz w
      have := (newVar_run (P := P) (elem := t) r hk h hid (hur m)).value
      refine this.congr ?_
      simp [execOp, ho, Instr.alloc, hu]
  · rename_i e x ho
    cases hx : aev f x with
    | none => rw [hx] at h; cases h
    | some z =>
      rw [hx] at h
      have := (newVar_run (P := P) (elem := e) r hk h hid (aev_rel hf hx)).value
      refine this.congr ?_
      simp [execOp, ho, Instr.box]
  · rename_i t parts ho
    unfold opBuild at h
    split at h
    · rename_i ps hps
      have hq := vA_some h; clear h; obtain ⟨h, rfl⟩ := hq
      have hp : PRel m ps (parts.map fun p => (p.1, a.eval p.2)).toList := by rw [Array.toList_map]; exact pairsA_rel hf hps
      exact (Res.of_run r hk (build_run (P := P) h hp w)).value.congr (by simp [execOp, ho])
    · cases h
  · rename_i t n parts ho
    unfold opBuildSlice at h
    split at h
    · rename_i ps hps
      have hp : PRel m ps (parts.map fun p => (p.1, a.eval p.2)).toList := by rw [Array.toList_map]; exact pairsA_rel hf hps
      exact (buildSlice_run (P := P) r hk h hid hp).value.congr (by simp [execOp, ho])
    · cases h
  · rename_i t x ho
    unfold opLoad at h
    split at h
    · rename_i b o' hx
      have hq := vA_some h; clear h; obtain ⟨h, rfl⟩ := hq
      have hxr := aev_rel hf hx
      generalize hu : a.eval x = u at hxr
      cases hxr with
      | ptr hb =>
        exact (Res.of_run r hk (loadVarA_run (P := P) r h hb)).value.congr (by simp [execOp, ho, Instr.loadAt, hu, Instr.sureAddr])
    · cases h
  · rename_i t x y ho
    unfold opStore at h
    split at h
    · rename_i b o' hx
      have hxr := aev_rel hf hx
      generalize hu : a.eval x = u at hxr
      cases hxr with
      | ptr hb =>
        split at h
        · rename_i v' hv
          unfold storeN at h
          split at h
          · rename_i n hn
            split at h
            · rename_i hl
              have hl := Nat.eq_of_beq_eq_true hl
              rw [len_eq] at hl
              have hq := hA_some h; clear h; obtain ⟨h, rfl⟩ := hq
              have hvc := (aev_rel hf hv).cells
              have hlen : (a.eval y).cells.size = n := by rw [← hl, hvc.length]; simp
              refine (storeA_run (P := P) r hk h hb hvc).unit.congr ?_
              simp [execOp, ho, Instr.storeAt, hu, Instr.sureAddr, storeVar, sizeT_run hn, hlen]
            · cases h
          · cases h
        · cases h
    · cases h
  · rename_i x ho
    unfold opNilCheck at h
    split at h
    · rename_i b o' hx
      injection h with h; injection h with h1 h2; subst h1; subst h2
      have hxr := aev_rel hf hx
      refine .pure (a := .value (a.eval x)) r hk ?_ ⟨_, .inl rfl, hxr⟩
      generalize hu : a.eval x = u at hxr
      cases hxr
      simp [execOp, ho, hu]
    · rename_i g a1 c hx
      injection h with h; injection h with h1 h2; subst h1; subst h2
      have hxr := aev_rel hf hx
      refine .pure (a := .value (a.eval x)) r hk ?_ ⟨_, .inl rfl, hxr⟩
      generalize hu : a.eval x = u at hxr
      cases hxr
      simp [execOp, ho, hu]
    · rename_i l hx
      injection h with h; injection h with h1 h2; subst h1; subst h2
      have hxr := aev_rel hf hx
      refine .pure (a := .value (a.eval x)) r hk ?_ ⟨_, .inl rfl, hxr⟩
      generalize hu : a.eval x = u at hxr
      cases hxr
      simp [execOp, ho, hu]
    · cases h
  · rename_i op t x y y' ho
    unfold opBin at h
    split at h
    · rename_i v1 v2 h1 h2
      have hq := vA_some h; clear h; obtain ⟨h, rfl⟩ := hq
      exact (Res.of_run r hk (binA_run (P := P) (xo := x) (yo := y) h (aev_rel hf h1) (aev_rel hf h2) w)).value.congr (by simp [execOp, ho])
    · cases h
  · rename_i op t x ho
    unfold opUn at h
    split at h
    · rename_i v1 h1
      have hq := vA_some h; clear h; obtain ⟨h, rfl⟩ := hq
      exact (Res.of_run r hk (unA_run (P := P) h (aev_rel hf h1) w)).value.congr (by simp [execOp, ho])
    · cases h
  · rename_i src dst x ho
    unfold opConv at h
    split at h
    · rename_i v1 h1
      exact (convA_run (P := P) r hk h hid (aev_rel hf h1)).value.congr (by simp [execOp, ho])
    · cases h
  · rename_i fn first captured ho
    unfold opFunc at h
    split at h
    · rename_i g
      split at h
      · rename_i a1 h1
        split at h
        · rename_i c1 h2
          injection h with h; injection h with h1' h2'; subst h1'; subst h2'
          refine .pure (a := .value (.func (.func g) (first.map a.eval) (captured.map a.eval))) r hk (by simp [execOp, ho, Instr.makeFunc]) ⟨_, .inl rfl, ?_⟩
          have e1 := aevs_rel hf h1
          have e2 := aevs_rel hf h2
          rw [← Array.toList_map] at e1 e2
          exact .func e1 e2
        · cases h
      · cases h
    · cases h
  · rename_i t ro ho
    exact (makeMap_run (P := P) r hk h hid (fun o h => optA_rel hf h)).value.congr (by simp [execOp, ho])
  · rename_i t l c ho
    unfold opMakeSlice at h
    split at h
    · rename_i v1 v2 h1 h2
      exact (makeSlice_run (P := P) r hk h hid (aev_rel hf h1) (aev_rel hf h2)).value.congr (by simp [execOp, ho])
    · cases h
  · rename_i t x lo hi mx ho
    unfold opSlice at h
    split at h
    · rename_i v1 h1
      unfold opSlice1 at h
      split at h
      · rename_i l hl
        unfold opSlice2 at h
        split at h
        · rename_i hh hhh
          unfold opSlice3 at h
          split at h
          · rename_i mm hmm
            have hq := vA_some h; clear h; obtain ⟨h, rfl⟩ := hq
            exact (Res.of_run r hk (sliceAt_run (P := P) r h (aev_rel hf h1) (optA_rel hf hl) (optA_rel hf hhh) (optA_rel hf hmm))).value.congr (by simp [execOp, ho])
          · cases h
        · cases h
      · cases h
    · cases h
  · rename_i t x i ho
    unfold opFieldAddr at h
    split at h
    · rename_i v1 h1
      have hq := vA_some h; clear h; obtain ⟨h, rfl⟩ := hq
      exact (Res.of_run r hk (fieldAt_run (P := P) h (aev_rel hf h1) w)).value.congr (by simp [execOp, ho])
    · cases h
  · rename_i t x i ho
    unfold opField at h
    split at h
    · rename_i v1 h1
      have hq := vA_some h; clear h; obtain ⟨h, rfl⟩ := hq
      exact (Res.of_run r hk (field_run (P := P) h (aev_rel hf h1) w)).value.congr (by simp [execOp, ho])
    · cases h
  · rename_i t x i ho
    unfold opIndexAddr at h
    split at h
    · rename_i v1 v2 h1 h2
      have hq := vA_some h; clear h; obtain ⟨h, rfl⟩ := hq
      exact (Res.of_run r hk (indexAt_run (P := P) h (aev_rel hf h1) (aev_rel hf h2) w)).value.congr (by simp [execOp, ho])
    · cases h
  · rename_i t x i ho
    unfold opIndex at h
    split at h
    · rename_i v1 v2 h1 h2
      have hq := vA_some h; clear h; obtain ⟨h, rfl⟩ := hq
      exact (Res.of_run r hk (index_run (P := P) h (aev_rel hf h1) (aev_rel hf h2) w)).value.congr (by simp [execOp, ho])
    · cases h
  · rename_i t x k ok ho
    unfold opLookup at h
    split at h
    · rename_i v1 v2 h1 h2
      have hq := vA_some h; clear h; obtain ⟨h, rfl⟩ := hq
      exact (Res.of_run r hk (lookup_run (P := P) r h (aev_rel hf h1) (aev_rel hf h2))).value.congr (by simp [execOp, ho])
    · cases h
  · rename_i t mp k x ho
    unfold opUpdate at h
    split at h
    · rename_i v1 v2 h1 h2
      split at h
      · rename_i v3 h3
        have hq := hA_some h; clear h; obtain ⟨h, rfl⟩ := hq
        exact (update_run (P := P) r hk h (aev_rel hf h1) (aev_rel hf h2) (aev_rel hf h3)).unit.congr (by simp [execOp, ho])
      · cases h
    · cases h
  · rename_i x i ho
    unfold opExtract at h
    split at h
    · rename_i vs hx
      have hq := vA_some h; clear h; obtain ⟨h, rfl⟩ := hq
      rw [nth_eq] at h
      have hxr := aev_rel hf hx
      generalize hu : a.eval x = u at hxr
      cases hxr with
      | tup hl =>
        obtain ⟨z, hz, hr⟩ := hl.get h
        rw [Array.getElem?_toList] at hz
        exact .pure (a := .value z) r hk (by simp [execOp, ho, hu, Instr.extract, hz]) ⟨_, .inl rfl, hr⟩
    · cases h
  · rename_i c ho
    unfold opCall at h
    split at h
    · rename_i args hargs
      unfold opCallee at h
      split at h
      · rename_i b hc
        have hl := aevs_rel hf hargs
        rw [← Array.toList_map] at hl
        have hrun : ∃ cs, (execOp a.eval o).run P w = (builtin b c.argTypes o.type cs (c.args.map a.eval)).run P w := by
          simp only [execOp, ho, resolve, hc, invoke, Sem.run_bind, Sem.run_pure, Result.andThen_ok]
          exact ⟨_, rfl⟩
        obtain ⟨cs, hrun⟩ := hrun
        exact (builtin_val (P := P) (ty := o.type) (cs := cs) r hk h hid hl).congr hrun
      · unfold invokeA at h
        split at h <;> cases h
      · cases h
    · cases h
  · rename_i c ho
    unfold opDefer at h
    split at h
    · split at h
      · unfold dfrA at h
        split at h <;> cases h
      · cases h
    · cases h
  · cases h
end
end Go.Ev
