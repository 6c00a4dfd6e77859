/- Regions in the text's order; code. -/
import Derived.Test.YtginbifeinpciaaGreatEvS17
import Derived.ControlIn
namespace Go.Ev
open Go

section
variable {P : Program} {R : Type}
theorem operS_of {o : Oper} {f f' : Fr} {H H' : AH} {v : AV} (hd : ∀ c, o.op ≠ .defer c) (hp : f.put o.dst v = some f') (h : OpS P o f H v H') : OperS P o f H f' H' := by
  refine ⟨h.1, fun N m w a r hN st fr K Q hK => ⟨fun _ _ => trivial, ?_⟩⟩
  rw [Oper.semAt_eq _ _ _ hd]
  obtain ⟨nx, w1, h1, h2⟩ := h.2 N m w a hN st fr.ev
  rw [h1]
  refine NextS.upon (h2.mono fun u w' hu => ?_)
  obtain ⟨m', s, st', hv⟩ := hu
  exact hK m' _ w' s st' ((fr.mono s.ext).put hp hv)
theorem operS_defer {o : Oper} {f f' : Fr} {H : AH} {c : Call} {g : FuncId} {captured args : List AV} (ho : o.op = .defer c) (har : opA P f H o.op = some (.dfr g captured args)) (hrd : f.rd = none)
    (hp : (⟨f.tm, .call g captured args :: f.df, f.nt, none, f.fn⟩ : Fr).put o.dst Ev.und = some f') : OperS P o f H f' H := by
  refine ⟨Nat.le_refl _, fun N m w a r hN st fr K Q hK => ⟨fun _ _ => trivial, ?_⟩⟩
  have hr : r = none := by have := fr.rd; rw [hrd] at this; exact this
  subst hr
  rw [ho] at har
  have har : opDefer f c.callee (aevs f c.args.toList) = some (.dfr g captured args) := har
  unfold opDefer at har
  split at har
  · rename_i as has
    split at har
    · rename_i gx hc
      unfold dfrA at har
      split at har
      · rename_i g' first' captured' hg
        injection har with har
        injection har with h1 h2 h3
        subst h1; subst h2; subst h3
        have hgr := aev_rel fr.ev hg
        have hl := aevs_rel fr.ev has
        generalize hu : a.eval gx = u at hgr
        cases hgr with
        | func h1 h2 =>
          rename_i first2 captured2
          have hrun : (Oper.semAt none a.eval o).run P w = .ok (.defer { target := .fn (.func g') captured2, args := first2 ++ c.args.map a.eval }) w := by
            rw [Oper.semAt_none]
            simp [execOp, ho, resolve, hc, Deferred.ofValue, hu]
          show o.uponIn (FW none) 0 P a K Q ((Oper.semAt none a.eval o).run P w)
          rw [hrun]
          refine hK m _ w (.refl _ _ _ _) st ?_
          have fr2 : FrRel m none (⟨f.tm, .call g' captured' (app first' as) :: f.df, f.nt, none, f.fn⟩ : Fr) { a with defers := { target := .fn (.func g') captured2, args := first2 ++ c.args.map a.eval } :: a.defers } := by
            refine ⟨fr.tm, .call h2 ?_ fr.df, rfl⟩
            rw [app_eq, Array.toList_append, Array.toList_map]
            exact h1.append hl
          exact fr2.put hp (.und m)
      · cases har
    · cases har
  · cases har
/-- A compiled operation. -/
theorem cOp_sound {ih : Ih R} (hi : IhOk P ih) {o : Oper} {f : Fr} {H : AH} {k : AV → Fr → AH → Option R} {res : R} (h : (cOp P o).run ih f H k = some res) :
    ∃ v f' H', k v f' H' = some res ∧ OperS P o f H f' H' := by
  have h := cOp_runs (P := P) o ih f H k res h
  by_cases hd : ∀ c, o.op ≠ .defer c
  · obtain ⟨ar, v, f', H', har, h1, h2, h3⟩ := arK_sound hi hd h
    exact ⟨v, f', H', h1, operS_of hd h2 (opS_of hd har h3)⟩
  · have hd' : ∃ c, o.op = .defer c := Classical.byContradiction fun hn => hd fun c hc => hn ⟨c, hc⟩
    obtain ⟨c, ho⟩ := hd'
    cases har : opA P f H o.op with
    | none => rw [har] at h; cases h
    | some ar =>
      have hk : ∃ g captured args, ar = .dfr g captured args := by
        rw [ho] at har
        have har : opDefer f c.callee (aevs f c.args.toList) = some ar := har
        unfold opDefer at har
        split at har
        · split at har
          · unfold dfrA at har
            split at har
            · injection har with har; exact ⟨_, _, _, har.symm⟩
            · cases har
          · cases har
        · cases har
      obtain ⟨g, captured, args, rfl⟩ := hk
      rw [har] at h
      have h : deferK f (.call g captured args) (fun f' => (cPut o.dst).put Ev.und f' fun f2 => k Ev.und f2 H) = some res := h
      obtain ⟨tm, df, nt, rd, fn⟩ := f
      unfold deferK at h
      dsimp only at h
      split at h
      · obtain ⟨f', h1, h2⟩ := cPut_put h
        exact ⟨Ev.und, f', H, h2, operS_defer ho har rfl h1⟩
      · cases h

/-! Guards -/
/-- An operation under its guard. -/
def GuardS (P : Program) (ops : Array Oper) (o : Oper) (f : Fr) (H : AH) (f' : Fr) (H' : AH) : Prop :=
  H.nx ≤ H'.nx ∧ ∀ N m w a r, H'.nx ≤ N → St N m H w → FrRel m r f a → ∀ K Q, (∀ m' a' w', Stp m H w m' H' w' → St N m' H' w' → FrRel m' r f' a' → K a' w') →
    if Region.wanted o (yielded ops a.tmps) then o.wpIn (FW r) 0 P a w K Q else (∀ f, o.about P w a.eval = some f → (FW r).fn f) ∧ K (a.put o.dst undef) w
theorem bEq_iff (a b : Bool) : bEq a b = true ↔ a = b := by cases a <;> cases b <;> simp [bEq]
theorem boolIs_iff {w : Bool} {v : AV} : boolIs w v = true ↔ v = .bool w := by
  unfold boolIs
  split
  · rw [bEq_iff]
    exact ⟨fun h => by rw [h], fun h => by injection h⟩
  · rename_i h
    exact ⟨fun h => (by cases h), fun h1 => absurd h1 (h _)⟩
theorem wanted_iff {m : BM} {r : Option Nat} {f : Fr} {a : Act} (fr : FrRel m r f a) {ops : Array Oper} {o : Oper} {j : Nat} {want : Bool} (hg : o.guard = some (j, want)) :
    Region.wanted o (yielded ops a.tmps) = true ↔ ∃ d, dstAt ops j = some d ∧ f.get d = .bool want := by
  unfold Region.wanted
  rw [hg]
  simp only [beq_iff_eq]
  unfold yielded dstAt
  cases hd : (ops[j]?).bind (·.dst) with
  | none => simp
  | some d =>
    simp only [Option.bind_some, Option.some.injEq]
    have hr := fr.ev d
    rw [Array.getD_eq_getD_getElem?] at hr
    cases ht : a.tmps[d]? with
    | none =>
      rw [ht] at hr
      simp only [Option.getD_none] at hr
      refine ⟨fun h => by simp at h, fun ⟨d', e, hb⟩ => ?_⟩
      subst e
      rw [hb] at hr
      cases hr
    | some u =>
      rw [ht] at hr
      simp only [Option.getD_some] at hr
      constructor
      · intro h
        cases u <;> simp at h
        subst h
        refine ⟨d, rfl, ?_⟩
        generalize f.get d = x at hr
        cases hr
        rfl
      · rintro ⟨d', e, hb⟩
        subst e
        rw [hb] at hr
        cases hr
        rfl
theorem cOper_sound {ih : Ih R} (hi : IhOk P ih) {ops : Array Oper} {o : Oper} {f : Fr} {H : AH} {k : AV → Fr → AH → Option R} {res : R} (h : (cOper P ops o).run ih f H k = some res) :
    ∃ v f' H', k v f' H' = some res ∧ GuardS P ops o f H f' H' := by
  unfold cOper cGuard at h
  split at h
  · rename_i hg
    obtain ⟨v, f', H', h1, h2⟩ := cOp_sound hi h
    refine ⟨v, f', H', h1, h2.1, fun N m w a r hN st fr K Q hK => ?_⟩
    rw [if_pos (by simp [Region.wanted, hg])]
    exact h2.2 N m w a r hN st fr K Q hK
  · rename_i j want hg
    split at h
    · rename_i run hrun
      split at h
      · rename_i s hs
        have skip : s ih f H k = some res → ∃ v f' H', k v f' H' = some res ∧ H' = H ∧ f.put o.dst Ev.und = some f' := by
          intro h
          unfold skipK at hs
          split at hs
          rename_i p hp
          injection hs with hs
          subst hs
          have h : p Ev.und f (fun f' => k Ev.und f' H) = some res := h
          have h : (cPut (R := R) o.dst).put Ev.und f (fun f' => k Ev.und f' H) = some res := by rw [hp]; exact h
          obtain ⟨f', h1, h2⟩ := cPut_put h
          exact ⟨_, f', H, h2, rfl, h1⟩
        have skipS : ∀ {f' : Fr}, (¬ ∃ d, dstAt ops j = some d ∧ f.get d = .bool want) → f.put o.dst Ev.und = some f' → GuardS P ops o f H f' H := by
          intro f' hn hp
          refine ⟨Nat.le_refl _, fun N m w a r hN st fr K Q hK => ?_⟩
          rw [if_neg (by rw [wanted_iff fr hg]; exact hn)]
          exact ⟨fun _ _ => trivial, hK m _ w (.refl _ _ _ _) st (fr.put hp (.und m))⟩
        unfold guardAt guardG at h
        cases hd : dstAt ops j with
        | none =>
          rw [hd] at h
          obtain ⟨v, f', H', h1, rfl, h2⟩ := skip h
          exact ⟨v, f', H', h1, skipS (by rw [hd]; rintro ⟨d, e, _⟩; cases e) h2⟩
        | some d =>
          rw [hd] at h
          cases hg' : cGet (.tmp d) with
          | none => simp only [hg'] at h; simp only [cGet] at hg'; cases hg'
          | some g =>
            obtain ⟨g⟩ := g
            simp only [hg'] at h
            have hgf : g f = f.get d := by
              have := cGet_aev hg' f
              simp only [aev] at this
              injection this with this
              exact this.symm
            split at h
            · rename_i hb
              rw [hgf] at hb
              have hb := boolIs_iff.1 hb
              have h : (cOp P o).run ih f H k = some res := by rw [hrun]; exact h
              obtain ⟨v, f', H', h1, h2⟩ := cOp_sound hi h
              refine ⟨v, f', H', h1, h2.1, fun N m w a r hN st fr K Q hK => ?_⟩
              rw [if_pos ((wanted_iff fr hg).2 ⟨d, hd, hb⟩)]
              exact h2.2 N m w a r hN st fr K Q hK
            · rename_i hb
              rw [hgf] at hb
              obtain ⟨v, f', H', h1, rfl, h2⟩ := skip h
              refine ⟨v, f', H', h1, skipS ?_ h2⟩
              rintro ⟨d', e, hb'⟩
              rw [hd] at e
              injection e with e
              subst e
              rw [boolIs_iff.2 hb'] at hb
              cases hb

/-! The text's order -/
theorem cSeq_sound {ih : Ih R} (hi : IhOk P ih) {ops : Array Oper} : ∀ (l : List Oper) {f : Fr} {H : AH} {k : AV → Fr → AH → Option R} {res : R}, (cSeq P ops l).run ih f H k = some res →
    ∃ v f' H', k v f' H' = some res ∧ H.nx ≤ H'.nx ∧ ∀ pre, ops.toList = pre ++ l → ∀ N m w a r, H'.nx ≤ N → St N m H w → FrRel m r f a → ∀ Q : Exit → Act → World → Prop, (∀ m' a' w', Stp m H w m' H' w' → St N m' H' w' → FrRel m' r f' a' → Q .normal a' w') →
      wpOpsIn (FW r) 0 P ops Q (List.range' pre.length l.length) a w
  | [], f, H, k, res, h => ⟨Ev.und, f, H, h, Nat.le_refl _, fun pre _ N m w a r hN st fr Q hQ => hQ m a w (.refl _ _ _ _) st fr⟩
  | o :: l, f, H, k, res, h => by
    have h : (match cOper P ops o with
      | ⟨r⟩ => match cSeq P ops l with
        | ⟨s⟩ => (⟨fun ih f H k => r ih f H fun _ f H => s ih f H k⟩ : OpK R)).run ih f H k = some res := h
    have h : (cOper P ops o).run ih f H (fun _ f H => (cSeq P ops l).run ih f H k) = some res := h
    obtain ⟨v1, f1, H1, h1, g1⟩ := cOper_sound hi h
    obtain ⟨v2, f2, H2, h2, n2, g2⟩ := cSeq_sound hi l h1
    refine ⟨v2, f2, H2, h2, Nat.le_trans g1.1 n2, fun pre hpre N m w a r hN st fr Q hQ => ?_⟩
    have ho : ops[pre.length]? = some o := by rw [← Array.getElem?_toList, hpre]; simp
    have g1 := g1.2 N m w a r (Nat.le_trans n2 hN) st fr (wpOpsIn (FW r) 0 P ops Q (List.range' (pre.length + 1) l.length)) Q (fun m1 a1 w1 s1 st1 fr1 => by
      have := g2 (pre ++ [o]) (by simp [hpre]) N m1 w1 a1 r hN st1 fr1 Q (fun m' a' w' s2 st2 fr2 => hQ m' a' w' (s1.trans s2) st2 fr2)
      simpa using this)
    simp only [List.length_cons, List.range'_succ, wpOpsIn, ho]
    exact g1

/-! Code -/
def exOf : Ex → Exit
  | .normal => .normal
  | .exit id => .exit id
  | .ret => .ret
def CodeS (P : Program) (c : Code) (f : Fr) (H : AH) (x : Ex) (f' : Fr) (H' : AH) : Prop :=
  H.nx ≤ H'.nx ∧ ∀ N m w a r, H'.nx ≤ N → St N m H w → FrRel m r f a → ∀ Q : Exit → Act → World → Prop, (∀ m' a' w', Stp m H w m' H' w' → St N m' H' w' → FrRel m' r f' a' → Q (exOf x) a' w') → c.wpIn (FW r) 0 P Q a w
/-- Compiled code stands for the code. -/
def CodeOk (P : Program) (c : Code) (K : CodeRun R) : Prop :=
  ∀ n ih, IhOk P ih → ∀ f H k e res, K n ih f H k e = some res →
    (∃ f' H', k f' H' = some res ∧ CodeS P c f H .normal f' H') ∨ ∃ x f' H', x ≠ .normal ∧ e x f' H' = some res ∧ CodeS P c f H x f' H'
theorem codeOk_none {c : Code} : CodeOk P c (noneC (R := R)).run := fun _ _ _ _ _ _ _ _ h => by cases h
theorem codeOk_seq {x y : Code} {a b : CodeK R} (ha : CodeOk P x a.run) (hb : CodeOk P y b.run) : CodeOk P (.seq x y) (seqC a b).run := by
  intro n ih hi f H k e res h
  have h : a.run n ih f H (fun f H => b.run n ih f H k e) e = some res := h
  rcases ha n ih hi f H _ e res h with ⟨f1, H1, h1, g1⟩ | ⟨x1, f1, H1, hx, h1, g1⟩
  · rcases hb n ih hi f1 H1 k e res h1 with ⟨f2, H2, h2, g2⟩ | ⟨x2, f2, H2, hx, h2, g2⟩
    · exact .inl ⟨f2, H2, h2, Nat.le_trans g1.1 g2.1, fun N m w a r hN st fr Q hQ => wpIn_seq (g1.2 N m w a r (Nat.le_trans g2.1 hN) st fr _ fun m1 a1 w1 s1 st1 fr1 => g2.2 N m1 w1 a1 r hN st1 fr1 Q fun m2 a2 w2 s2 st2 fr2 => hQ m2 a2 w2 (s1.trans s2) st2 fr2)⟩
    · exact .inr ⟨x2, f2, H2, hx, h2, Nat.le_trans g1.1 g2.1, fun N m w a r hN st fr Q hQ => wpIn_seq (g1.2 N m w a r (Nat.le_trans g2.1 hN) st fr _ fun m1 a1 w1 s1 st1 fr1 => g2.2 N m1 w1 a1 r hN st1 fr1 Q fun m2 a2 w2 s2 st2 fr2 => hQ m2 a2 w2 (s1.trans s2) st2 fr2)⟩
  · refine .inr ⟨x1, f1, H1, hx, h1, g1.1, fun N m w a r hN st fr Q hQ => wpIn_seq (g1.2 N m w a r hN st fr _ fun m1 a1 w1 s1 st1 fr1 => ?_)⟩
    have := hQ m1 a1 w1 s1 st1 fr1
    cases x1 with
    | normal => exact absurd rfl hx
    | exit id => exact this
    | ret => exact this
theorem codeOk_block {id : Nat} {x : Code} {a : CodeK R} (ha : CodeOk P x a.run) : CodeOk P (.block id x) (blockC id a).run := by
  intro n ih hi f H k e res h
  have h : a.run n ih f H k (blockX id k e) = some res := h
  rcases ha n ih hi f H _ _ res h with ⟨f1, H1, h1, g1⟩ | ⟨x1, f1, H1, hx, h1, g1⟩
  · exact .inl ⟨f1, H1, h1, g1.1, fun N m w a r hN st fr Q hQ => wpIn_block (g1.2 N m w a r hN st fr _ fun m1 a1 w1 s1 st1 fr1 => hQ m1 a1 w1 s1 st1 fr1)⟩
  · unfold blockX at h1
    split at h1
    · rename_i id'
      split at h1
      · rename_i he
        have he := Nat.eq_of_beq_eq_true he
        subst he
        refine .inl ⟨f1, H1, h1, g1.1, fun N m w a r hN st fr Q hQ => wpIn_block (g1.2 N m w a r hN st fr _ fun m1 a1 w1 s1 st1 fr1 => ?_)⟩
        show Exit.inBlock id' Q (.exit id') a1 w1
        simp only [Exit.inBlock, if_true]
        exact hQ m1 a1 w1 s1 st1 fr1
      · rename_i he
        refine .inr ⟨.exit id', f1, H1, hx, h1, g1.1, fun N m w a r hN st fr Q hQ => wpIn_block (g1.2 N m w a r hN st fr _ fun m1 a1 w1 s1 st1 fr1 => ?_)⟩
        show Exit.inBlock id Q (.exit id') a1 w1
        have hne : ¬ id' = id := fun e => by rw [e] at he; rw [show Nat.beq id id = true from Nat.beq_refl id] at he; cases he
        simp only [Exit.inBlock, if_neg hne]
        exact hQ m1 a1 w1 s1 st1 fr1
    · rename_i hne
      refine .inr ⟨x1, f1, H1, hx, h1, g1.1, fun N m w a r hN st fr Q hQ => wpIn_block (g1.2 N m w a r hN st fr _ fun m1 a1 w1 s1 st1 fr1 => ?_)⟩
      have := hQ m1 a1 w1 s1 st1 fr1
      cases x1 with
      | normal => exact this
      | exit id' => exact absurd rfl (hne id')
      | ret => exact this
theorem codeOk_cond {c : Operand} {x y : Code} {a b : CodeK R} (ha : CodeOk P x a.run) (hb : CodeOk P y b.run) : CodeOk P (.cond c x y) (condC a b (cGet c)).run := by
  intro n ih hi f H k e res h
  unfold condC at h
  split at h
  · rename_i g hg
    have h : condR a.run b.run n ih f H k e (g f) = some res := h
    unfold condR at h
    split at h
    · rename_i t ht
      have hev : ∀ {m : BM} {r : Option Nat} {a : Act}, FrRel m r f a → a.eval c = .bool t := by
        intro m r a fr
        have := aev_rel fr.ev (cGet_aev hg f)
        rw [ht] at this
        generalize a.eval c = u at this
        cases this
        rfl
      split at h
      · rcases ha n ih hi f H k e res h with ⟨f1, H1, h1, g1⟩ | ⟨x1, f1, H1, hx, h1, g1⟩
        · exact .inl ⟨f1, H1, h1, g1.1, fun N m w a r hN st fr Q hQ => wpIn_cond_true (hev fr) (g1.2 N m w a r hN st fr Q hQ)⟩
        · exact .inr ⟨x1, f1, H1, hx, h1, g1.1, fun N m w a r hN st fr Q hQ => wpIn_cond_true (hev fr) (g1.2 N m w a r hN st fr Q hQ)⟩
      · rcases hb n ih hi f H k e res h with ⟨f1, H1, h1, g1⟩ | ⟨x1, f1, H1, hx, h1, g1⟩
        · exact .inl ⟨f1, H1, h1, g1.1, fun N m w a r hN st fr Q hQ => wpIn_cond_false (hev fr) (g1.2 N m w a r hN st fr Q hQ)⟩
        · exact .inr ⟨x1, f1, H1, hx, h1, g1.1, fun N m w a r hN st fr Q hQ => wpIn_cond_false (hev fr) (g1.2 N m w a r hN st fr Q hQ)⟩
    · cases h
  · cases h
/-- A loop, so many rounds of it. -/
def LoopN (F : Fence) (P : Program) (c : Code) (Q : Exit → Act → World → Prop) : Nat → Act → World → Prop
  | 0, _, _ => False
  | j + 1, a, w => c.wpIn F 0 P (Exit.then (LoopN F P c Q j) Q) a w
theorem least {p : Nat → Prop} (h : ∃ j, p j) : ∃ j, p j ∧ ∀ i, p i → j ≤ i := by
  obtain ⟨j, hj⟩ := h
  induction j using Nat.strongRecOn with
  | _ j ih =>
    by_cases h : ∃ i, i < j ∧ p i
    · obtain ⟨i, hi, hp⟩ := h
      exact ih i hi hp
    · exact ⟨j, hj, fun i hi => Nat.le_of_not_lt fun hlt => h ⟨i, hlt, hi⟩⟩
theorem wpIn_loopN {F : Fence} {c : Code} {Q : Exit → Act → World → Prop} {j : Nat} {a : Act} {w : World} (h : LoopN F P c Q j a w) : (Code.loop c).wpIn F 0 P Q a w := by
  classical
  refine wpIn_loop (fun a w => ∃ j, LoopN F P c Q j a w) (fun a w => if h : ∃ j, LoopN F P c Q j a w then (least h).choose else 0) ⟨j, h⟩ ?_
  intro a w hI
  have hsp := (least hI).choose_spec
  have hmu : (if h : ∃ j, LoopN F P c Q j a w then (least h).choose else 0) = (least hI).choose := dif_pos hI
  cases hj : (least hI).choose with
  | zero => rw [hj] at hsp; exact absurd hsp.1 id
  | succ j' =>
    rw [hj] at hsp
    have h1 : c.wpIn F 0 P (Exit.then (LoopN F P c Q j') Q) a w := hsp.1
    refine wpIn_mono h1 fun e a' w' hq => ?_
    cases e <;> first | exact hq | skip
    refine ⟨⟨j', hq⟩, ?_⟩
    rw [hmu, hj]
    have hI' : ∃ j, LoopN F P c Q j a' w' := ⟨j', hq⟩
    rw [dif_pos hI']
    have := (least hI').choose_spec.2 j' hq
    omega
theorem codeOk_loop {x : Code} {a : CodeK R} (ha : CodeOk P x a.run) : CodeOk P (.loop x) (loopC a).run := by
  intro n ih hi f H k e res h
  have h : again a.run ih e n n f H = some res := h
  have key : ∀ j (f : Fr) (H : AH), again a.run ih e n j f H = some res → ∃ x1 f' H', x1 ≠ .normal ∧ e x1 f' H' = some res ∧ H.nx ≤ H'.nx ∧ ∃ i, ∀ N m w a r, H'.nx ≤ N → St N m H w → FrRel m r f a → ∀ Q : Exit → Act → World → Prop,
      (∀ m' a' w', Stp m H w m' H' w' → St N m' H' w' → FrRel m' r f' a' → Q (exOf x1) a' w') → LoopN (FW r) P x Q i a w := by
    intro j
    induction j with
    | zero => intro f H h; cases h
    | succ j ihj =>
      intro f H h
      have h : a.run n ih f H (again a.run ih e n j) e = some res := h
      rcases ha n ih hi f H _ e res h with ⟨f1, H1, h1, g1⟩ | ⟨x1, f1, H1, hx, h1, g1⟩
      · obtain ⟨x2, f2, H2, hx2, h2, n2, i, g2⟩ := ihj f1 H1 h1
        exact ⟨x2, f2, H2, hx2, h2, Nat.le_trans g1.1 n2, i + 1, fun N m w a r hN st fr Q hQ => g1.2 N m w a r (Nat.le_trans n2 hN) st fr _ fun m1 a1 w1 s1 st1 fr1 => g2 N m1 w1 a1 r hN st1 fr1 Q fun m2 a2 w2 s2 st2 fr2 => hQ m2 a2 w2 (s1.trans s2) st2 fr2⟩
      · refine ⟨x1, f1, H1, hx, h1, g1.1, 1, fun N m w a r hN st fr Q hQ => g1.2 N m w a r hN st fr _ fun m1 a1 w1 s1 st1 fr1 => ?_⟩
        have := hQ m1 a1 w1 s1 st1 fr1
        cases x1 with
        | normal => exact absurd rfl hx
        | exit id => exact this
        | ret => exact this
  obtain ⟨x1, f', H', hx, h1, hn, i, g⟩ := key n f H h
  exact .inr ⟨x1, f', H', hx, h1, hn, fun N m w a r hN st fr Q hQ => wpIn_loopN (g N m w a r hN st fr Q hQ)⟩
end
end Go.Ev
