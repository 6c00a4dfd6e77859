/- All code; the machine. -/
import Derived.Test.YtginbifeinpciaaGreatEvS27
namespace Go.Ev
open Go

section
variable {P : Program} {F : Fence} {n : Nat} {Q : Exit → Act → World → Prop} {a : Act} {w : World}
theorem stepR_scope {b : Frame} {k : List Item} {cs : List Frame} {c : Code} : step P (lone (b.atR a (.code (.scope c) :: k)) cs w) = .next (lone (b.atR a (.code c :: .inScope c :: k)) cs w) :=
  step_lone_go (by simp [stepG, stepG.exec, Frame.atR])
theorem stepR_inScope {b : Frame} {k : List Item} {cs : List Frame} {c : Code} : step P (lone (b.atR a (.inScope c :: k)) cs w) = .next (lone (b.atR a k) cs w) :=
  step_lone_go (by simp [stepG, stepG.exec, Frame.atR])
def noGo (Q : Exit → Act → World → Prop) : Exit → Act → World → Prop
  | .goto _, _, _ => False
  | e, a, w => Q e a w
theorem wpIn_scope {c : Code} (h : c.wpIn F n P (noGo Q) a w) : (Code.scope c).wpIn F n P Q a w := by
  intro b k cs hro hb hr
  have h0 : (lone (b.atR a (.code (.scope c) :: k)) cs w).fenced P F := fenced_calm hb hr rfl
  obtain ⟨e, a₁, w₁, hq, harr⟩ := h b (.inScope c :: k) cs hro hb hr
  cases e with
  | normal => exact ⟨.normal, a₁, w₁, hq, .head h0 stepR_scope (StepsIn.trans harr (.one (fenced_calm hb hr rfl) stepR_inScope))⟩
  | exit id =>
    have hx : exitTo id (.inScope c :: k) = exitTo id k := by simp [exitTo]
    exact ⟨.exit id, a₁, w₁, hq, fun k' hk => .head h0 stepR_scope (harr.1 k' (by rw [hx]; exact hk)),
      fun hr' hk => let ⟨k₁, h1, h2⟩ := harr.2 hr' (by rw [hx]; exact hk); ⟨k₁, h1, .head h0 stepR_scope h2⟩⟩
  | goto l => exact hq.elim
  | ret => exact ⟨_, a₁, w₁, hq, .of_steps (.one h0 stepR_scope) harr⟩
  | panic ch => exact ⟨_, a₁, w₁, hq, .of_steps (.one h0 stepR_scope) harr⟩
  | outgrown => exact ⟨_, a₁, w₁, hq, .of_steps (.one h0 stepR_scope) harr⟩
end
section
variable {P : Program} {R : Type}
theorem codeOk_scope {x : Code} {K : CodeRun R} (ha : CodeOk P x K) : CodeOk P (.scope x) K := by
  intro n ih hi f H k e res h
  rcases ha n ih hi f H k e res h with ⟨f1, H1, h1, g1⟩ | ⟨x1, f1, H1, hx, h1, g1⟩
  · exact .inl ⟨f1, H1, h1, g1.1, fun N m w a r hN st fr Q hQ => wpIn_scope (g1.2 N m w a r hN st fr _ fun m1 a1 w1 s1 st1 fr1 => hQ m1 a1 w1 s1 st1 fr1)⟩
  · refine .inr ⟨x1, f1, H1, hx, h1, g1.1, fun N m w a r hN st fr Q hQ => wpIn_scope (g1.2 N m w a r hN st fr _ fun m1 a1 w1 s1 st1 fr1 => ?_)⟩
    have := hQ m1 a1 w1 s1 st1 fr1
    cases x1 with
    | normal => exact this
    | exit id => exact this
    | ret => exact this
theorem drawn_sound (hm : P.follows .mixedOrders = true) {id : Nat} {ops : Array Oper} (hreg : regOk P ops = true) : CodeOk P (.region id ops true) (recC (R := R) (cRec P ops (Region.before ops) 0 ops.toList)).run := by
  intro n ih hi f H k e res h
  have RO := regOk_spec hreg
  have h : (cRec P ops (Region.before ops) 0 ops.toList).run ih f H [] [] k = some res := h
  obtain ⟨tr, f', H', h1, t, _, hrec⟩ := cRec_sound hi ops.toList (fun o ho c => by
    obtain ⟨j, hj⟩ := List.getElem?_of_mem ho
    rw [Array.getElem?_toList] at hj
    exact RO.nodefer hj c) h
  have hrec : RecsOk P (Region.before ops) 0 tr (eps P (Region.before ops) 0 tr H') := by simpa using hrec
  obtain ⟨xs, hx⟩ := t.xs
  refine .inl ⟨f', H', h1, t.mono, fun N m w a r hN st fr Q hQ => wpIn_region_any hm ?_⟩
  have hnl : ∀ j, ¬ Lst (Array.replicate ops.size false) j := by
    intro j hj
    have hj : (Array.replicate ops.size false)[j]? = some true := hj
    rw [Array.getElem?_replicate] at hj
    split at hj <;> cases hj
  have hat0 : ∀ b x, hat xs H b = some x → m b ≠ none → H.get b = some x := by
    intro b x h2 h3
    unfold hat at h2
    split at h2
    · exact h2
    · obtain ⟨h4, h5, _⟩ := hx.only b x h2
      exact absurd (st.free b h4 (by omega)) h3
  have hw : ∀ {m' : BM} {H2 : AH} {w' : World}, Stp m H { w with drawn := w.drawn + 1 } m' H2 w' → Stp m H w m' H2 w' := fun s => (Step.of_heap (w := w) (w' := { w with drawn := w.drawn + 1 }) rfl rfl rfl rfl).trans s
  refine any_sound (m0 := m) (w0 := { w with drawn := w.drawn + 1 }) (r := r) RO t (Nat.le_trans (Nat.le_refl _) fr.tm.2.1) hx hrec hN (fun m' a' w' s st' fr' => hQ m' a' w' (hw s) st' fr') ops.size _ a _ (by simp) ⟨List.range ops.size, by simp, fun j hj _ => List.mem_range.2 hj⟩ ⟨0, H, f, m, f, ?_⟩
  refine ⟨fun i k hS => absurd hS (hnl i), Nat.zero_le _, by simpa using t, st.ok, fun j e he hc => ⟨fun h => absurd h (hnl j), fun h => by omega⟩, fr, rfl, rfl, rfl, fun j e s he hS => absurd hS (hnl j), fun _ _ => rfl, (Rel.of_heap (w' := { w with drawn := w.drawn + 1 }) st.rel rfl).sub hat0, ?_, fun b hb => ?_, fun j e he _ hn => ?_⟩
  · exact { Step.refl m H.get H.nx { w with drawn := w.drawn + 1 } with
      ids := fun b h1 h2 => absurd h1 h2
      mono := t.mono
      grow := fun B i ho => by
        obtain ⟨b, x, cb, g1, g2, g3⟩ := ho
        exact .inl ⟨b, x, cb, hat0 b x g1 (by rw [g2]; exact Option.some_ne_none cb), g2, g3⟩ }
  · rcases Nat.lt_or_ge b H.nx with h | h
    · exact .inl h
    · rcases Nat.lt_or_ge b N with h' | h'
      · exact absurd (st.free b h h') hb
      · exact .inr (.inr h')
  · obtain ⟨_, g1, G1, hent, _, gd⟩ := t.at he
    obtain ⟨x, _, _, rfl⟩ := hent.new hn.1 hn.2
    have h2 := (t.range e (List.mem_of_getElem? he)).1
    have h3 : e.H.nx + 1 ≤ H'.nx := gd.mono
    exact st.free _ h2 (by omega)
theorem region_sound {id : Nat} {ops : Array Oper} : CodeOk P (.region id ops false) (regC (R := R) (cSeq P ops ops.toList)).run := by
  intro n ih hi f H k e res h
  have h : (cSeq P ops ops.toList).run ih f H (fun _ f H => k f H) = some res := h
  obtain ⟨v, f', H', h1, h2, h3⟩ := cSeq_sound hi ops.toList h
  refine .inl ⟨f', H', h1, h2, fun N m w a r hN st fr Q hQ => wpIn_region ?_⟩
  have := h3 [] (by simp) N m w a r hN st fr Q hQ
  simpa [List.range_eq_range'] using this
/-- All code. -/
theorem cCode_sound (hp : Plain P) (hm : P.follows .mixedOrders = true) : ∀ c : Code, CodeOk P c (cCode (R := R) P c).run
  | .skip => fun n ih hi f H k e res h => .inl ⟨f, H, h, Nat.le_refl _, fun N m w a r hN st fr Q hQ => wpIn_skip (hQ m a w .refl st fr)⟩
  | .label l => fun n ih hi f H k e res h => .inl ⟨f, H, h, Nat.le_refl _, fun N m w a r hN st fr Q hQ => wpIn_label (hQ m a w .refl st fr)⟩
  | .region id ops draw => by
    cases draw with
    | false => exact region_sound
    | true =>
      show CodeOk P (.region id ops true) (cRegion P ops true).run
      unfold cRegion
      cases hreg : regOk P ops with
      | true => exact drawn_sound hm hreg
      | false => exact codeOk_none
  | .seq a b => codeOk_seq (cCode_sound hp hm a) (cCode_sound hp hm b)
  | .cond x a b => codeOk_cond (cCode_sound hp hm a) (cCode_sound hp hm b)
  | .block id c => codeOk_block (cCode_sound hp hm c)
  | .loop c => codeOk_loop (cCode_sound hp hm c)
  | .exit id => fun n ih hi f H k e res h => .inr ⟨.exit id, f, H, (by intro h; cases h), h, Nat.le_refl _, fun N m w a r hN st fr Q hQ => wpIn_exit (hQ m a w .refl st fr)⟩
  | .ret => fun n ih hi f H k e res h => .inr ⟨.ret, f, H, (by intro h; cases h), h, Nat.le_refl _, fun N m w a r hN st fr Q hQ => wpIn_ret (hQ m a w .refl st fr)⟩
  | .rangeFunc g ps assign body => rangeC_sound hp
  | .scope c => codeOk_scope (cCode_sound hp hm c)
  | .goto l => codeOk_none
  | .refuse s => codeOk_none
end
end Go.Ev
