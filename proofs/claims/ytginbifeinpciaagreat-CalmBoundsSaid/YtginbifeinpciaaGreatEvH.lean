/- An abstract machine for the model's code, and its soundness: part H. -/
import Derived.Test.YtginbifeinpciaaGreatEvG
/- Regions with guards and calls, told by what they come to; a pure call forgotten. -/
namespace Go.Ev
open Go Go.RowKit Go.ChangeMaps

section
variable {P : Program}
/-- A drawn region, by a run in the text's order. -/
theorem drawn_tr (hm : P.follows .mixedOrders = true) {id : Nat} {ops : Array Oper} (hreg : regOk P ops = true) {f f' : Fr} {H H' : AH} {tr : List Ent} (t : Tr P ops ops.toList f H tr f' H')
    (hrec : RecsOk P (Region.before ops) 0 tr (eps P (Region.before ops) 0 tr H')) : CodeS P (.region id ops true) f H .normal f' H' := by
  have RO := regOk_spec hreg
  obtain ⟨xs, hx⟩ := t.xs
  refine ⟨t.mono, fun N m w a r hN st fr Q hQ => wpIn_region_any hm ?_⟩
  have hnl : ∀ j, ¬ Lst (Array.replicate ops.size false) j := by
    intro j hj
    have hj : (Array.replicate ops.size false)[j]? = some true := hj
    rw [Array.getElem?_replicate] at hj
    split at hj <;> cases hj
  have hat0 : ∀ b x, hat xs H b = some x → m b ≠ none → H.get b = some x := by
    intro b x h2 h3
    unfold hat at h2
    split at h2
    · exact h2
    · obtain ⟨h4, h5, _⟩ := hx.only b x h2
      exact absurd (st.free b h4 (by omega)) h3
  have hw : ∀ {m' : BM} {H2 : AH} {w' : World}, Stp m H { w with drawn := w.drawn + 1 } m' H2 w' → Stp m H w m' H2 w' := fun s => (Step.of_heap (w := w) (w' := { w with drawn := w.drawn + 1 }) rfl rfl rfl rfl).trans s
  refine any_sound (m0 := m) (w0 := { w with drawn := w.drawn + 1 }) (r := r) RO t (Nat.le_trans (Nat.le_refl _) fr.tm.2.1) hx hrec hN (fun m' a' w' s st' fr' => hQ m' a' w' (hw s) st' fr') ops.size _ a _ (by simp) ⟨List.range ops.size, by simp, fun j hj _ => List.mem_range.2 hj⟩ ⟨0, H, f, m, f, ?_⟩
  refine ⟨fun i k hS => absurd hS (hnl i), Nat.zero_le _, by simpa using t, st.ok, fun j e he hc => ⟨fun h => absurd h (hnl j), fun h => by omega⟩, fr, rfl, rfl, rfl, fun j e s he hS => absurd hS (hnl j), fun _ _ => rfl, (Rel.of_heap (w' := { w with drawn := w.drawn + 1 }) st.rel rfl).sub hat0, ?_, fun b hb => ?_, fun j e he _ hn => ?_⟩
  · exact { Step.refl m H.get H.nx { w with drawn := w.drawn + 1 } with
      ids := fun b h1 h2 => absurd h1 h2
      mono := t.mono
      grow := fun B i ho => by
        obtain ⟨b, x, cb, g1, g2, g3⟩ := ho
        exact .inl ⟨b, x, cb, hat0 b x g1 (by rw [g2]; exact Option.some_ne_none cb), g2, g3⟩ }
  · rcases Nat.lt_or_ge b H.nx with h | h
    · exact .inl h
    · rcases Nat.lt_or_ge b N with h' | h'
      · exact absurd (st.free b h h') hb
      · exact .inr (.inr h')
  · obtain ⟨_, g1, G1, hent, _, gd⟩ := t.at he
    obtain ⟨x, _, _, rfl⟩ := hent.new hn.1 hn.2
    have h2 := (t.range e (List.mem_of_getElem? he)).1
    have h3 : e.H.nx + 1 ≤ H'.nx := gd.mono
    exact st.free _ h2 (by omega)
/-- A region in the text's order, by a run. -/
theorem ent_guard {ops : Array Oper} {e : Ent} {f1 : Fr} {H1 : AH} (hd : ∀ c, e.o.op ≠ .defer c) (h : EntOk P ops e f1 H1) : GuardS P ops e.o e.f e.H f1 H1 := by
  refine ⟨h.mono, fun N m w a r hN st fr K Q hK => ?_⟩
  cases hr : e.ran with
  | true =>
    obtain ⟨ar, har, has⟩ := h.run hr
    have hw : Region.wanted e.o (yielded ops a.tmps) = true := by
      cases hg : e.o.guard with
      | none => simp [Region.wanted, hg]
      | some jw =>
        obtain ⟨j, want⟩ := jw
        exact (wanted_iff fr hg).2 (h.guard hr j want hg)
    rw [if_pos hw]
    exact (operS_of hd h.put (opS_of hd har has)).2 N m w a r hN st fr K Q hK
  | false =>
    obtain ⟨⟨j, want, hg, hn⟩, hv, rfl⟩ := h.skip hr
    have hp := h.put
    rw [hv] at hp
    rw [if_neg (by rw [wanted_iff fr hg]; exact hn)]
    exact ⟨fun _ _ => trivial, hK m _ w .refl st (fr.put hp (.und m))⟩
theorem tr_ops {ops : Array Oper} {l : List Oper} {f f' : Fr} {H H' : AH} {tr : List Ent} (t : Tr P ops l f H tr f' H') (hnd : ∀ o ∈ l, ∀ c, o.op ≠ .defer c) : H.nx ≤ H'.nx ∧ ∀ pre, ops.toList = pre ++ l → ∀ N m w a r, H'.nx ≤ N → St N m H w → FrRel m r f a →
    ∀ Q : Exit → Act → World → Prop, (∀ m' a' w', Stp m H w m' H' w' → St N m' H' w' → FrRel m' r f' a' → Q .normal a' w') → wpOpsIn (FW r) 0 P ops Q (List.range' pre.length l.length) a w := by
  induction t with
  | nil f H => exact ⟨Nat.le_refl _, fun pre _ N m w a r hN st fr Q hQ => hQ m a w .refl st fr⟩
  | @cons e l tr f1 f' H1 H' h t ih =>
    obtain ⟨n2, g2⟩ := ih fun o ho => hnd o (List.mem_cons_of_mem _ ho)
    have g1 := ent_guard (hnd e.o List.mem_cons_self) h
    refine ⟨Nat.le_trans g1.1 n2, fun pre hpre N m w a r hN st fr Q hQ => ?_⟩
    have ho : ops[pre.length]? = some e.o := by rw [← Array.getElem?_toList, hpre]; simp
    have g1 := g1.2 N m w a r (Nat.le_trans n2 hN) st fr (wpOpsIn (FW r) 0 P ops Q (List.range' (pre.length + 1) l.length)) Q (fun m1 a1 w1 s1 st1 fr1 => by
      have := g2 (pre ++ [e.o]) (by simp [hpre]) N m1 w1 a1 r hN st1 fr1 Q (fun m' a' w' s2 st2 fr2 => hQ m' a' w' (s1.trans s2) st2 fr2)
      simpa using this)
    simp only [List.length_cons, List.range'_succ, wpOpsIn, ho]
    exact g1
theorem plain_tr {id : Nat} {ops : Array Oper} {f f' : Fr} {H H' : AH} {tr : List Ent} (t : Tr P ops ops.toList f H tr f' H') (hnd : ∀ o ∈ ops.toList, ∀ c, o.op ≠ .defer c) : CodeS P (.region id ops false) f H .normal f' H' := by
  obtain ⟨n1, g1⟩ := tr_ops t hnd
  refine ⟨n1, fun N m w a r hN st fr Q hQ => wpIn_region ?_⟩
  have := g1 [] (by simp) N m w a r hN st fr Q hQ
  simpa [List.range_eq_range'] using this
end
end Go.Ev
