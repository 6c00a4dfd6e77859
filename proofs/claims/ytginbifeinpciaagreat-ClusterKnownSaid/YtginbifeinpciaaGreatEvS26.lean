/- Regions that draw their order: one operation more. -/
import Derived.Test.YtginbifeinpciaaGreatEvS25
namespace Go.Ev
open Go

theorem Step.join {m m' m2 : BM} {h h' h2 : HF} {nx NX : Nat} {w w' w2 : World} (s : Step m h nx w m' h' NX w') (t : Step m' h' nx w' m2 h2 NX w2) : Step m h nx w m2 h2 NX w2 where
  ext := s.ext.trans t.ext
  ids b h1 h2 := by
    cases hb : m' b with
    | none => exact t.ids b hb h2
    | some cb => exact s.ids b h1 (by rw [hb]; exact Option.some_ne_none cb)
  mono := s.mono
  size := Nat.le_trans s.size t.size
  tape := t.tape.trans s.tape
  os := t.os.trans s.os
  output := t.output.trans s.output
  cells B c e f h1 := by
    obtain ⟨c1, e1, z1, k1⟩ := s.cells B c e f h1
    obtain ⟨c2, e2, z2, k2⟩ := t.cells B c1 e f e1
    refine ⟨c2, e2, z2.trans z1, fun i hi => (k2 i ?_).trans (k1 i hi)⟩
    intro ho
    rcases s.grow B i ho with h3 | h3
    · exact hi h3
    · have := lt_of_get h1; omega
  objs B o h1 h2 h3 := by
    refine t.objs B o (s.objs B o h1 h2 h3) h2 ?_
    intro ho
    rcases s.grow B 0 ho with h4 | h4
    · exact h3 h4
    · have := lt_of_get h1; omega
  grow B i ho := by
    rcases t.grow B i ho with h1 | h1
    · exact s.grow B i h1
    · exact .inr (Nat.le_trans s.size h1)
theorem looks_guard {ops : Array Oper} {o : Oper} {j : Nat} {want : Bool} {d : Tmp} (hg : o.guard = some (j, want)) (hd : dstAt ops j = some d) : d ∈ looks ops o := by
  unfold looks
  refine List.mem_append_right _ ?_
  rw [hg]
  simp [hd]
section
variable {P : Program} {ops : Array Oper}
/-- Where a run in whatever order stands: S has been carried out. -/
structure InvD (P : Program) (ops : Array Oper) (tr : List Ent) (f f' : Fr) (H H' : AH) (xs : HF) (N : Nat) (m0 : BM) (w0 : World) (r : Option Nat) (S : Nat → Prop) (a : Act) (w : World) (p : Nat) (Hp : AH) (fp : Fr) (m : BM) (F : Fr) : Prop where
  closed : ∀ i k, S i → ((Region.before ops).getD i 0).testBit k = true → S k
  ple : p ≤ tr.length
  tail : Tr P ops (ops.toList.drop p) fp Hp (tr.drop p) f' H'
  hok : HOk Hp
  chS : ∀ j e, tr[j]? = some e → isCh P e = true → (S j ↔ j < p)
  fr : FrRel m r F a
  nt : F.nt = f.nt
  df : F.df = f.df
  rd : F.rd = f.rd
  got : ∀ (j : Nat) (e : Ent) (s : Nat), tr[j]? = some e → S j → e.o.dst = some s → F.get s = e.v
  old : ∀ s : Nat, (∀ j e, tr[j]? = some e → S j → e.o.dst ≠ some s) → F.get s = f.get s
  rel : Rel m (hat xs Hp) w
  step : Step m0 H.get H.nx w0 m (hat xs Hp) H'.nx w
  dom : ∀ b, m b ≠ none → b < Hp.nx ∨ (∃ j e, tr[j]? = some e ∧ S j ∧ isNew P e ∧ b = e.H.nx) ∨ N ≤ b
  late : ∀ j e, tr[j]? = some e → ¬ S j → isNew P e → m e.H.nx = none

variable {tr : List Ent} {f f' : Fr} {H H' : AH} {xs : HF} {N : Nat} {m0 : BM} {w0 : World} {r : Option Nat} {S : Nat → Prop} {a : Act} {w : World} {p : Nat} {Hp : AH} {fp : Fr} {m : BM} {F : Fr}
theorem InvD.agree (R : RegOk P ops) (t : Tr P ops ops.toList f H tr f' H') (hn : f.nt ≤ 256) (I : InvD P ops tr f f' H H' xs N m0 w0 r S a w p Hp fp m F) {i : Nat} {e : Ent} (he : tr[i]? = some e) (hS : ¬ S i)
    (hb : ∀ k, ((Region.before ops).getD i 0).testBit k = true → S k) : ∀ s : Nat, s ∈ looks ops e.o → F.get s = e.f.get s := by
  intro s hs
  obtain ⟨ho, f1, H1, h1, h2, h3⟩ := t.at he
  rw [Array.getElem?_toList] at ho
  have hop : ∀ {j : Nat} {e' : Ent}, tr[j]? = some e' → ops[j]? = some e'.o := fun hj => by have := (t.at hj).1; rw [Array.getElem?_toList] at this; exact this
  have untouched : (∀ j e', tr[j]? = some e' → S j ∨ j < i → e'.o.dst ≠ some s) → F.get s = e.f.get s := by
    intro h
    rw [I.old s fun j e' hj hSj => h j e' hj (.inl hSj)]
    obtain ⟨_, _, _, h4⟩ := h2.frame hn
    refine (h4 s fun e' he' => ?_).symm
    obtain ⟨j, hj⟩ := List.getElem?_of_mem he'
    have hlt : j < i := by
      have := (List.getElem?_eq_some_iff.1 hj).1
      simp at this
      omega
    rw [List.getElem?_take_of_lt hlt] at hj
    exact h j e' hj (.inr hlt)
  by_cases hex : ∃ (k : Nat) (e' : Ent), tr[k]? = some e' ∧ e'.o.dst = some s
  · obtain ⟨k, e', hk, hd⟩ := hex
    have only : ∀ j e'', tr[j]? = some e'' → e''.o.dst = some s → j = k := fun j e'' hj hd' => R.dup (hop hj) (hop hk) hd' hd
    rcases R.looks ho (hop hk) hs hd with h4 | h4 | h4
    · subst h4
      refine untouched fun j e'' hj hc hd' => ?_
      have := only j e'' hj hd'
      subst this
      rcases hc with hc | hc
      · exact hS hc
      · omega
    · rw [I.got k e' s hk (hb k h4) hd]
      have hki := R.lt h4
      refine (h2.slot hn (j := k) (by rw [List.getElem?_take_of_lt hki]; exact hk) hd fun j e'' hj hd' => ?_).symm
      have hji : j < i := by
        have := (List.getElem?_eq_some_iff.1 hj).1
        simp at this
        omega
      rw [List.getElem?_take_of_lt hji] at hj
      exact only j e'' hj hd'
    · have hki := R.lt h4
      refine untouched fun j e'' hj hc hd' => ?_
      have := only j e'' hj hd'
      subst this
      rcases hc with hc | hc
      · exact hS (I.closed j i hc h4)
      · omega
  · refine untouched fun j e'' hj _ hd' => hex ⟨j, e'', hj, hd'⟩
theorem InvD.sameOp (R : RegOk P ops) (t : Tr P ops ops.toList f H tr f' H') (hn : f.nt ≤ 256) (I : InvD P ops tr f f' H H' xs N m0 w0 r S a w p Hp fp m F) {i : Nat} {e : Ent} (he : tr[i]? = some e) (hS : ¬ S i)
    (hb : ∀ k, ((Region.before ops).getD i 0).testBit k = true → S k) (E : AH) : opA P F E e.o.op = opA P e.f E e.o.op := by
  refine opA_congr fun x hx => ?_
  cases x with
  | tmp s =>
    have : F.get s = e.f.get s := I.agree R t hn he hS hb s (by
      unfold looks
      refine List.mem_append_left _ (List.mem_filterMap.2 ⟨.tmp s, hx, rfl⟩))
    show some (F.get s) = some (e.f.get s)
    rw [this]
  | const v => rfl
  | global g => rfl
  | func g => rfl
/-- The frame and what is known of it, one operation more. -/
theorem InvD.frame (R : RegOk P ops) (t : Tr P ops ops.toList f H tr f' H') (hn : f.nt ≤ 256) (I : InvD P ops tr f f' H H' xs N m0 w0 r S a w p Hp fp m F) {i : Nat} {e : Ent} (he : tr[i]? = some e) :
    ∃ F', F.put e.o.dst e.v = some F' ∧ F'.nt = f.nt ∧ F'.df = f.df ∧ F'.rd = f.rd ∧ (∀ (j : Nat) (e' : Ent) (s : Nat), tr[j]? = some e' → (S j ∨ j = i) → e'.o.dst = some s → F'.get s = e'.v) ∧
      (∀ s : Nat, (∀ j e', tr[j]? = some e' → (S j ∨ j = i) → e'.o.dst ≠ some s) → F'.get s = f.get s) := by
  obtain ⟨ho, f1, H1, h1, h2, h3⟩ := t.at he
  have hop : ∀ {j : Nat} {e' : Ent}, tr[j]? = some e' → ops[j]? = some e'.o := fun hj => by have := (t.at hj).1; rw [Array.getElem?_toList] at this; exact this
  obtain ⟨ent, _, _, _⟩ := h2.frame hn
  obtain ⟨F', hF⟩ := Fr.put_of h1.put (I.nt.trans ent.symm)
  obtain ⟨g1, g2, g3, g4⟩ := Fr.put_spec (by rw [I.nt]; exact hn) hF
  refine ⟨F', hF, g1.trans I.nt, g2.trans I.df, g3.trans I.rd, fun j e' s hj hc hd => ?_, fun s hs => ?_⟩
  · rw [g4 s]
    by_cases hji : j = i
    · subst hji
      rw [he] at hj
      injection hj with hj
      subst hj
      rw [if_pos hd]
    · rw [if_neg fun hd' => hji (R.dup (hop hj) (hop he) hd hd')]
      rcases hc with hc | hc
      · exact I.got j e' s hj hc hd
      · exact absurd hc hji
  · rw [g4 s, if_neg (hs i e he (.inr rfl))]
    exact I.old s fun j e' hj hSj => hs j e' hj (.inl hSj)
/-- What is ready may be carried out. -/
theorem InvD.more (R : RegOk P ops) (t : Tr P ops ops.toList f H tr f' H') (hn : f.nt ≤ 256) (hx : XsOk P tr H.nx H'.nx xs) (hrec : RecsOk P (Region.before ops) 0 tr (eps P (Region.before ops) 0 tr H')) (hN : H'.nx ≤ N)
    (I : InvD P ops tr f f' H H' xs N m0 w0 r S a w p Hp fp m F) {i : Nat} {o : Oper} (ho : ops[i]? = some o) (hS : ¬ S i) (hb : ∀ k, ((Region.before ops).getD i 0).testBit k = true → S k) {K : Act → World → Prop} {Q : Exit → Act → World → Prop}
    (hK : ∀ a' w', (∃ p Hp fp m F, InvD P ops tr f f' H H' xs N m0 w0 r (fun j => S j ∨ j = i) a' w' p Hp fp m F) → K a' w') : wpOpIn (FW r) 0 P ops Q i K a w := by
  have hi : i < tr.length := by
    rw [t.length]
    have := (Array.getElem?_eq_some_iff.1 ho).1
    simpa using this
  obtain ⟨e, he⟩ : ∃ e, tr[i]? = some e := ⟨tr[i], List.getElem?_eq_getElem hi⟩
  obtain ⟨hoe, f1, H1, hent, htake, hdrop⟩ := t.at he
  have hop : ∀ {j : Nat} {e' : Ent}, tr[j]? = some e' → ops[j]? = some e'.o := fun hj => by have := (t.at hj).1; rw [Array.getElem?_toList] at this; exact this
  have heo : e.o = o := by rw [Array.getElem?_toList, ho] at hoe; injection hoe with hoe; exact hoe.symm
  subst heo
  obtain ⟨F', hF, n1, n2, n3, n4, n5⟩ := I.frame R t hn he
  have hsame := I.sameOp R t hn he hS hb
  have closed' : ∀ j k, (S j ∨ j = i) → ((Region.before ops).getD j 0).testBit k = true → (S k ∨ k = i) := by
    intro j k hj hk
    rcases hj with hj | hj
    · exact .inl (I.closed j k hj hk)
    · subst hj; exact .inl (hb k hk)
  -- no operation that acts: the place stays
  have stay : isCh P e = false → ∀ j e', tr[j]? = some e' → isCh P e' = true → ((S j ∨ j = i) ↔ j < p) := by
    intro hc j e' hj hc'
    rw [← I.chS j e' hj hc']
    refine ⟨fun h => ?_, .inl⟩
    rcases h with h | h
    · exact h
    · subst h
      rw [he] at hj
      injection hj with hj
      subst hj
      rw [hc] at hc'
      cases hc'
  have late' : ∀ {m' : BM}, (∀ j e', tr[j]? = some e' → j ≠ i → ¬ S j → isNew P e' → m' e'.H.nx = none) → ∀ j e', tr[j]? = some e' → ¬ (S j ∨ j = i) → isNew P e' → m' e'.H.nx = none := fun h j e' hj hn => h j e' hj (fun hji => hn (.inr hji)) (fun hSj => hn (.inl hSj))
  have dom' : ∀ b, m b ≠ none → b < Hp.nx ∨ (∃ j e, tr[j]? = some e ∧ (S j ∨ j = i) ∧ isNew P e ∧ b = e.H.nx) ∨ N ≤ b := by
    intro b hb'
    rcases I.dom b hb' with h | ⟨j, e', h1, h2, h3⟩ | h
    · exact .inl h
    · exact .inr (.inl ⟨j, e', h1, .inl h2, h3⟩)
    · exact .inr (.inr h)
  have hrec_at : ∀ rc : Rec, rc.i = i → rc.pre = (Region.before ops).getD i 0 → recOk P rc (eps P (Region.before ops) 0 tr H') = true → ∀ {E : AH} {nxt : Option (Nat × Nat)} {rest : List Epoch}, eps P (Region.before ops) p (tr.drop p) H' = ⟨E, nxt⟩ :: rest →
      (∀ c pre, nxt = some (c, pre) → ¬ S c) → sameNow P rc E = true := by
    intro rc h1 h2 h3 E nxt rest h4 h5
    obtain ⟨A, hA, hA2⟩ := eps_split (P := P) (b := Region.before ops) (H' := H') tr 0 p I.ple
    rw [Nat.zero_add, h4] at hA
    rw [hA] at h3
    refine recOk_at h3 (fun ep hep => ?_) fun c pre hc => ?_
    · obtain ⟨j, e', g1, g2, g3, g4⟩ := hA2 ep hep
      refine ⟨_, _, g4, ?_⟩
      rw [Nat.zero_add, bit_eq, h1]
      cases hbit : ((Region.before ops).getD j 0).testBit i with
      | false => rfl
      | true => exact absurd (I.closed j i ((I.chS j e' g2 g3).2 g1) hbit) hS
    · rw [bit_eq, h2]
      cases hbit : ((Region.before ops).getD i 0).testBit c with
      | false => rfl
      | true => exact absurd (hb c hbit) (h5 c pre hc)
  obtain ⟨E, nxt, rest, hE1, hE2, hE3, hE4, hE5⟩ := I.tail.next (b := Region.before ops) (xs := xs) (fun e' he' hn => hx.at_ e' (List.mem_of_mem_drop he') hn) I.hok p
  have hnS : ∀ c pre, nxt = some (c, pre) → ¬ S c := by
    intro c pre hc
    rcases hE5 with ⟨h6, _⟩ | ⟨j, e', h6, h7, h8, _⟩
    · rw [h6] at hc; cases hc
    · rw [h6] at hc
      injection hc with hc
      injection hc with hc _
      subst hc
      rw [List.getElem?_drop] at h7
      have := I.chS _ e' h7 h8
      intro hSc
      have := this.1 hSc
      omega
  -- what is behind an operation that does not act
  have fin : isCh P e = false → ∀ m' a' w', FrRel m' r F' a' → Rel m' (hat xs Hp) w' → Step m (hat xs Hp) H.nx w m' (hat xs Hp) H'.nx w' → (∀ b, m' b ≠ none → m b ≠ none ∨ (isNew P e ∧ b = e.H.nx)) → K a' w' := by
    intro hc m' a' w' hfr hrel hstep hids
    refine hK a' w' ⟨p, Hp, fp, m', F', ⟨closed', I.ple, I.tail, I.hok, stay hc, hfr, n1, n2, n3, n4, n5, hrel, I.step.join hstep, fun b hb' => ?_, late' fun j e' hj hji hSj hn' => ?_⟩⟩
    · rcases hids b hb' with h | ⟨h1, h2⟩
      · exact dom' b h
      · exact .inr (.inl ⟨i, e, he, .inr rfl, h1, h2⟩)
    · cases hm : m' e'.H.nx with
      | none => rfl
      | some cb =>
        exfalso
        rcases hids _ (by rw [hm]; exact Option.some_ne_none cb) with h | ⟨h1, h2⟩
        · exact h (I.late j e' hj hSj hn')
        · -- two blocks of one number
          obtain ⟨_, g1, G1, hent', gt, gd⟩ := t.at hj
          obtain ⟨x, _, _, rfl⟩ := hent'.new hn'.1 hn'.2
          obtain ⟨y, _, _, rfl⟩ := hent.new h1.1 h1.2
          rcases Nat.lt_trichotomy j i with hlt | hlt | hlt
          · have hmem : e ∈ tr.drop (j + 1) := List.mem_of_getElem? (i := i - (j + 1)) (by rw [List.getElem?_drop, show j + 1 + (i - (j + 1)) = i from by omega]; exact he)
            have hr := (gd.range e hmem).1
            have hr : e'.H.nx + 1 ≤ e.H.nx := hr
            omega
          · exact hji hlt
          · have hmem : e' ∈ tr.drop (i + 1) := List.mem_of_getElem? (i := j - (i + 1)) (by rw [List.getElem?_drop, show i + 1 + (j - (i + 1)) = j from by omega]; exact hj)
            have hr := (hdrop.range e' hmem).1
            have hr : e.H.nx + 1 ≤ e'.H.nx := hr
            omega
  have hHH : H.nx ≤ H'.nx := t.mono
  have refl : Step m (hat xs Hp) H.nx w m (hat xs Hp) H'.nx w := { Step.refl m (hat xs Hp) H.nx w with ids := fun b h1 h2 => absurd h1 h2, mono := hHH }
  unfold wpOpIn
  rw [ho]
  dsimp only
  cases hran : e.ran with
  | false =>
    obtain ⟨⟨j, want, hg, hno⟩, hv, _⟩ := hent.skip hran
    have hw : ¬ Region.wanted e.o (yielded ops a.tmps) = true := by
      rw [wanted_iff I.fr hg]
      rintro ⟨d, hd, hd'⟩
      exact hno ⟨d, hd, by rw [← I.agree R t hn he hS hb d (looks_guard hg hd)]; exact hd'⟩
    rw [if_neg hw]
    rw [hv] at hF
    exact ⟨fun _ _ => trivial, fin (by simp [isCh, hran]) m _ w (I.fr.put hF (.und m)) I.rel refl fun b hb' => .inl hb'⟩
  | true =>
    have hw : Region.wanted e.o (yielded ops a.tmps) = true := by
      cases hg : e.o.guard with
      | none => simp [Region.wanted, hg]
      | some jw =>
        obtain ⟨j, want⟩ := jw
        obtain ⟨d, hd, hd'⟩ := hent.guard hran j want hg
        exact (wanted_iff I.fr hg).2 ⟨d, hd, by rw [I.agree R t hn he hS hb d (looks_guard hg hd)]; exact hd'⟩
    rw [if_pos hw]
    obtain ⟨ar, har, has⟩ := hent.run hran
    have hdf := R.nodefer ho
    cases hkd : kindOf P e.o.op with
    | pure =>
      obtain ⟨y, hy⟩ := kind_pure (f := e.f) hkd
      have hyv : y = some e.v := by
        rw [hy] at har
        cases y with
        | none => cases har
        | some y => injection har with har; subst har; rw [has.1]
      have hop2 : opA P F AH.empty e.o.op = some (.val e.v AH.empty) := by rw [hsame, hy, hyv]; rfl
      have hnone : ∀ b x, AH.empty.get b = some x → False := fun b x h => by
        have h2 : HT.get dH (HT.empty dH) b = some x := h
        rw [HT.get_empty] at h2
        cases h2
      have st : St 0 m AH.empty w := ⟨I.rel.sub fun b x h _ => (hnone b x h).elim, HOk.empty, fun b _ hb' => by omega⟩
      refine (operS_of hdf hF (opS_val hop2)).2 0 m w a r (Nat.le_refl _) st I.fr K Q fun m' a' w' s st' fr' => ?_
      obtain ⟨hr2, hs2⟩ := Rel.merge (hh' := hat xs Hp) (NA := H.nx) (NB := H'.nx) I.rel (fun b x h _ => (hnone b x h).elim) s st'.rel (fun b x h1 h2 => by
        refine .inr ⟨fun h3 => ?_, ?_, h1⟩
        · have := (s.ids b h3 h2).2
          have : b < 0 := this
          omega
        · cases hg : AH.empty.get b with
          | none => rfl
          | some x => exact (hnone b x hg).elim) (fun b h1 h2 => by
          have := (s.ids b h1 h2).2
          have : b < 0 := this
          omega) hHH
      exact fin (by simp [isCh, hran, hkd, Kd.isChain]) m' a' w' fr' hr2 hs2 fun b hb' => by
        cases hm : m b with
        | some cb => exact .inl (Option.some_ne_none cb)
        | none =>
          have := (s.ids b hm hb').2
          have : b < 0 := this
          omega
    | read =>
      have hmem := hrec_at ⟨0 + i, (Region.before ops).getD (0 + i) 0, false, e.o.op, e.f, e.v, 0, none⟩ (by simp) (by simp) (hrec.read i e he hran hkd) hE1 hnS
      have hnow : sameV e.v (opA P e.f E e.o.op) = true := hmem
      have hop2 : opA P F E e.o.op = some (.val e.v E) := by
        rw [hsame]
        obtain ⟨y, hy⟩ := kind_read (f := e.f) hkd E
        rw [hy] at hnow ⊢
        cases y with
        | none => cases hnow
        | some y =>
          have hnow : abeq y e.v = true := hnow
          rw [abeq_eq hnow]
          rfl
      have hatE : ∀ b x, E.get b = some x → m b ≠ none → hat xs Hp b = some x := by
        intro b x h1 h2
        obtain ⟨cb, hcb⟩ := Option.ne_none_iff_exists'.1 h2
        have hbm := (I.rel.dom b cb hcb).1
        rw [← hE4 b hbm]
        unfold hat
        rw [if_pos (hE2.lt hbm h1)]
        exact h1
      have st : St E.nx m E w := ⟨I.rel.sub hatE, hE2, fun b h1 h2 => by omega⟩
      refine (operS_of hdf hF (opS_val hop2)).2 E.nx m w a r (Nat.le_refl _) st I.fr K Q fun m' a' w' s st' fr' => ?_
      have old : ∀ b, m' b ≠ none → m b ≠ none := by
        intro b hb' hm
        have := s.ids b hm hb'
        omega
      obtain ⟨hr2, hs2⟩ := Rel.merge (hh' := hat xs Hp) (NA := H.nx) (NB := H'.nx) I.rel hatE s st'.rel (fun b x h1 h2 => by
        cases hg : E.get b with
        | none => exact .inr ⟨old b h2, rfl, h1⟩
        | some y =>
          have := hatE b y hg (old b h2)
          rw [h1] at this
          injection this with this
          exact .inl (by rw [this])) (fun b h1 h2 => absurd h1 (old b h2)) hHH
      exact fin (by simp [isCh, hran, hkd, Kd.isChain]) m' a' w' fr' hr2 hs2 fun b hb' => .inl (old b hb')
    | new =>
      have hnew : isNew P e := ⟨hran, hkd⟩
      obtain ⟨x, hex, hroom, hH1⟩ := hent.new hran hkd
      have hlt := AH.room_lt hroom
      have hnow := hrec_at ⟨0 + i, (Region.before ops).getD (0 + i) 0, true, e.o.op, e.f, e.v, e.H.nx, e.x⟩ (by simp) (by simp) (hrec.new i e he hran hkd) hE1 hnS
      have hnow : (match Nat.ble E.nx e.H.nx with
        | true => true
        | false => sameB e.x (E.get e.H.nx)) = true := hnow
      have hcont : hat xs Hp e.H.nx = some x := by
        rw [← hE4 _ hlt]
        unfold hat
        by_cases h1 : e.H.nx < E.nx
        · rw [if_pos h1]
          split at hnow
          · rename_i h2
            have := Nat.le_of_ble_eq_true h2
            omega
          · rw [hex] at hnow
            unfold sameB at hnow
            split at hnow
            · rename_i x1 y1 h3 h4
              injection h3 with h3
              rw [h4, h3, blkEq_eq hnow]
            · cases hnow
        · rw [if_neg h1, hx.at_ e (List.mem_of_getElem? he) hnew, hex]
      obtain ⟨HE, hHE⟩ : ∃ HE : AH, HE = ⟨HT.empty dH, e.H.nx⟩ := ⟨_, rfl⟩
      have hnxE : HE.nx = e.H.nx := by rw [hHE]
      have hnone : ∀ b, HE.get b = none := fun b => by rw [hHE]; exact HT.get_empty dH b
      have hroomE : HE.room = true := by unfold AH.room at hroom ⊢; rw [hnxE]; exact hroom
      have hop2 : opA P F HE e.o.op = some (.val e.v (HE.grown x)) := by
        rw [hsame]
        rcases kind_new (f := e.f) hkd with hy | ⟨y, kk, hy⟩
        · rw [hy] at har; cases har
        · rw [hy] at har ⊢
          unfold newA at har ⊢
          rw [hroom] at har
          rw [hroomE]
          injection har with har
          subst har
          obtain ⟨h1, h2⟩ := has
          rw [hH1] at h2
          have hyx : y = x := by
            have e1 := AH.get_grown e.H y e.H.nx hlt hlt
            have e2 := AH.get_grown e.H x e.H.nx hlt hlt
            rw [h2, e2] at e1
            simp only [if_true] at e1
            injection e1 with e1
            exact e1.symm
          subst hyx
          show some (AR.val (kk HE.nx) (HE.grown y)) = _
          rw [hnxE, h1]
      have st : St (e.H.nx + 1) m HE w := ⟨I.rel.sub (fun b y h _ => by rw [hnone] at h; cases h), ⟨by rw [hnxE]; omega, fun b _ _ => hnone b⟩, fun b h1 h2 => by
        rw [hnxE] at h1
        have : b = e.H.nx := by omega
        subst this
        exact I.late i e he hS hnew⟩
      refine (operS_of hdf hF (opS_val hop2)).2 (e.H.nx + 1) m w a r (by rw [AH.nx_grown, hnxE]; exact Nat.le_refl _) st I.fr K Q fun m' a' w' s st' fr' => ?_
      have news : ∀ b, m b = none → m' b ≠ none → b = e.H.nx := by
        intro b h1 h2
        obtain ⟨h3, h4⟩ := s.ids b h1 h2
        rw [AH.nx_grown, hnxE] at h4
        rw [hnxE] at h3
        omega
      have hrange := t.range e (List.mem_of_getElem? he)
      have hup : e.H.nx < H'.nx := by
        have := hdrop.mono
        rw [hH1] at this
        exact this
      obtain ⟨hr2, hs2⟩ := Rel.merge (hh' := hat xs Hp) (NA := H.nx) (NB := H'.nx) I.rel (fun b y h _ => by rw [hnone] at h; cases h) s st'.rel (fun b y h1 h2 => by
        cases hm : m b with
        | some cb => exact .inr ⟨Option.some_ne_none cb, hnone b, h1⟩
        | none =>
          have := news b hm h2
          subst this
          rw [hcont] at h1
          have e2 := AH.get_grown HE x e.H.nx (by rw [hnxE]; exact hlt) hlt
          rw [if_pos hnxE.symm] at e2
          exact .inl (e2.trans h1)) (fun b h1 h2 => by rw [news b h1 h2]; exact ⟨hrange.1, hup⟩) hHH
      exact fin (by simp [isCh, hran, hkd, Kd.isChain]) m' a' w' fr' hr2 hs2 fun b hb' => by
        cases hm : m b with
        | some cb => exact .inl (Option.some_ne_none cb)
        | none => exact .inr ⟨hnew, news b hm hb'⟩
    | chain =>
      have hch : isCh P e = true := by simp [isCh, hran, hkd, Kd.isChain]
      have hkc : (kindOf P e.o.op).isChain = true := by rw [hkd]; rfl
      have hip : p ≤ i := by
        rcases Nat.lt_or_ge i p with h | h
        · exact absurd ((I.chS i e he hch).2 h) hS
        · exact h
      have hei : (tr.drop p)[i - p]? = some e := by rw [List.getElem?_drop, show p + (i - p) = i from by omega]; exact he
      have hEe : E = e.H := by
        rcases hE5 with ⟨_, _, h8⟩ | ⟨j, e', h6, h7, h8, h9, h10⟩
        · have := h8 e (List.mem_of_getElem? hei)
          rw [hch] at this
          cases this
        · have hj1 : ¬ i - p < j := fun h => by
            have := h10 (i - p) e h hei
            rw [hch] at this
            cases this
          rw [List.getElem?_drop] at h7
          by_cases hj2 : p + j = i
          · rw [hj2, he] at h7
            injection h7 with h7
            rw [h9, h7]
          · exfalso
            have hkc' : (kindOf P e'.o.op).isChain = true := by
              unfold isCh at h8
              rw [Bool.and_eq_true] at h8
              exact h8.2
            have := R.chain ho (hop h7) hkc hkc' (by omega)
            exact hnS _ _ h6 (hb _ this)
      subst hEe
      have hmono := hent.chain hran hkd
      have hH1N : H1.nx ≤ H'.nx := hdrop.mono
      have hatE : ∀ b x, e.H.get b = some x → m b ≠ none → hat xs Hp b = some x := by
        intro b x h1 h2
        obtain ⟨cb, hcb⟩ := Option.ne_none_iff_exists'.1 h2
        have hbm := (I.rel.dom b cb hcb).1
        rw [← hE4 b hbm]
        unfold hat
        rw [if_pos (hE2.lt hbm h1)]
        exact h1
      -- two numbers: those of blocks made before and behind
      have apart : ∀ j e', tr[j]? = some e' → j ≠ i → isNew P e' → e'.H.nx < e.H.nx ∨ H1.nx ≤ e'.H.nx := by
        intro j e' hj hji hn'
        rcases Nat.lt_or_ge j i with hlt | hge
        · obtain ⟨_, g1, G1, hent', gt, gd⟩ := t.at hj
          obtain ⟨x, _, _, rfl⟩ := hent'.new hn'.1 hn'.2
          have hmem : e ∈ tr.drop (j + 1) := List.mem_of_getElem? (i := i - (j + 1)) (by rw [List.getElem?_drop, show j + 1 + (i - (j + 1)) = i from by omega]; exact he)
          have hr := (gd.range e hmem).1
          have hr : e'.H.nx + 1 ≤ e.H.nx := hr
          exact .inl hr
        · have hmem : e' ∈ tr.drop (i + 1) := List.mem_of_getElem? (i := j - (i + 1)) (by rw [List.getElem?_drop, show i + 1 + (j - (i + 1)) = j from by omega]; exact hj)
          exact .inr (hdrop.range e' hmem).1
      have st : St H1.nx m e.H w := ⟨I.rel.sub hatE, hE2, fun b h1 h2 => by
        cases hm : m b with
        | none => rfl
        | some cb =>
          exfalso
          rcases I.dom b (by rw [hm]; exact Option.some_ne_none cb) with h | ⟨j, e', h3, h4, h5, h6⟩ | h
          · omega
          · have hji : j ≠ i := fun h => hS (h ▸ h4)
            rcases apart j e' h3 hji h5 with h7 | h7 <;> omega
          · omega⟩
      refine (operS_of hdf hF (opS_of hdf ((hsame _).trans har) has)).2 H1.nx m w a r (Nat.le_refl _) st I.fr K Q fun m' a' w' s st' fr' => ?_
      have news : ∀ b, m b = none → m' b ≠ none → e.H.nx ≤ b ∧ b < H1.nx := s.ids
      have hrange := t.range e (List.mem_of_getElem? he)
      obtain ⟨hr2, hs2⟩ := Rel.merge (hh' := hat xs H1) (NA := H.nx) (NB := H'.nx) I.rel hatE s st'.rel (fun b x h1 h2 => by
        obtain ⟨cb, hcb⟩ := Option.ne_none_iff_exists'.1 h2
        have hbm := (st'.rel.dom b cb hcb).1
        unfold hat at h1
        by_cases hb1 : b < H1.nx
        · rw [if_pos hb1] at h1
          exact .inl h1
        · rw [if_neg hb1] at h1
          refine .inr ⟨fun h3 => hb1 (news b h3 h2).2, hE2.2 b (by omega) hbm, ?_⟩
          rw [← hE4 b hbm]
          unfold hat
          rw [if_neg (by omega)]
          exact h1) (fun b h1 h2 => by have := news b h1 h2; omega) hHH
      refine hK a' w' ⟨i + 1, H1, f1, m', F', ⟨closed', by omega, hdrop, st'.ok, fun j e' hj hc' => ?_, fr', n1, n2, n3, n4, n5, hr2, I.step.join hs2, fun b hb' => ?_, late' fun j e' hj hji hSj hn' => ?_⟩⟩
      · have hkc' : (kindOf P e'.o.op).isChain = true := by
          unfold isCh at hc'
          rw [Bool.and_eq_true] at hc'
          exact hc'.2
        constructor
        · rintro (h | h)
          · have := (I.chS j e' hj hc').1 h
            omega
          · omega
        · intro h
          by_cases hji : j = i
          · exact .inr hji
          · exact .inl (hb j (R.chain ho (hop hj) hkc hkc' (by omega)))
      · cases hm : m b with
        | none => exact .inl (news b hm hb').2
        | some cb =>
          rcases dom' b (by rw [hm]; exact Option.some_ne_none cb) with h | h | h
          · exact .inl (by omega)
          · exact .inr (.inl h)
          · exact .inr (.inr h)
      · cases hm : m' e'.H.nx with
        | none => rfl
        | some cb =>
          exfalso
          have h1 := I.late j e' hj hSj hn'
          have := news _ h1 (by rw [hm]; exact Option.some_ne_none cb)
          rcases apart j e' hj hji hn' with h7 | h7 <;> omega
end
end Go.Ev
