/- Regions that draw their order. -/
import Derived.Test.YtginbifeinpciaaGreatEvS26
import Derived.OrdersIn
namespace Go.Ev
open Go

section
variable {P : Program} {ops : Array Oper} {tr : List Ent} {f f' : Fr} {H H' : AH} {xs : HF} {N : Nat} {m0 : BM} {w0 : World} {r : Option Nat} {S : Nat → Prop} {a : Act} {w : World} {p : Nat} {Hp : AH} {fp : Fr} {m : BM} {F : Fr}
/-- All is carried out. -/
theorem InvD.done (R : RegOk P ops) (t : Tr P ops ops.toList f H tr f' H') (hn : f.nt ≤ 256) (hx : XsOk P tr H.nx H'.nx xs) (hN : H'.nx ≤ N) (I : InvD P ops tr f f' H H' xs N m0 w0 r S a w p Hp fp m F) (hall : ∀ j, j < tr.length → S j) :
    Stp m0 H w0 m H' w ∧ St N m H' w ∧ FrRel m r f' a := by
  have hop : ∀ {j : Nat} {e' : Ent}, tr[j]? = some e' → ops[j]? = some e'.o := fun hj => by have := (t.at hj).1; rw [Array.getElem?_toList] at this; exact this
  have hlt : ∀ {j : Nat} {e' : Ent}, tr[j]? = some e' → j < tr.length := fun hj => (List.getElem?_eq_some_iff.1 hj).1
  obtain ⟨E, nxt, rest, hE1, hE2, hE3, hE4, hE5⟩ := I.tail.next (b := Region.before ops) (xs := xs) (fun e' he' hn => hx.at_ e' (List.mem_of_mem_drop he') hn) I.hok p
  have hEH : E = H' := by
    rcases hE5 with ⟨_, h, _⟩ | ⟨j, e', h6, h7, h8, _⟩
    · exact h
    · exfalso
      rw [List.getElem?_drop] at h7
      have := (I.chS _ e' h7 h8).1 (hall _ (hlt h7))
      omega
  subst hEH
  have hatE : ∀ b x, E.get b = some x → m b ≠ none → hat xs Hp b = some x := by
    intro b x h1 h2
    obtain ⟨cb, hcb⟩ := Option.ne_none_iff_exists'.1 h2
    have hbm := (I.rel.dom b cb hcb).1
    rw [← hE4 b hbm]
    unfold hat
    rw [if_pos (hE2.lt hbm h1)]
    exact h1
  refine ⟨{ I.step with grow := fun B i ho => ?_ }, ⟨I.rel.sub hatE, hE2, fun b h1 h2 => ?_⟩, ?_⟩
  · obtain ⟨b, x, cb, g1, g2, g3⟩ := ho
    exact I.step.grow B i ⟨b, x, cb, hatE b x g1 (by rw [g2]; exact Option.some_ne_none cb), g2, g3⟩
  · cases hm : m b with
    | none => rfl
    | some cb =>
      exfalso
      rcases I.dom b (by rw [hm]; exact Option.some_ne_none cb) with h | ⟨j, e, h3, _, h5, h6⟩ | h
      · omega
      · obtain ⟨_, g1, G1, hent, gt, gd⟩ := t.at h3
        obtain ⟨x, _, _, rfl⟩ := hent.new h5.1 h5.2
        have hr := gd.mono
        have hr : e.H.nx + 1 ≤ E.nx := hr
        omega
      · omega
  · obtain ⟨e1, e2, e3, e4⟩ := t.frame hn
    have hget : ∀ s : Nat, f'.get s = F.get s := by
      intro s
      by_cases hex : ∃ (k : Nat) (e' : Ent), tr[k]? = some e' ∧ e'.o.dst = some s
      · obtain ⟨k, e', hk, hd⟩ := hex
        rw [I.got k e' s hk (hall k (hlt hk)) hd]
        exact t.slot hn hk hd fun j e'' hj hd' => R.dup (hop hj) (hop hk) hd' hd
      · rw [I.old s fun j e' hj _ hd => hex ⟨j, e', hj, hd⟩]
        refine e4 s fun e' he' hd => ?_
        obtain ⟨j, hj⟩ := List.getElem?_of_mem he'
        exact hex ⟨j, e', hj, hd⟩
    refine ⟨⟨?_, ?_, fun s => ?_⟩, ?_, ?_⟩
    · rw [e1, ← I.nt]; exact I.fr.tm.1
    · rw [e1]; exact hn
    · have := I.fr.tm.2.2 s
      have h2 := hget s
      show VRel m (f'.get s) _
      rw [h2]
      exact this
    · rw [e2, ← I.df]; exact I.fr.df
    · rw [e3, ← I.rd]; exact I.fr.rd
/-- What is listed. -/
def Lst (listed : Array Bool) (j : Nat) : Prop := listed[j]? = some true
theorem any_sound (R : RegOk P ops) (t : Tr P ops ops.toList f H tr f' H') (hn : f.nt ≤ 256) (hx : XsOk P tr H.nx H'.nx xs) (hrec : RecsOk P (Region.before ops) 0 tr (eps P (Region.before ops) 0 tr H')) (hN : H'.nx ≤ N)
    {Q : Exit → Act → World → Prop} (hQ : ∀ m' a' w', Stp m0 H w0 m' H' w' → St N m' H' w' → FrRel m' r f' a' → Q .normal a' w') :
    ∀ (fuel : Nat) (listed : Array Bool) (a : Act) (w : World), listed.size = ops.size → (∃ L : List Nat, L.length ≤ fuel ∧ ∀ j, j < ops.size → ¬ Lst listed j → j ∈ L) →
      (∃ p Hp fp m F, InvD P ops tr f f' H H' xs N m0 w0 r (Lst listed) a w p Hp fp m F) → wpAnyIn (FW r) 0 P .any ops Q fuel listed a w := by
  have hlen : tr.length = ops.size := by rw [t.length]; simp
  have hready : ∀ {listed : Array Bool} {i : Nat}, listed.size = ops.size → i ∈ Region.ready .any ops listed → i < ops.size ∧ ¬ Lst listed i ∧ ∃ o, ops[i]? = some o ∧ ∀ e ∈ o.after.toList, Region.binds .any e = true → Lst listed e.on := by
    intro listed i hsz hi
    unfold Region.ready at hi
    rw [List.mem_filter] at hi
    obtain ⟨h1, h2⟩ := hi
    rw [List.mem_range] at h1
    rw [Bool.and_eq_true] at h2
    refine ⟨h1, fun hl => ?_, ops[i], Array.getElem?_eq_getElem h1, fun e he hb => ?_⟩
    · have h3 := h2.1
      rw [Array.getD_eq_getD_getElem?, show listed[i]? = some true from hl] at h3
      cases h3
    · have h3 := h2.2
      rw [Array.getElem?_eq_getElem h1] at h3
      simp only [Option.map_some, Option.getD_some, Array.all_eq_true_iff_forall_mem] at h3
      have h4 := h3 e (by simpa using he)
      simp only [hb, Bool.not_true, Bool.false_or] at h4
      rw [Array.getD_eq_getD_getElem?] at h4
      show listed[e.on]? = some true
      cases hg : listed[e.on]? with
      | none => rw [hg] at h4; cases h4
      | some v => rw [hg] at h4; simp only [Option.getD_some] at h4; rw [h4]
  have fin : ∀ {listed : Array Bool} {a : Act} {w : World}, (∀ j, j < ops.size → Lst listed j) → (∃ p Hp fp m F, InvD P ops tr f f' H H' xs N m0 w0 r (Lst listed) a w p Hp fp m F) → Q .normal a w := by
    intro listed a w hall ⟨p, Hp, fp, m, F, I⟩
    obtain ⟨h1, h2, h3⟩ := I.done R t hn hx hN fun j hj => hall j (by omega)
    exact hQ m a w h1 h2 h3
  intro fuel
  induction fuel with
  | zero =>
    intro listed a w hsz ⟨L, hL, hcov⟩ hI
    have hall : ∀ j, j < ops.size → Lst listed j := fun j hj => Classical.byContradiction fun h => by
      have := hcov j hj h
      rw [List.length_eq_zero_iff.1 (Nat.le_zero.1 hL)] at this
      cases this
    refine ⟨?_, fin hall hI⟩
    cases hr : Region.ready .any ops listed with
    | nil => rfl
    | cons i l =>
      obtain ⟨h1, h2, _⟩ := hready (listed := listed) (i := i) hsz (by rw [hr]; exact List.mem_cons_self)
      exact absurd (hall i h1) h2
  | succ fuel ih =>
    intro listed a w hsz ⟨L, hL, hcov⟩ hI
    refine ⟨fun hr => fin (fun j => ?_) hI, fun i hi => ?_⟩
    · induction j using Nat.strongRecOn with
      | _ j ihj =>
        intro hj
        refine Classical.byContradiction fun hn' => ?_
        have hmem : j ∈ Region.ready .any ops listed := by
          unfold Region.ready
          rw [List.mem_filter, List.mem_range, Bool.and_eq_true]
          refine ⟨hj, ?_, ?_⟩
          · rw [Array.getD_eq_getD_getElem?, Array.getElem?_eq_getElem (by omega)]
            simp only [Option.getD_some, Bool.not_eq_true']
            cases hg : listed[j]'(by omega) with
            | false => rfl
            | true => exact absurd (show listed[j]? = some true by rw [Array.getElem?_eq_getElem (by omega), hg]) hn'
          · rw [Array.getElem?_eq_getElem hj]
            simp only [Option.map_some, Option.getD_some, Array.all_eq_true_iff_forall_mem]
            intro e he
            cases hb : Region.binds .any e with
            | false => rfl
            | true =>
              have hlt := R.back (Array.getElem?_eq_getElem hj) e (by simpa using he) hb
              have := ihj e.on hlt (by omega)
              simp only [Bool.not_true, Bool.false_or]
              rw [Array.getD_eq_getD_getElem?, show listed[e.on]? = some true from this]
              rfl
        rw [hr] at hmem
        cases hmem
    · obtain ⟨h1, h2, o, ho, hed⟩ := hready hsz hi
      obtain ⟨p, Hp, fp, m, F, I⟩ := hI
      refine I.more R t hn hx hrec hN ho h2 (fun k hk => ?_) fun a' w' hI' => ih _ a' w' (by simp [hsz]) ⟨L.erase i, ?_, fun j hj hnj => ?_⟩ ?_
      · obtain ⟨o', ho', e, he, hb, hk'⟩ := before_bit hk
        rw [ho] at ho'
        injection ho' with ho'
        subst ho'
        have := hed e he hb
        rcases hk' with hk' | ⟨_, hk'⟩
        · rw [← hk']; exact this
        · exact I.closed _ _ this hk'
      · have := List.length_erase_of_mem (hcov i h1 h2)
        omega
      · have hji : j ≠ i := fun e => hnj (by subst e; show (listed.setIfInBounds j true)[j]? = some true; rw [Array.getElem?_setIfInBounds_self_of_lt (by omega)])
        refine (List.mem_erase_of_ne hji).2 (hcov j hj fun hl => hnj ?_)
        show (listed.setIfInBounds i true)[j]? = some true
        rw [Array.getElem?_setIfInBounds_ne (Ne.symm hji)]
        exact hl
      · have hS : (fun j => Lst listed j ∨ j = i) = Lst (listed.setIfInBounds i true) := by
          funext j
          refine propext ⟨fun h => ?_, fun h => ?_⟩
          · show (listed.setIfInBounds i true)[j]? = some true
            by_cases hji : j = i
            · subst hji; rw [Array.getElem?_setIfInBounds_self_of_lt (by omega)]
            · rw [Array.getElem?_setIfInBounds_ne (Ne.symm hji)]
              exact h.resolve_right hji
          · by_cases hji : j = i
            · exact .inr hji
            · have h : (listed.setIfInBounds i true)[j]? = some true := h
              rw [Array.getElem?_setIfInBounds_ne (Ne.symm hji)] at h
              exact .inl h
        rw [← hS]
        exact hI'
end
end Go.Ev
