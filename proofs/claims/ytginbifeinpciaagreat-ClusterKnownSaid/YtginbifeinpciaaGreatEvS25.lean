/- Regions that draw their order: the heaps of a run. -/
import Derived.Test.YtginbifeinpciaaGreatEvS24
namespace Go.Ev
open Go

section
variable {P : Program} {ops : Array Oper}
/-- What lies in the heap, and what will be made first at the numbers to come. -/
noncomputable def hat (xs : HF) (E : AH) : HF := fun b => if b < E.nx then E.get b else xs b
/-- Does an operation of a run make a block? -/
def isNew (P : Program) (e : Ent) : Prop := e.ran = true ∧ kindOf P e.o.op = .new
/-- The blocks' first contents. -/
structure XsOk (P : Program) (tr : List Ent) (lo hi : Nat) (xs : HF) : Prop where
  at_ : ∀ e ∈ tr, isNew P e → xs e.H.nx = e.x
  only : ∀ b x, xs b = some x → lo ≤ b ∧ b < hi ∧ ∃ e ∈ tr, isNew P e ∧ b = e.H.nx
theorem Tr.range {l : List Oper} {f f' : Fr} {H H' : AH} {tr : List Ent} (t : Tr P ops l f H tr f' H') : ∀ e ∈ tr, H.nx ≤ e.H.nx ∧ e.H.nx ≤ H'.nx := by
  induction t with
  | nil => intro e he; cases he
  | @cons e l tr f1 f' H1 H' h t ih =>
    intro e' he'
    cases he' with
    | head => exact ⟨Nat.le_refl _, Nat.le_trans h.mono t.mono⟩
    | tail _ he' => exact ⟨Nat.le_trans h.mono (ih e' he').1, (ih e' he').2⟩
theorem Tr.xs {l : List Oper} {f f' : Fr} {H H' : AH} {tr : List Ent} (t : Tr P ops l f H tr f' H') : ∃ xs, XsOk P tr H.nx H'.nx xs := by
  classical
  induction t with
  | nil => exact ⟨fun _ => none, fun e he => (by cases he), fun b x h => by cases h⟩
  | @cons e l tr f1 f' H1 H' h t ih =>
    obtain ⟨xs, h1⟩ := ih
    by_cases hn : isNew P e
    · obtain ⟨x, hx, hroom, rfl⟩ := h.new hn.1 hn.2
      refine ⟨fun b => if b = e.H.nx then e.x else xs b, fun e' he' hn' => ?_, fun b y hb => ?_⟩
      · cases he' with
        | head => exact if_pos rfl
        | tail _ he' =>
          have hr : (e.H.grown x).nx ≤ e'.H.nx := (t.range e' he').1
          have hr : e.H.nx + 1 ≤ e'.H.nx := hr
          have : ¬ e'.H.nx = e.H.nx := by omega
          exact (if_neg this).trans (h1.at_ e' he' hn')
      · by_cases hbe : b = e.H.nx
        · subst hbe
          have hm : (e.H.grown x).nx ≤ H'.nx := t.mono
          exact ⟨Nat.le_refl _, hm, e, List.mem_cons_self, hn, rfl⟩
        · have hb' : (if b = e.H.nx then e.x else xs b) = some y := hb
          rw [if_neg hbe] at hb'
          obtain ⟨g1, g2, e', g3, g4⟩ := h1.only b y hb'
          have g1 : e.H.nx + 1 ≤ b := g1
          exact ⟨by omega, g2, e', List.mem_cons_of_mem _ g3, g4⟩
    · refine ⟨xs, fun e' he' hn' => ?_, fun b y hb => ?_⟩
      · cases he' with
        | head => exact absurd hn' hn
        | tail _ he' => exact h1.at_ e' he' hn'
      · obtain ⟨g1, g2, e', g3, g4⟩ := h1.only b y hb
        exact ⟨Nat.le_trans h.mono g1, g2, e', List.mem_cons_of_mem _ g3, g4⟩
theorem XsOk.tail {e : Ent} {tr : List Ent} {lo hi : Nat} {xs : HF} (h : XsOk P (e :: tr) lo hi xs) : ∀ e' ∈ tr, isNew P e' → xs e'.H.nx = e'.x := fun e' he' hn => h.at_ e' (List.mem_cons_of_mem _ he') hn
/-- An operation that does not act leaves what is known. -/
theorem hat_step {e : Ent} {f1 : Fr} {H1 : AH} (h : EntOk P ops e f1 H1) (hc : isCh P e = false) {xs : HF} (hx : isNew P e → xs e.H.nx = e.x) (hk : HOk e.H) : HOk H1 ∧ ∀ b, b < mH → hat xs H1 b = hat xs e.H b := by
  cases hr : e.ran with
  | false =>
    rw [(h.skip hr).2.2]
    exact ⟨hk, fun _ _ => rfl⟩
  | true =>
    cases hkd : kindOf P e.o.op with
    | pure => rw [h.pure hr hkd]; exact ⟨hk, fun _ _ => rfl⟩
    | read => rw [h.read hr hkd]; exact ⟨hk, fun _ _ => rfl⟩
    | new =>
      obtain ⟨x, hxe, hroom, rfl⟩ := h.new hr hkd
      have hlt := AH.room_lt hroom
      refine ⟨hk.grown x hlt, fun b hb => ?_⟩
      have hxs := hx ⟨hr, hkd⟩
      unfold hat
      by_cases h1 : b < e.H.nx
      · rw [if_pos h1, if_pos (show b < (e.H.grown x).nx from by rw [AH.nx_grown]; omega), AH.get_grown e.H x b hlt hb, if_neg (by omega)]
      · by_cases h2 : b = e.H.nx
        · subst h2
          rw [if_neg h1, if_pos (show e.H.nx < (e.H.grown x).nx from by rw [AH.nx_grown]; omega), AH.get_grown e.H x _ hlt hb, if_pos rfl, hxs, hxe]
        · rw [if_neg h1, if_neg (show ¬ b < (e.H.grown x).nx from by rw [AH.nx_grown]; omega)]
    | chain => simp [isCh, hr, hkd, Kd.isChain] at hc
/-- The next time. -/
theorem Tr.next {b : Array Nat} {xs : HF} {l : List Oper} {f f' : Fr} {H H' : AH} {tr : List Ent} (t : Tr P ops l f H tr f' H') (hx : ∀ e ∈ tr, isNew P e → xs e.H.nx = e.x) (hk : HOk H) : ∀ i, ∃ E nxt rest, eps P b i tr H' = ⟨E, nxt⟩ :: rest ∧
    HOk E ∧ H.nx ≤ E.nx ∧ (∀ b, b < mH → hat xs E b = hat xs H b) ∧
    ((nxt = none ∧ E = H' ∧ ∀ e ∈ tr, isCh P e = false) ∨
     ∃ j e, nxt = some (i + j, b.getD (i + j) 0) ∧ tr[j]? = some e ∧ isCh P e = true ∧ E = e.H ∧ ∀ j' e', j' < j → tr[j']? = some e' → isCh P e' = false) := by
  induction t with
  | nil f H => intro i; exact ⟨H, none, [], rfl, hk, Nat.le_refl _, fun _ _ => rfl, .inl ⟨rfl, rfl, fun e he => by cases he⟩⟩
  | @cons e l tr f1 f' H1 H' h t ih =>
    intro i
    cases hc : isCh P e with
    | true =>
      refine ⟨e.H, some (i, b.getD i 0), eps P b (i + 1) tr H', by simp only [eps, hc], hk, Nat.le_refl _, fun _ _ => rfl, .inr ⟨0, e, rfl, rfl, hc, rfl, fun j' e' hj => by omega⟩⟩
    | false =>
      obtain ⟨hk1, hh⟩ := hat_step h hc (hx e List.mem_cons_self) hk
      obtain ⟨E, nxt, rest, h1, h2, h3, h4, h5⟩ := ih (fun e' he' hn => hx e' (List.mem_cons_of_mem _ he') hn) hk1 (i + 1)
      refine ⟨E, nxt, rest, by simp only [eps, hc]; exact h1, h2, Nat.le_trans h.mono h3, fun b hb => (h4 b hb).trans (hh b hb), ?_⟩
      rcases h5 with ⟨h6, h7, h8⟩ | ⟨j, e', h6, h7, h8, h9, h10⟩
      · refine .inl ⟨h6, h7, fun e' he' => ?_⟩
        cases he' with
        | head => exact hc
        | tail _ he' => exact h8 e' he'
      · refine .inr ⟨j + 1, e', by rw [h6, show i + 1 + j = i + (j + 1) from by omega], by simpa using h7, h8, h9, fun j' e'' hj hj' => ?_⟩
        cases j' with
        | zero => simp at hj'; subst hj'; exact hc
        | succ j' => exact h10 j' e'' (by omega) (by simpa using hj')
/-- The times before a place. -/
theorem eps_split {b : Array Nat} {H' : AH} : ∀ (tr : List Ent) (i p : Nat), p ≤ tr.length → ∃ A, eps P b i tr H' = A ++ eps P b (i + p) (tr.drop p) H' ∧
    ∀ ep ∈ A, ∃ j e, j < p ∧ tr[j]? = some e ∧ isCh P e = true ∧ ep.nxt = some (i + j, b.getD (i + j) 0)
  | tr, i, 0, _ => ⟨[], by simp, fun ep h => by cases h⟩
  | [], i, p + 1, h => by simp at h
  | e :: tr, i, p + 1, h => by
    obtain ⟨A, h1, h2⟩ := eps_split (b := b) (H' := H') tr (i + 1) p (by simpa using h)
    have hA : ∀ ep ∈ A, ∃ j e', j < p + 1 ∧ (e :: tr)[j]? = some e' ∧ isCh P e' = true ∧ ep.nxt = some (i + j, b.getD (i + j) 0) := by
      intro ep hep
      obtain ⟨j, e', g1, g2, g3, g4⟩ := h2 ep hep
      exact ⟨j + 1, e', by omega, by simpa using g2, g3, by rw [g4, show i + 1 + j = i + (j + 1) from by omega]⟩
    have hdrop : eps P b (i + 1 + p) (tr.drop p) H' = eps P b (i + (p + 1)) ((e :: tr).drop (p + 1)) H' := by rw [show i + 1 + p = i + (p + 1) from by omega]; rfl
    cases hc : isCh P e with
    | true =>
      refine ⟨⟨e.H, some (i, b.getD i 0)⟩ :: A, by simp only [eps, hc]; rw [h1, hdrop]; rfl, fun ep hep => ?_⟩
      cases hep with
      | head => exact ⟨0, e, by omega, rfl, hc, rfl⟩
      | tail _ hep => exact hA ep hep
    | false => exact ⟨A, by simp only [eps, hc]; rw [h1, hdrop], hA⟩
end
end Go.Ev
