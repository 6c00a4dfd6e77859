/- A closed run of the machine, from nothing: the call does what the run came to, and leaves all that was there as it was. -/
import Derived.Test.YtginbifeinpciaaGreatEvS29
import Derived.Below
namespace Go.Ev
open Go Go.RowKit

section
variable {P : Program}
theorem st_empty (N : Nat) (w : World) : St N (fun _ => none) AH.empty w :=
  ⟨⟨fun _ _ h => (by cases h), fun _ _ _ _ h => (by cases h), fun _ _ _ _ _ _ _ _ _ h => (by cases h)⟩, HOk.empty, fun _ _ _ => rfl⟩
theorem below_of_step {H H' : AH} {w w' : World} {m' : BM} (s : Stp (fun _ => none) H w m' H' w') : Below w.heap.size w w' := by
  refine ⟨s.os, s.tape, s.output, s.size, fun k hk => ?_⟩
  have hno : ∀ i, ¬ Owned (fun _ => none) H.get k i := by
    rintro i ⟨b, x, cb, _, h, _⟩
    cases h
  have hg : w.heap[k]? = some w.heap[k] := Array.getElem?_eq_getElem hk
  cases hx : w.heap[k] with
  | cells c e f =>
    rw [hx] at hg
    obtain ⟨c', h1, h2, h3⟩ := s.cells k c e f hg
    rw [h1, hg]
    have : c' = c := by
      apply Array.ext_getElem?
      intro i
      exact h3 i (hno i)
    rw [this]
  | _ =>
    rw [hx] at hg
    rw [hg]
    exact s.objs k _ hg (by intro c e f h; cases h) (hno 0)
def boolR : AV → AH → Option Bool := fun v _ => match v with
  | .bool b => some b
  | _ => none
/-- A closed run. -/
theorem closed_run (hp : Plain P) (hm : P.follows .mixedOrders = true) {prim : FuncId → Option Prim} (hpr : PrimOk P prim) {m n : Nat} {f : FuncId} {fn : Func} (hf : P.funcs[f]? = some fn) {c : Code} (hb : fn.body = some c) {b : Bool} (h : ev P prim m n (.call f [] AH.empty) boolR = some b) (W : World) :
    Calls P f #[] W fun e w' => e = .returned (.bool b) ∧ Below W.heap.size W w' := by
  obtain ⟨v, H', h1, h2, h3⟩ := ev_sound (R := Bool) hp hm hpr m n _ _ _ h
  have hv : v = .bool b := by
    unfold boolR at h1
    split at h1
    · injection h1 with h1; rw [h1]
    · cases h1
  subst hv
  obtain ⟨nx, w1, h4, h5⟩ := h3 H'.nx (fun _ => none) W #[] (Nat.le_refl _) (st_empty _ W) .nil
  rw [callFunc_enter hp hf hb] at h4
  injection h4 with h6 h7
  subst h6; subst h7
  have h5 : CallsIn Fence.wide 0 P f #[] W fun e w' => ∃ v, e = .returned v ∧ Post H'.nx (fun _ => none) AH.empty W (.bool b) H' v w' := h5
  refine (callsIn_wide.1 h5).mono ?_
  rintro e w' ⟨v, rfl, m', hs, _, hr⟩
  cases hr
  exact ⟨rfl, below_of_step hs⟩
end
end Go.Ev
