/- What a run without primitives comes to, the call comes to; a closed call leaves all as it was. -/
import Derived.Test.YtginbifeinpciaaGreatEvS37
namespace Go.Ev
open Go Go.RowKit Go.ChangeMaps

section
variable {P : Program}
def noPrim : FuncId → Option Prim := fun _ => none
theorem noPrim_ok : PrimOk P noPrim := fun _ _ _ _ _ _ h => by cases h
def pairR : AV → AH → Option (AV × AH) := fun v H => some (v, H)
theorem calls_of_ev (hp : Plain P) (hm : P.follows .mixedOrders = true) {prim : FuncId → Option Prim} (hpr : PrimOk P prim) {m n : Nat} {g : FuncId} {args : List AV} {H H' : AH} {v : AV} (h : ev P prim m n (.call g args H) pairR = some (v, H')) :
    H.nx ≤ H'.nx ∧ CallS P g args H v H' := by
  obtain ⟨v1, H1, h1, h2, h3⟩ := ev_sound (R := AV × AH) hp hm hpr m n _ _ _ h
  have h1 : some (v1, H1) = some (v, H') := h1
  injection h1 with h1
  injection h1 with h4 h5
  subst h4; subst h5
  exact ⟨h2, h3⟩
/-- A closed call that gives a bool: from any state, it leaves the state as it was. -/
theorem closed_call {g : FuncId} {b : Bool} {H1 : AH} (h : CallS P g [] AH.empty (.bool b) H1) (H : AH) : CallS P g [] H (.bool b) H := by
  intro N m w us hN st hla
  have hla' : LRel (fun _ => none) [] us.toList := by
    generalize us.toList = l at hla
    cases hla
    exact .nil
  obtain ⟨nx, w1, h4, h5⟩ := h H1.nx (fun _ => none) w us (Nat.le_refl _) (st_empty _ w) hla'
  refine ⟨nx, w1, h4, NextS.mono (fun v w' => ?_) h5⟩
  rintro ⟨m', s, _, hr⟩
  have hbl := below_of_step s
  have hsz : w.heap.size ≤ w'.heap.size := hbl.size
  refine ⟨m, ⟨.refl m, fun _ h1 h2 => absurd h1 h2, Nat.le_refl _, hsz, hbl.tape, hbl.os, hbl.output, fun B c e f h1 => ⟨c, (hbl.block B (lt_of_get h1)).trans h1, rfl, fun _ _ => rfl⟩, fun B o h1 _ _ => (hbl.block B (lt_of_get h1)).trans h1, fun _ _ h => .inl h⟩, ⟨⟨fun j cb e => ?_, fun j x cb h1 h2 => ?_, st.rel.apart⟩, st.ok, st.free⟩, ?_⟩
  · have := st.rel.dom j cb e; exact ⟨this.1, by omega⟩
  · exact (st.rel.live j x cb h1 h2).of_heap (.refl m) (hbl.block _ (st.rel.dom j cb h2).2)
  · cases hr; exact .bool b
/-- A closed function as a primitive. -/
def boolP (b : Bool) : Prim := fun args H => match args with
  | [] => some (.bool b, H)
  | _ => none
theorem boolP_ok {g : FuncId} {b : Bool} {H1 : AH} (h : CallS P g [] AH.empty (.bool b) H1) {args : List AV} {H H' : AH} {v : AV} (hp : boolP b args H = some (v, H')) : H.nx ≤ H'.nx ∧ CallS P g args H v H' := by
  unfold boolP at hp
  split at hp
  · injection hp with hp
    injection hp with h1 h2
    subst h1; subst h2
    exact ⟨Nat.le_refl _, closed_call h H⟩
  · cases hp
theorem prim4_ok {u n s c : Nat} (hu : ∀ {args H v H'}, usedP args H = some (v, H') → H.nx ≤ H'.nx ∧ CallS P u args H v H') (hn : ∀ {args H v H'}, namesP args H = some (v, H') → H.nx ≤ H'.nx ∧ CallS P n args H v H')
    (hs : ∀ {args H v H'}, settleP args H = some (v, H') → H.nx ≤ H'.nx ∧ CallS P s args H v H') (hc : ∀ {args H v H'}, sumP args H = some (v, H') → H.nx ≤ H'.nx ∧ CallS P c args H v H') : PrimOk P (primOf u n s c) := by
  intro g p args H v H' hg hv
  unfold primOf at hg
  split at hg
  · rename_i h
    have h := Nat.eq_of_beq_eq_true h
    injection hg with hg; subst h; subst hg
    exact hu hv
  · split at hg
    · rename_i h
      have h := Nat.eq_of_beq_eq_true h
      injection hg with hg; subst h; subst hg
      exact hn hv
    · split at hg
      · rename_i h
        have h := Nat.eq_of_beq_eq_true h
        injection hg with hg; subst h; subst hg
        exact hs hv
      · split at hg
        · rename_i h
          have h := Nat.eq_of_beq_eq_true h
          injection hg with hg; subst h; subst hg
          exact hc hv
        · cases hg
theorem bool_call (hp : Plain P) (hm : P.follows .mixedOrders = true) {prim : FuncId → Option Prim} (hpr : PrimOk P prim) {m n : Nat} {g : FuncId} {b : Bool} (h : ev P prim m n (.call g [] AH.empty) boolR = some b) : ∃ H1, CallS P g [] AH.empty (.bool b) H1 := by
  obtain ⟨v, H1, h1, h2, h3⟩ := ev_sound (R := Bool) hp hm hpr m n _ _ _ h
  unfold boolR at h1
  split at h1
  · injection h1 with h1
    subst h1
    exact ⟨H1, h3⟩
  · cases h1
/-- One function more. -/
noncomputable def orPrim (k : Nat) (p : Prim) (prim : FuncId → Option Prim) (g : FuncId) : Option Prim :=
  match Nat.beq g k with
  | true => some p
  | false => prim g
theorem orPrim_ok {k : Nat} {p : Prim} {prim : FuncId → Option Prim} (h : ∀ {args H v H'}, p args H = some (v, H') → H.nx ≤ H'.nx ∧ CallS P k args H v H') (hp : PrimOk P prim) : PrimOk P (orPrim k p prim) := by
  intro g q args H v H' hg hv
  unfold orPrim at hg
  split at hg
  · rename_i he
    have he := Nat.eq_of_beq_eq_true he
    injection hg with hg; subst he; subst hg
    exact h hv
  · exact hp g q args H v H' hg hv
/-- Is no function one of the model's own? -/
def plainB (P : Program) : Bool := P.funcs.toList.all fun fn => !(fn.name == "runtime.NumGoroutine")
theorem plain_of (h : plainB P = true) : Plain P := by
  intro g fn hg he
  have hm : fn ∈ P.funcs.toList := by
    rw [← Array.getElem?_toList] at hg
    exact List.mem_of_getElem? hg
  have := List.all_eq_true.1 h fn hm
  rw [he] at this
  simp at this
end
end Go.Ev
