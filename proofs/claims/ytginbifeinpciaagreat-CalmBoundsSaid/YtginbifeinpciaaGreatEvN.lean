/- An abstract machine for the model's code, and its soundness: part N. -/
import Derived.Test.YtginbifeinpciaaGreatEvM
import Derived.ChangeArms
import Derived.ChangeShapes
/- A run from values without memory; structs of numbers. -/
namespace Go.Ev
open Go Go.RowKit Go.ChangeShapes

section
variable {P : Program}
theorem open_run (hp : Plain P) {f : FuncId} {fn : Func} (hf : P.funcs[f]? = some fn) {c : Code} (hb : fn.body = some c) {args : List AV} {b : Bool} {H' : AH} (h : CallS P f args AH.empty (.bool b) H') (W : World) {us : Array Value} (hl : LRel (fun _ => none) args us.toList) :
    Calls P f us W fun e w' => e = .returned (.bool b) ∧ Below W.heap.size W w' := by
  obtain ⟨nx, w1, h4, h5⟩ := h H'.nx (fun _ => none) W us (Nat.le_refl _) (st_empty _ W) hl
  rw [callFunc_enter hp hf hb] at h4
  injection h4 with h6 h7
  subst h6; subst h7
  have h5 : CallsIn Fence.wide 0 P f us W fun e w' => ∃ v, e = .returned v ∧ Post H'.nx (fun _ => none) AH.empty W (.bool b) H' v w' := h5
  refine (callsIn_wide.1 h5).mono ?_
  rintro e w' ⟨v, rfl, m', hs, _, hr⟩
  cases hr
  exact ⟨rfl, below_of_step hs⟩
def flatB (P : Program) (t : TypeId) (k : Nat → IntKind) : Bool := match P.underlying t with
  | some (.struct fs) => Nat.beq fs.size 13 && Nat.beq (P.cellsOf t) 13 && (List.range 13).all fun i => match fs[i]? with
    | some f => Nat.beq f.offset i && Nat.beq (P.cellsOf f.type) 1 && (match P.underlying f.type with
      | some (.int j) => kEq j (k i)
      | _ => false)
    | none => false
  | _ => false
theorem flat_spec {t : TypeId} {k : Nat → IntKind} (h : flatB P t k = true) : ∃ fs : Array Field, P.underlying t = some (.struct fs) ∧ fs.size = 13 ∧ P.cellsOf t = 13 ∧ ∀ i, i < 13 → ∃ f, fs[i]? = some f ∧ f.offset = i ∧ P.cellsOf f.type = 1 ∧ P.underlying f.type = some (.int (k i)) := by
  unfold flatB at h
  split at h
  · rename_i fs ht
    simp only [Bool.and_eq_true] at h
    obtain ⟨⟨h1, h2⟩, h3⟩ := h
    refine ⟨fs, ht, Nat.eq_of_beq_eq_true h1, Nat.eq_of_beq_eq_true h2, fun i hi => ?_⟩
    have := List.all_eq_true.1 h3 i (List.mem_range.2 hi)
    split at this
    · rename_i f hf
      simp only [Bool.and_eq_true] at this
      obtain ⟨⟨g1, g2⟩, g3⟩ := this
      split at g3
      · rename_i j hj
        exact ⟨f, hf, Nat.eq_of_beq_eq_true g1, Nat.eq_of_beq_eq_true g2, by rw [hj, kEq_iff.1 g3]⟩
      · cases g3
    · cases this
  · cases h
section
variable {H : Type} {enc : TypeId × Value → H}
theorem trod_int_val {W : World} {b : Nat} {sp : Nat → Bool} {hd : Bool} {n : Nat} {t : TypeId} {k : IntKind} {v : Value} {x : DataW H × List MemPlace} (ht : P.underlying t = some (.int k)) (h : DataW.trod enc P W b sp hd n t [v] = some x) : ∃ m, v = .int k m := by
  cases n with
  | zero => simp [DataW.trod] at h
  | succ n =>
    unfold DataW.trod at h
    rw [ht] at h
    cases v with
    | int k' m =>
      simp only at h
      split at h
      · rename_i hk
        exact ⟨m, by rw [hk.1]⟩
      · cases h
    | _ => simp at h
theorem trod_int_any {W W' : World} {b : Nat} {sp sp' : Nat → Bool} {hd : Bool} {n : Nat} {t : TypeId} {k : IntKind} {cs : List Value} (ht : P.underlying t = some (.int k)) : DataW.trod enc P W b sp hd n t cs = DataW.trod enc P W' b sp' hd n t cs := by
  cases n with
  | zero => rfl
  | succ n =>
    unfold DataW.trod
    rw [ht]
    rcases cs with _ | ⟨v, _ | ⟨u, l⟩⟩
    · rfl
    · cases v <;> rfl
    · cases v <;> rfl
theorem mapM_same {α β : Type} {f g : α → Option β} : ∀ {l : List α}, (∀ a ∈ l, f a = g a) → l.mapM f = l.mapM g
  | [], _ => rfl
  | a :: l, h => by
    rw [List.mapM_cons, List.mapM_cons, h a List.mem_cons_self, mapM_same fun x hx => h x (List.mem_cons_of_mem _ hx)]
theorem trod_flat_any {W W' : World} {b : Nat} {sp sp' : Nat → Bool} {hd : Bool} {n : Nat} {t : TypeId} {k : Nat → IntKind} {cs : List Value} (h : flatB P t k = true) : DataW.trod enc P W b sp hd n t cs = DataW.trod enc P W' b sp' hd n t cs := by
  obtain ⟨fs, ht, hs, _, hf⟩ := flat_spec h
  cases n with
  | zero => rfl
  | succ n =>
    have hm : (fs.toList.mapM fun f => DataW.trod enc P W b sp hd n f.type ((cs.drop f.offset).take (P.cellsOf f.type))) = (fs.toList.mapM fun f => DataW.trod enc P W' b sp' hd n f.type ((cs.drop f.offset).take (P.cellsOf f.type))) := by
      refine mapM_same fun f hfm => ?_
      obtain ⟨i, hi, he⟩ := List.mem_iff_getElem.1 hfm
      have hi' : i < 13 := by rw [← hs]; simpa using hi
      obtain ⟨f', h1, _, _, h4⟩ := hf i hi'
      have : f' = f := by
        have h2 : fs.toList[i]? = some f := by rw [List.getElem?_eq_getElem hi, he]
        rw [Array.getElem?_toList, h1] at h2
        injection h2
      subst this
      exact trod_int_any h4
    unfold DataW.trod
    rw [ht]
    simp only [hm]
theorem flat_vals {W : World} {b : Nat} {sp : Nat → Bool} {hd : Bool} {n : Nat} {t : TypeId} {k : Nat → IntKind} {cs : List Value} {x : DataW H × List MemPlace} (h : flatB P t k = true) (hx : DataW.trod enc P W b sp hd n t cs = some x) : ∃ ns : Nat → Int, cs = (List.range 13).map fun i => .int (k i) (ns i) := by
  obtain ⟨fs, ht, hs, hc, hf⟩ := flat_spec h
  obtain ⟨xs, m, _, _, hlen, hxs, hall⟩ := DataW.trod_struct ht hx
  rw [hc] at hlen
  have key : ∀ i, ∃ z : Int, i < 13 → cs[i]? = some (.int (k i) z) := by
    intro i
    by_cases hi : i < 13
    · obtain ⟨f, h1, h2, h3, h4⟩ := hf i hi
      have := hall i f h1
      rw [h2, h3] at this
      have hci : cs[i]? = some cs[i] := List.getElem?_eq_getElem (by omega)
      have htk : (cs.drop i).take 1 = [cs[i]] := by
        rw [List.drop_eq_getElem_cons (by omega)]
        rfl
      have hxi : xs[i]? = some xs[i] := List.getElem?_eq_getElem (by omega)
      rw [htk, hxi] at this
      obtain ⟨z, hz⟩ := trod_int_val h4 this
      exact ⟨z, fun _ => by rw [hci, hz]⟩
    · exact ⟨0, fun h => absurd h hi⟩
  refine ⟨fun i => Classical.choose (key i), List.ext_getElem? fun i => ?_⟩
  by_cases hi : i < 13
  · rw [Classical.choose_spec (key i) hi, List.getElem?_map, List.getElem?_range hi]
    rfl
  · rw [List.getElem?_eq_none (by omega), List.getElem?_eq_none (by simp; omega)]
end
end
end Go.Ev
