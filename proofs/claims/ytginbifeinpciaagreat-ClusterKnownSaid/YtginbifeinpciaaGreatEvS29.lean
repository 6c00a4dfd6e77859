/- The machine: whatever it comes to, the model comes to. -/
import Derived.Test.YtginbifeinpciaaGreatEvS28
namespace Go.Ev
open Go

section
variable {P : Program} {R : Type}
/-- What a primitive comes to, its function comes to. -/
def PrimOk (P : Program) (prim : FuncId → Option Prim) : Prop := ∀ g p args H v H', prim g = some p → p args H = some (v, H') → H.nx ≤ H'.nx ∧ CallS P g args H v H'
theorem stepK_sound (hp : Plain P) (hm : P.follows .mixedOrders = true) {prim : FuncId → Option Prim} (hpr : PrimOk P prim) {m : Nat} {ih : Ih R} (hi : IhOk P ih) : IhOk P (stepK P prim m ih) := by
  intro q k res h
  cases q with
  | call g args H =>
    have h : callK P m ih g args H k (prim g) = some res := h
    unfold callK at h
    split at h
    · rename_i p hg
      unfold primK at h
      split at h
      · rename_i v H' hv
        exact ⟨v, H', h, hpr g p args H v H' hg hv⟩
      · cases h
    · have h : (cFun P g).run m ih args H k = some res := h
      unfold cFun at h
      split at h
      · rename_i fn hf
        unfold cBody at h
        split at h
        · rename_i c hc
          obtain ⟨v, H', h1, h2⟩ := funC_sound hi hp hf hc (cCode_sound hp hm c) h
          exact ⟨v, H', h1, h2⟩
        · cases h
      · cases h
  | dcall g args H =>
    have h : (cDFun P g).run m ih args H k = some res := h
    unfold cDFun at h
    split at h
    · rename_i fn hf
      unfold cDBody at h
      split at h
      · rename_i c hc
        obtain ⟨v, H', h1, h2⟩ := dfunC_sound hi hp hf hc (cCode_sound hp hm c) h
        exact ⟨v, H', h1, h2⟩
      · cases h
    · cases h
  | round l args H => exact roundK_sound hi (fun c => cCode_sound hp hm c) h
theorem ev_sound (hp : Plain P) (hm : P.follows .mixedOrders = true) {prim : FuncId → Option Prim} (hpr : PrimOk P prim) (m : Nat) : ∀ n, IhOk P (ev (R := R) P prim m n)
  | 0 => fun _ _ _ h => by cases h
  | n + 1 => stepK_sound hp hm hpr (ev_sound hp hm hpr m n)
end
end Go.Ev
