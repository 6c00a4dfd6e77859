/- Frames and the heap of the abstract machine: what a slot, a block holds behind a change. -/
import Derived.Test.YtginbifeinpciaaGreatEvS1
namespace Go.Ev
open Go

def Row.list (r : Row) : List AV := [r.a0, r.a1, r.a2, r.a3, r.a4, r.a5, r.a6, r.a7, r.a8, r.a9, r.a10, r.a11, r.a12, r.a13, r.a14, r.a15]
theorem Row.get_eq (r : Row) (i : Nat) : r.get i = (r.list[i]?).getD Ev.und := by
  match i with
  | 0 => rfl
  | 1 => rfl
  | 2 => rfl
  | 3 => rfl
  | 4 => rfl
  | 5 => rfl
  | 6 => rfl
  | 7 => rfl
  | 8 => rfl
  | 9 => rfl
  | 10 => rfl
  | 11 => rfl
  | 12 => rfl
  | 13 => rfl
  | 14 => rfl
  | 15 => rfl
  | n + 16 => rfl
theorem Row.set_list (v : AV) (r : Row) (j : Nat) : (Row.set v r j).list = r.list.set j v := by
  match j with
  | 0 => rfl
  | 1 => rfl
  | 2 => rfl
  | 3 => rfl
  | 4 => rfl
  | 5 => rfl
  | 6 => rfl
  | 7 => rfl
  | 8 => rfl
  | 9 => rfl
  | 10 => rfl
  | 11 => rfl
  | 12 => rfl
  | 13 => rfl
  | 14 => rfl
  | 15 => rfl
  | n + 16 => rfl
theorem Row.list_length (r : Row) : r.list.length = 16 := rfl
theorem Row.get_set (v : AV) (r : Row) (j i : Nat) (hj : j < 16) : (Row.set v r j).get i = if i = j then v else r.get i := by
  rw [Row.get_eq, Row.get_eq, Row.set_list]
  by_cases h : i = j
  · subst h
    rw [List.getElem?_set_self (by rw [Row.list_length]; exact hj)]
    simp
  · rw [List.getElem?_set_ne (Ne.symm h), if_neg h]
def FT.list (f : FT) : List Row := [f.r0, f.r1, f.r2, f.r3, f.r4, f.r5, f.r6, f.r7, f.r8, f.r9, f.r10, f.r11, f.r12, f.r13, f.r14, f.r15]
theorem FT.row_eq (f : FT) (i : Nat) : f.row i = (f.list[i]?).getD Row.und := by
  match i with
  | 0 => rfl
  | 1 => rfl
  | 2 => rfl
  | 3 => rfl
  | 4 => rfl
  | 5 => rfl
  | 6 => rfl
  | 7 => rfl
  | 8 => rfl
  | 9 => rfl
  | 10 => rfl
  | 11 => rfl
  | 12 => rfl
  | 13 => rfl
  | 14 => rfl
  | 15 => rfl
  | n + 16 => rfl
theorem FT.upd_list (s : Row → Row) (f : FT) (j : Nat) : (FT.upd s f j).list = f.list.set j (s (f.row j)) := by
  match j with
  | 0 => rfl
  | 1 => rfl
  | 2 => rfl
  | 3 => rfl
  | 4 => rfl
  | 5 => rfl
  | 6 => rfl
  | 7 => rfl
  | 8 => rfl
  | 9 => rfl
  | 10 => rfl
  | 11 => rfl
  | 12 => rfl
  | 13 => rfl
  | 14 => rfl
  | 15 => rfl
  | n + 16 => rfl
theorem FT.list_length (f : FT) : f.list.length = 16 := rfl
theorem FT.row_upd (s : Row → Row) (f : FT) (j i : Nat) (hj : j < 16) : (FT.upd s f j).row i = if i = j then s (f.row j) else f.row i := by
  rw [FT.row_eq, FT.row_eq f i, FT.upd_list]
  by_cases h : i = j
  · subst h
    rw [List.getElem?_set_self (by rw [FT.list_length]; exact hj)]
    simp
  · rw [List.getElem?_set_ne (Ne.symm h), if_neg h]
theorem FT.get_put (f : FT) (t : Nat) (v : AV) (j : Nat) (ht : t < 256) : (f.put t v).get j = if j = t then v else f.get j := by
  unfold FT.put FT.get
  show ((FT.upd (fun r => Row.set v r (t % 16)) f (t / 16)).row (j / 16)).get (j % 16) = if j = t then v else (f.row (j / 16)).get (j % 16)
  rw [FT.row_upd _ _ _ _ (by omega)]
  by_cases h1 : j / 16 = t / 16
  · rw [if_pos h1, Row.get_set _ _ _ _ (by omega)]
    by_cases h2 : j % 16 = t % 16
    · rw [if_pos h2, if_pos (by omega)]
    · rw [if_neg h2, if_neg (by omega), h1]
  · rw [if_neg h1, if_neg (by intro h; exact h1 (by rw [h]))]
theorem Row.und_get (i : Nat) : Row.und.get i = Ev.und := by
  match i with
  | 0 => rfl
  | 1 => rfl
  | 2 => rfl
  | 3 => rfl
  | 4 => rfl
  | 5 => rfl
  | 6 => rfl
  | 7 => rfl
  | 8 => rfl
  | 9 => rfl
  | 10 => rfl
  | 11 => rfl
  | 12 => rfl
  | 13 => rfl
  | 14 => rfl
  | 15 => rfl
  | n + 16 => rfl
theorem FT.und_row (i : Nat) : FT.und.row i = Row.und := by
  match i with
  | 0 => rfl
  | 1 => rfl
  | 2 => rfl
  | 3 => rfl
  | 4 => rfl
  | 5 => rfl
  | 6 => rfl
  | 7 => rfl
  | 8 => rfl
  | 9 => rfl
  | 10 => rfl
  | 11 => rfl
  | 12 => rfl
  | 13 => rfl
  | 14 => rfl
  | 15 => rfl
  | n + 16 => rfl
theorem FT.und_get (t : Nat) : FT.und.get t = Ev.und := by
  unfold FT.get
  rw [FT.und_row, Row.und_get]
theorem colG_get (j : Nat) (r : Row) : (colG j).get r = r.get j := by
  match j with
  | 0 => rfl
  | 1 => rfl
  | 2 => rfl
  | 3 => rfl
  | 4 => rfl
  | 5 => rfl
  | 6 => rfl
  | 7 => rfl
  | 8 => rfl
  | 9 => rfl
  | 10 => rfl
  | 11 => rfl
  | 12 => rfl
  | 13 => rfl
  | 14 => rfl
  | 15 => rfl
  | n + 16 => rfl
theorem rowG_get (j : Nat) (f : FT) : (rowG j).get f = f.row j := by
  match j with
  | 0 => rfl
  | 1 => rfl
  | 2 => rfl
  | 3 => rfl
  | 4 => rfl
  | 5 => rfl
  | 6 => rfl
  | 7 => rfl
  | 8 => rfl
  | 9 => rfl
  | 10 => rfl
  | 11 => rfl
  | 12 => rfl
  | 13 => rfl
  | 14 => rfl
  | 15 => rfl
  | n + 16 => rfl
theorem colS_set (j : Nat) (v : AV) (r : Row) : (colS j).set v r = Row.set v r j := by
  match j with
  | 0 => rfl
  | 1 => rfl
  | 2 => rfl
  | 3 => rfl
  | 4 => rfl
  | 5 => rfl
  | 6 => rfl
  | 7 => rfl
  | 8 => rfl
  | 9 => rfl
  | 10 => rfl
  | 11 => rfl
  | 12 => rfl
  | 13 => rfl
  | 14 => rfl
  | 15 => rfl
  | n + 16 => rfl
theorem rowS_upd (j : Nat) (s : Row → Row) (f : FT) : (rowS j).upd s f = FT.upd s f j := by
  match j with
  | 0 => rfl
  | 1 => rfl
  | 2 => rfl
  | 3 => rfl
  | 4 => rfl
  | 5 => rfl
  | 6 => rfl
  | 7 => rfl
  | 8 => rfl
  | 9 => rfl
  | 10 => rfl
  | 11 => rfl
  | 12 => rfl
  | 13 => rfl
  | 14 => rfl
  | 15 => rfl
  | n + 16 => rfl

/-! The heap -/
theorem mH_eq : mH = 2 ^ dH := rfl
theorem AH.get_put (H : AH) (b : Nat) (x : ABlk) (j : Nat) (hb : b < mH) (hj : j < mH) : (H.put b x).get j = if j = b then some x else H.get j := HT.get_put dH H.bl b j (some x) hb hj
theorem AH.get_kill (H : AH) (b j : Nat) (hb : b < mH) (hj : j < mH) : (H.kill b).get j = if j = b then none else H.get j := HT.get_put dH H.bl b j none hb hj
theorem AH.get_grown (H : AH) (x : ABlk) (j : Nat) (hb : H.nx < mH) (hj : j < mH) : (H.grown x).get j = if j = H.nx then some x else H.get j := HT.get_put dH H.bl H.nx j (some x) hb hj
theorem AH.nx_put (H : AH) (b : Nat) (x : ABlk) : (H.put b x).nx = H.nx := rfl
theorem AH.nx_kill (H : AH) (b : Nat) : (H.kill b).nx = H.nx := rfl
theorem AH.nx_grown (H : AH) (x : ABlk) : (H.grown x).nx = H.nx + 1 := rfl
theorem AH.room_lt {H : AH} (h : H.room = true) : H.nx < mH := by
  unfold AH.room at h
  exact Nat.le_of_ble_eq_true h
/-- No block lies at a number that was not given yet. -/
def HOk (H : AH) : Prop := H.nx ≤ mH ∧ ∀ b, H.nx ≤ b → b < mH → H.get b = none
theorem HOk.empty : HOk AH.empty := ⟨Nat.zero_le _, fun b _ _ => HT.get_empty dH b⟩
theorem HOk.lt {H : AH} (h : HOk H) {b : Nat} {x : ABlk} (hb : b < mH) (e : H.get b = some x) : b < H.nx := by
  rcases Nat.lt_or_ge b H.nx with h1 | h1
  · exact h1
  · rw [h.2 b h1 hb] at e; cases e
theorem HOk.put {H : AH} (h : HOk H) {b : Nat} (x : ABlk) (hb : b < H.nx) : HOk (H.put b x) :=
  ⟨h.1, fun j hj hm => by
    have hn : b < mH := Nat.lt_of_lt_of_le hb h.1
    have hj' : H.nx ≤ j := hj
    rw [AH.get_put H b x j hn hm, if_neg (by omega)]
    exact h.2 j hj' hm⟩
theorem HOk.kill {H : AH} (h : HOk H) {b : Nat} (hb : b < mH) : HOk (H.kill b) :=
  ⟨h.1, fun j hj hm => by
    have hj' : H.nx ≤ j := hj
    rw [AH.get_kill H b j hb hm]
    split
    · rfl
    · exact h.2 j hj' hm⟩
theorem HOk.grown {H : AH} (h : HOk H) (x : ABlk) (hr : H.nx < mH) : HOk (H.grown x) :=
  ⟨hr, fun j hj hm => by
    have hj' : H.nx + 1 ≤ j := hj
    rw [AH.get_grown H x j hr hm, if_neg (by omega)]
    exact h.2 j (by omega) hm⟩
end Go.Ev
