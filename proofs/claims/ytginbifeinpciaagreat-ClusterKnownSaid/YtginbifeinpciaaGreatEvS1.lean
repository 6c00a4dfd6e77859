/- What it means that a state of the abstract machine stands for one of the model's. -/
import Derived.Test.YtginbifeinpciaaGreatEvDef
import Derived.OrdersIn
import Derived.RangeFuncLeaves
namespace Go.Ev
open Go

/-- Where a block lies in the model's memory: block, first cell, how many cells are known, how many are its own, the size of an element. -/
structure CB where
  blk : Nat
  base : Nat
  n : Nat
  room : Nat
  sz : Nat
abbrev BM := Nat → Option CB

/-- A slice's capacity: as it is known; or greater, where the block ends with it and has room behind. -/
def SlOk (cb : CB) (o c c' : Nat) : Prop := c' = c ∨ (c < c' ∧ o + c * cb.sz = cb.n ∧ o + c' * cb.sz ≤ cb.room ∧ 0 < cb.sz)

mutual
inductive VRel (m : BM) : AV → Value → Prop where
  | bool (b : Bool) : VRel m (.bool b) (.bool b)
  | int (k : IntKind) (n : Int) : VRel m (.int k n) (.int k n)
  | str (s : List UInt8) : VRel m (.str s) (.string ⟨⟨s⟩⟩)
  | pnil : VRel m .pnil (.pointer none)
  | ptr {b o : Nat} {cb : CB} (h : m b = some cb) : VRel m (.ptr b o) (.pointer (some ⟨cb.blk, cb.base + o, none⟩))
  | snil : VRel m .snil (.slice none 0 0)
  | slice {b o n c c' : Nat} {cb : CB} (h : m b = some cb) (hc : SlOk cb o c c') : VRel m (.slice b o n c) (.slice (some ⟨cb.blk, cb.base + o, none⟩) n c')
  | slice0 {b o : Nat} {cb : CB} (a : Addr) (h : m b = some cb) : VRel m (.slice b o 0 0) (.slice (some a) 0 0)
  | mnil : VRel m .mnil (.map none)
  | map {r : Nat} {cb : CB} (h : m r = some cb) : VRel m (.map r) (.map (some cb.blk))
  | func {f : FuncId} {a c : List AV} {a' c' : Array Value} (ha : LRel m a a'.toList) (hc : LRel m c c'.toList) : VRel m (.func f a c) (.func (.func f) a' c')
  | yield {l : Nat} {cb : CB} (h : m l = some cb) : VRel m (.yield l) (.func (.yield cb.blk) #[] #[])
  | nilFunc : VRel m .nilFunc .nilFunc
  | agg {l : List AV} {c : Array Value} (h : LRel m l c.toList) : VRel m (.agg l) (.agg c)
  | tup {l : List AV} {c : Array Value} (h : LRel m l c.toList) : VRel m (.tup l) (.tuple c)
inductive LRel (m : BM) : List AV → List Value → Prop where
  | nil : LRel m [] []
  | cons {v : AV} {u : Value} {l : List AV} {r : List Value} (h : VRel m v u) (t : LRel m l r) : LRel m (v :: l) (u :: r)
end

/-- m' knows all that m knows. -/
def Ext (m m' : BM) : Prop := ∀ b cb, m b = some cb → m' b = some cb
theorem Ext.refl (m : BM) : Ext m m := fun _ _ h => h
theorem Ext.trans {a b c : BM} (h : Ext a b) (k : Ext b c) : Ext a c := fun x y e => k x y (h x y e)

mutual
theorem VRel.mono {m m' : BM} (h : Ext m m') : ∀ {v : AV} {u : Value}, VRel m v u → VRel m' v u
  | _, _, .bool b => .bool b
  | _, _, .int k n => .int k n
  | _, _, .str s => .str s
  | _, _, .pnil => .pnil
  | _, _, .ptr e => .ptr (h _ _ e)
  | _, _, .snil => .snil
  | _, _, .slice e hc => .slice (h _ _ e) hc
  | _, _, .slice0 a e => .slice0 a (h _ _ e)
  | _, _, .mnil => .mnil
  | _, _, .map e => .map (h _ _ e)
  | _, _, .func a c => .func (LRel.mono h a) (LRel.mono h c)
  | _, _, .yield e => .yield (h _ _ e)
  | _, _, .nilFunc => .nilFunc
  | _, _, .agg l => .agg (LRel.mono h l)
  | _, _, .tup l => .tup (LRel.mono h l)
theorem LRel.mono {m m' : BM} (h : Ext m m') : ∀ {l : List AV} {r : List Value}, LRel m l r → LRel m' l r
  | _, _, .nil => .nil
  | _, _, .cons a t => .cons (VRel.mono h a) (LRel.mono h t)
end

theorem VRel.und (m : BM) : VRel m Ev.und undef := .tup .nil

/-! Lists -/
section
variable {m : BM}
theorem LRel.length : ∀ {l : List AV} {r : List Value}, LRel m l r → l.length = r.length
  | _, _, .nil => rfl
  | _, _, .cons _ t => by simp [t.length]
theorem LRel.append : ∀ {l : List AV} {r : List Value} {l' : List AV} {r' : List Value}, LRel m l r → LRel m l' r' → LRel m (l ++ l') (r ++ r')
  | _, _, _, _, .nil, h => h
  | _, _, _, _, .cons a t, h => .cons a (t.append h)
theorem LRel.get : ∀ {l : List AV} {r : List Value}, LRel m l r → ∀ {i : Nat} {v : AV}, l[i]? = some v → ∃ u, r[i]? = some u ∧ VRel m v u
  | _, _, .nil, i, v, h => by simp at h
  | _, _, .cons a t, 0, v, h => by simp at h; subst h; exact ⟨_, rfl, a⟩
  | _, _, .cons a t, i + 1, v, h => by simpa using t.get (by simpa using h)
theorem LRel.of_get : ∀ {l : List AV} {r : List Value}, l.length = r.length → (∀ (i : Nat) (v : AV), l[i]? = some v → ∃ u, r[i]? = some u ∧ VRel m v u) → LRel m l r
  | [], [], _, _ => .nil
  | v :: l, u :: r, hn, h => by
    obtain ⟨u', hu, hv⟩ := h 0 v rfl
    simp at hu; subst hu
    exact .cons hv (LRel.of_get (by simpa using hn) fun i w hw => by simpa using h (i + 1) w (by simpa using hw))
theorem LRel.drop : ∀ {l : List AV} {r : List Value} (n : Nat), LRel m l r → LRel m (l.drop n) (r.drop n)
  | _, _, 0, h => by simpa using h
  | _, _, n + 1, .nil => by simpa using LRel.nil
  | _, _, n + 1, .cons _ t => by simpa using t.drop n
theorem LRel.take : ∀ {l : List AV} {r : List Value} (n : Nat), LRel m l r → LRel m (l.take n) (r.take n)
  | _, _, 0, _ => by simpa using LRel.nil
  | _, _, n + 1, .nil => by simpa using LRel.nil
  | _, _, n + 1, .cons a t => by simpa using LRel.cons a (t.take n)
theorem LRel.set : ∀ {l : List AV} {r : List Value} (i : Nat) {v : AV} {u : Value}, LRel m l r → VRel m v u → LRel m (l.set i v) (r.set i u)
  | _, _, _, _, _, .nil, _ => by simpa using LRel.nil
  | _, _, 0, _, _, .cons _ t, h => by simpa using LRel.cons h t
  | _, _, i + 1, _, _, .cons a t, h => by simpa using LRel.cons a (t.set i h)
theorem LRel.replicate (n : Nat) {v : AV} {u : Value} (h : VRel m v u) : LRel m (List.replicate n v) (List.replicate n u) := by
  induction n with
  | zero => exact .nil
  | succ n ih => exact .cons h ih
end

/-! The machine's own list functions are the usual ones -/
theorem nth_eq {α : Type} : ∀ (l : List α) (n : Nat), nth l n = l[n]?
  | [], n => by simp [nth]
  | a :: l, 0 => rfl
  | a :: l, n + 1 => by
    have := nth_eq l n
    simp only [List.getElem?_cons_succ]
    exact this
theorem tk_eq {α : Type} : ∀ (n : Nat) (l : List α), tk n l = l.take n
  | 0, l => by rw [List.take_zero]; rfl
  | n + 1, [] => rfl
  | n + 1, a :: l => by
    have := tk_eq n l
    simp only [List.take_succ_cons]
    exact congrArg (a :: ·) this
theorem dr_eq {α : Type} : ∀ (n : Nat) (l : List α), dr n l = l.drop n
  | 0, l => rfl
  | n + 1, [] => rfl
  | n + 1, a :: l => by
    have := dr_eq n l
    simp only [List.drop_succ_cons]
    exact this
theorem len_eq {α : Type} : ∀ (l : List α), len l = l.length
  | [] => rfl
  | a :: l => by
    have := len_eq l
    simp only [List.length_cons]
    exact congrArg Nat.succ this
theorem app_eq {α : Type} : ∀ (l r : List α), app l r = l ++ r
  | [], _ => rfl
  | a :: l, r => congrArg (a :: ·) (app_eq l r)
theorem cut_eq {α : Type} (l : List α) (o n : Nat) : cut l o n = (l.drop o).take n := by simp [cut, tk_eq, dr_eq]
theorem rep_eq {α : Type} (l : List α) : ∀ n, rep l n = (List.replicate n l).flatten
  | 0 => rfl
  | n + 1 => by simp [rep, app_eq, rep_eq l n, List.replicate_succ]
theorem consO_some {α : Type} {a : Option α} {o : Option (List α)} {r : List α} (h : consO a o = some r) : ∃ x l, a = some x ∧ o = some l ∧ r = x :: l := by
  cases a with
  | none => simp [consO] at h
  | some x =>
    cases o with
    | none => simp [consO] at h
    | some l => simp [consO] at h; exact ⟨x, l, rfl, rfl, h.symm⟩
theorem over_eq {α : Type} : ∀ (vs l r : List α), over vs l = some r → vs.length ≤ l.length ∧ r = vs ++ l.drop vs.length
  | [], l, r, h => by simp [over] at h; simp [h]
  | v :: vs, [], r, h => by simp [over] at h
  | v :: vs, a :: l, r, h => by
    simp only [over, Option.map_eq_some_iff] at h
    obtain ⟨x, hx, rfl⟩ := h
    obtain ⟨h1, h2⟩ := over_eq vs l x hx
    exact ⟨by simpa using h1, by simp [h2]⟩
theorem splice_eq {α : Type} : ∀ (o : Nat) (vs l r : List α), splice vs o l = some r → o + vs.length ≤ l.length ∧ r = l.take o ++ (vs ++ l.drop (o + vs.length))
  | 0, vs, l, r, h => by
    obtain ⟨h1, h2⟩ := over_eq vs l r h
    exact ⟨by simpa using h1, by simp [h2]⟩
  | o + 1, vs, [], r, h => by simp [splice] at h
  | o + 1, vs, a :: l, r, h => by
    simp only [splice, Option.map_eq_some_iff] at h
    obtain ⟨x, hx, rfl⟩ := h
    obtain ⟨h1, h2⟩ := splice_eq o vs l x hx
    refine ⟨by simp; omega, ?_⟩
    rw [h2, show o + 1 + vs.length = (o + vs.length) + 1 from by omega]
    simp
theorem splice_length {α : Type} {o : Nat} {vs l r : List α} (h : splice vs o l = some r) : r.length = l.length := by
  obtain ⟨h1, rfl⟩ := splice_eq o vs l r h
  simp; omega
/-- Where a spliced list holds what. -/
theorem splice_get {α : Type} {o : Nat} {vs l r : List α} (h : splice vs o l = some r) (i : Nat) : r[i]? = if o ≤ i ∧ i < o + vs.length then vs[i - o]? else l[i]? := by
  obtain ⟨h1, rfl⟩ := splice_eq o vs l r h
  by_cases h2 : i < o
  · rw [if_neg (by omega), List.getElem?_append_left (by simp; omega), List.getElem?_take_of_lt h2]
  · by_cases h3 : i < o + vs.length
    · rw [if_pos ⟨by omega, h3⟩, List.getElem?_append_right (by simp; omega), List.getElem?_append_left (by simp; omega)]
      congr 1
      simp; omega
    · rw [if_neg (by omega), List.getElem?_append_right (by simp; omega), List.getElem?_append_right (by simp; omega), List.getElem?_drop]
      congr 1
      simp; omega

/-! The tree -/
theorem bit0 (k : Nat) : (Nat.beq (Nat.land k 1) 0 = true ↔ k % 2 = 0) := by
  rw [Nat.beq_eq]
  show k &&& 1 = 0 ↔ _
  rw [Nat.and_one_is_mod]
theorem bit1 {k : Nat} (h : ¬ k % 2 = 0) : Nat.beq (Nat.land k 1) 0 = false := by
  cases hb : Nat.beq (Nat.land k 1) 0 with
  | false => rfl
  | true => exact absurd ((bit0 k).1 hb) h
theorem shr1 (k : Nat) : Nat.shiftRight k 1 = k / 2 := by
  show k >>> 1 = _
  rw [Nat.shiftRight_eq_div_pow]
def HT.lf {n : Nat} (t : HT (n + 1)) : HT n := Prod.fst t
def HT.rt {n : Nat} (t : HT (n + 1)) : HT n := Prod.snd t
def HT.mk {n : Nat} (l r : HT n) : HT (n + 1) := (l, r)
theorem HT.get_succ (n : Nat) (t : HT (n + 1)) (k : Nat) : HT.get (n + 1) t k = if k % 2 = 0 then HT.get n t.lf (k / 2) else HT.get n t.rt (k / 2) := by
  show HT.get n (Bool.rec t.rt t.lf (Nat.beq (Nat.land k 1) 0)) (Nat.shiftRight k 1) = _
  rw [shr1]
  by_cases h : k % 2 = 0
  · rw [if_pos h, (bit0 k).2 h]
  · rw [if_neg h, bit1 h]
theorem HT.put_succ (n : Nat) (t : HT (n + 1)) (k : Nat) (v : Option ABlk) : HT.put (n + 1) t k v = if k % 2 = 0 then HT.mk (HT.put n t.lf (k / 2) v) t.rt else HT.mk t.lf (HT.put n t.rt (k / 2) v) := by
  show (Bool.rec (HT.mk t.lf (HT.put n t.rt (Nat.shiftRight k 1) v)) (HT.mk (HT.put n t.lf (Nat.shiftRight k 1) v) t.rt) (Nat.beq (Nat.land k 1) 0) : HT (n + 1)) = _
  rw [shr1]
  by_cases h : k % 2 = 0
  · rw [if_pos h, (bit0 k).2 h]
  · rw [if_neg h, bit1 h]
theorem HT.lf_mk {n : Nat} (l r : HT n) : (HT.mk l r).lf = l := rfl
theorem HT.rt_mk {n : Nat} (l r : HT n) : (HT.mk l r).rt = r := rfl
theorem HT.get_put : ∀ (n : Nat) (t : HT n) (k j : Nat) (v : Option ABlk), k < 2 ^ n → j < 2 ^ n → HT.get n (HT.put n t k v) j = if j = k then v else HT.get n t j
  | 0, t, k, j, v, hk, hj => by
    simp at hk hj
    subst hk; subst hj
    rfl
  | n + 1, t, k, j, v, hk, hj => by
    have hk2 : k / 2 < 2 ^ n := by rw [Nat.pow_succ] at hk; omega
    have hj2 : j / 2 < 2 ^ n := by rw [Nat.pow_succ] at hj; omega
    rw [HT.put_succ, HT.get_succ, HT.get_succ]
    by_cases h1 : k % 2 = 0
    · rw [if_pos h1, HT.lf_mk, HT.rt_mk, HT.get_put n _ _ _ _ hk2 hj2]
      by_cases h2 : j % 2 = 0
      · rw [if_pos h2, if_pos h2]
        by_cases h3 : j = k
        · rw [if_pos h3, if_pos (by omega)]
        · rw [if_neg h3, if_neg (by omega)]
      · rw [if_neg h2, if_neg h2, if_neg (by omega)]
    · rw [if_neg h1, HT.lf_mk, HT.rt_mk, HT.get_put n _ _ _ _ hk2 hj2]
      by_cases h2 : j % 2 = 0
      · rw [if_pos h2, if_pos h2, if_neg (by omega)]
      · rw [if_neg h2, if_neg h2]
        by_cases h3 : j = k
        · rw [if_pos h3, if_pos (by omega)]
        · rw [if_neg h3, if_neg (by omega)]
theorem HT.get_empty : ∀ (n k : Nat), HT.get n (HT.empty n) k = none
  | 0, _ => rfl
  | n + 1, k => by
    rw [HT.get_succ]
    split <;> exact HT.get_empty n _
end Go.Ev
