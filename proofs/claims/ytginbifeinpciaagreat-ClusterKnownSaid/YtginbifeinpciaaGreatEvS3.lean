/- Worlds: how a state of the abstract machine stands for one of the model's, and what a step may turn. -/
import Derived.Test.YtginbifeinpciaaGreatEvS2
namespace Go.Ev
open Go

/-- The loop's record stands for one in memory. -/
def TRel (m : BM) (nt : Nat) (tm : FT) (tmps : Array Value) : Prop :=
  tmps.size = nt ∧ nt ≤ 256 ∧ ∀ t, VRel m (tm.get t) (tmps.getD t undef)
def LoopOk (m : BM) (x : ALoop) (L : Loop) : Prop :=
  L.state = x.st ∧ L.pending = x.pending ∧ TRel m x.nt x.tm L.tmps ∧ L.params = x.params ∧ L.assign = x.assign ∧ L.body = x.body ∧ ∃ cb, m x.defers = some cb ∧ L.defers = cb.blk
/-- A key of a map: a word, or a number of a kind. -/
def KeyK (κ : Option IntKind) : AV → Prop
  | .str _ => κ = none
  | .int j _ => κ = some j
  | _ => False
def MapOk (m : BM) (es : List (AV × AV)) (ces : Array MapEntry) : Prop :=
  ∃ l : List MapEntry, l.Perm ces.toList ∧ (∃ κ, ∀ e ∈ es, KeyK κ e.1) ∧ LRel m (es.map (·.1)) (l.map (·.key)) ∧ LRel m (es.map (·.2)) (l.map (·.val)) ∧ es.Pairwise (fun a b => a.1 ≠ b.1)
/-- The stamps of a map's entries: each below the clock, none twice. -/
def BornOk (ces : Array MapEntry) (clock : Nat) : Prop := (∀ x ∈ ces.toList, x.born < clock) ∧ (ces.toList.map (·.born)).Nodup
def CellsOk (m : BM) (l : List AV) (cb : CB) (w : World) : Prop :=
  ∃ c e lo hi, w.heap[cb.blk]? = some (.cells c e (lo, hi)) ∧ cb.base + cb.room ≤ c.size ∧ (∀ i, i < cb.room → ¬ (lo ≤ cb.base + i ∧ cb.base + i < hi)) ∧
    ∀ (i : Nat) (v : AV), l[i]? = some v → ∃ u, c[cb.base + i]? = some u ∧ VRel m v u
def BlkOk (m : BM) (x : ABlk) (cb : CB) (w : World) : Prop :=
  match x with
  | .cells sl sz l => cb.n = l.length ∧ cb.n ≤ cb.room ∧ cb.sz = sz ∧ (sl = false → cb.room = cb.n) ∧ CellsOk m l cb w
  | .loop x => cb.base = 0 ∧ cb.room = 1 ∧ ∃ L, w.heap[cb.blk]? = some (.loop L) ∧ LoopOk m x L
  | .deferred o => cb.base = 0 ∧ cb.room = 1 ∧ w.heap[cb.blk]? = some (.deferred (match o with | true => some [] | false => none))
  | .map es => cb.base = 0 ∧ cb.room = 1 ∧ ∃ ces clock, w.heap[cb.blk]? = some (.map ces clock) ∧ MapOk m es ces ∧ BornOk ces clock

abbrev HF := Nat → Option ABlk
def Owned (m : BM) (h : HF) (B i : Nat) : Prop := ∃ b x cb, h b = some x ∧ m b = some cb ∧ cb.blk = B ∧ cb.base ≤ i ∧ i < cb.base + cb.room
structure Rel (m : BM) (h : HF) (w : World) : Prop where
  dom : ∀ b cb, m b = some cb → b < mH ∧ cb.blk < w.heap.size
  live : ∀ b x cb, h b = some x → m b = some cb → BlkOk m x cb w
  apart : ∀ b b' x x' cb cb', b ≠ b' → h b = some x → h b' = some x' → m b = some cb → m b' = some cb' → cb.blk = cb'.blk → ∀ i, ¬ (cb.base ≤ i ∧ i < cb.base + cb.room ∧ cb'.base ≤ i ∧ i < cb'.base + cb'.room)
/-- What a step may turn: what it owns, and new memory. -/
structure Step (m : BM) (h : HF) (nx : Nat) (w : World) (m' : BM) (h' : HF) (nx' : Nat) (w' : World) : Prop where
  ext : Ext m m'
  ids : ∀ b, m b = none → m' b ≠ none → nx ≤ b ∧ b < nx'
  mono : nx ≤ nx'
  size : w.heap.size ≤ w'.heap.size
  tape : w'.tape = w.tape
  os : w'.os = w.os
  output : w'.output = w.output
  cells : ∀ B c e f, w.heap[B]? = some (.cells c e f) → ∃ c', w'.heap[B]? = some (.cells c' e f) ∧ c'.size = c.size ∧ ∀ i, ¬ Owned m h B i → c'[i]? = c[i]?
  objs : ∀ B o, w.heap[B]? = some o → (∀ c e f, o ≠ .cells c e f) → ¬ Owned m h B 0 → w'.heap[B]? = some o
  grow : ∀ B i, Owned m' h' B i → Owned m h B i ∨ w.heap.size ≤ B

theorem lt_of_get {α : Type} {a : Array α} {i : Nat} {x : α} (h : a[i]? = some x) : i < a.size := by
  rcases Nat.lt_or_ge i a.size with h1 | h1
  · exact h1
  · rw [Array.getElem?_eq_none h1] at h; cases h
theorem Step.refl (m : BM) (h : HF) (nx : Nat) (w : World) : Step m h nx w m h nx w :=
  ⟨.refl m, fun _ h1 h2 => absurd h1 h2, Nat.le_refl _, Nat.le_refl _, rfl, rfl, rfl, fun _ c _ _ h => ⟨c, h, rfl, fun _ _ => rfl⟩, fun _ _ h _ _ => h, fun _ _ h => .inl h⟩
theorem Step.trans {m m' m2 : BM} {h h' h2 : HF} {nx nx' nx2 : Nat} {w w' w2 : World} (s : Step m h nx w m' h' nx' w') (t : Step m' h' nx' w' m2 h2 nx2 w2) : Step m h nx w m2 h2 nx2 w2 where
  ext := s.ext.trans t.ext
  ids b h1 h2 := by
    cases hb : m' b with
    | none => obtain ⟨h3, h4⟩ := t.ids b hb h2; exact ⟨Nat.le_trans s.mono h3, h4⟩
    | some cb => obtain ⟨h3, h4⟩ := s.ids b h1 (by rw [hb]; exact Option.some_ne_none cb); exact ⟨h3, Nat.lt_of_lt_of_le h4 t.mono⟩
  mono := Nat.le_trans s.mono t.mono
  size := Nat.le_trans s.size t.size
  tape := t.tape.trans s.tape
  os := t.os.trans s.os
  output := t.output.trans s.output
  cells B c e f h1 := by
    obtain ⟨c1, e1, z1, k1⟩ := s.cells B c e f h1
    obtain ⟨c2, e2, z2, k2⟩ := t.cells B c1 e f e1
    refine ⟨c2, e2, z2.trans z1, fun i hi => (k2 i ?_).trans (k1 i hi)⟩
    intro ho
    rcases s.grow B i ho with h3 | h3
    · exact hi h3
    · have := lt_of_get h1; omega
  objs B o h1 h2 h3 := by
    refine t.objs B o (s.objs B o h1 h2 h3) h2 ?_
    intro ho
    rcases s.grow B 0 ho with h4 | h4
    · exact h3 h4
    · have := lt_of_get h1; omega
  grow B i ho := by
    rcases t.grow B i ho with h1 | h1
    · exact s.grow B i h1
    · exact .inr (Nat.le_trans s.size h1)

/-! What hangs on the heap alone -/
theorem BlkOk.of_heap {m m' : BM} {x : ABlk} {cb : CB} {w w' : World} (hm : Ext m m') (h : BlkOk m x cb w) (hw : w'.heap[cb.blk]? = w.heap[cb.blk]?) : BlkOk m' x cb w' := by
  cases x with
  | cells sl sz l =>
    obtain ⟨h1, h2, h3, h4, c, e, lo, hi, h5, h6, h7, h8⟩ := h
    exact ⟨h1, h2, h3, h4, c, e, lo, hi, hw.trans h5, h6, h7, fun i v hv => let ⟨u, hu, hr⟩ := h8 i v hv; ⟨u, hu, hr.mono hm⟩⟩
  | loop x =>
    obtain ⟨h1, h2, L, h3, h4, h5, ⟨h6, h6', h6''⟩, h7, h8, h9, cd, h10, h11⟩ := h
    exact ⟨h1, h2, L, hw.trans h3, h4, h5, ⟨h6, h6', fun t => (h6'' t).mono hm⟩, h7, h8, h9, cd, hm _ _ h10, h11⟩
  | deferred o => exact ⟨h.1, h.2.1, hw.trans h.2.2⟩
  | map es =>
    obtain ⟨h1, h2, ces, k, h3, ⟨l, hp, hk, ha, hb, hd⟩, hbn⟩ := h
    exact ⟨h1, h2, ces, k, hw.trans h3, ⟨l, hp, hk, ha.mono hm, hb.mono hm, hd⟩, hbn⟩
theorem Rel.of_heap {m : BM} {h : HF} {w w' : World} (r : Rel m h w) (hw : w'.heap = w.heap) : Rel m h w' :=
  ⟨fun b cb e => by rw [hw]; exact r.dom b cb e, fun b x cb h1 h2 => (r.live b x cb h1 h2).of_heap (.refl m) (by rw [hw]), r.apart⟩
theorem Step.of_heap {m : BM} {h : HF} {nx : Nat} {w w' : World} (hw : w'.heap = w.heap) (ht : w'.tape = w.tape) (ho : w'.os = w.os) (hu : w'.output = w.output) : Step m h nx w m h nx w' :=
  ⟨.refl m, fun _ h1 h2 => absurd h1 h2, Nat.le_refl _, by rw [hw]; exact Nat.le_refl _, ht, ho, hu, fun _ c _ _ h => ⟨c, by rw [hw]; exact h, rfl, fun _ _ => rfl⟩, fun _ _ h _ _ => by rw [hw]; exact h, fun _ _ h => .inl h⟩
/-- A relation knows its heap only at what it holds. -/
theorem Rel.sub {m : BM} {h h' : HF} {w : World} (r : Rel m h w) (hs : ∀ b x, h' b = some x → m b ≠ none → h b = some x) : Rel m h' w :=
  ⟨r.dom, fun b x cb h1 h2 => r.live b x cb (hs b x h1 (by rw [h2]; exact Option.some_ne_none cb)) h2,
   fun b b' x x' cb cb' h0 h1 h2 h3 h4 => r.apart b b' x x' cb cb' h0 (hs b x h1 (by rw [h3]; exact Option.some_ne_none cb)) (hs b' x' h2 (by rw [h4]; exact Option.some_ne_none cb')) h3 h4⟩

/-! A new block -/
def BM.upd (m : BM) (b : Nat) (cb : CB) : BM := fun j => if j = b then some cb else m j
theorem BM.upd_same (m : BM) (b : Nat) (cb : CB) : m.upd b cb b = some cb := by simp [BM.upd]
theorem BM.upd_ext {m : BM} {b : Nat} {cb : CB} (h : m b = none) : Ext m (m.upd b cb) := fun j c e => by
  unfold BM.upd
  by_cases hj : j = b
  · subst hj; rw [h] at e; cases e
  · rw [if_neg hj]; exact e
def pushed (w : World) (o : Obj) (d : Nat) : World := { w with heap := w.heap.push o, drawn := d }
theorem pushed_old {w : World} {o : Obj} {d B : Nat} (h : B < w.heap.size) : (pushed w o d).heap[B]? = w.heap[B]? := by
  show (w.heap.push o)[B]? = _
  rw [Array.getElem?_push, if_neg (by omega)]
theorem pushed_new {w : World} {o : Obj} {d : Nat} : (pushed w o d).heap[w.heap.size]? = some o := by
  show (w.heap.push o)[w.heap.size]? = _
  simp
theorem Rel.new {m : BM} {h h' : HF} {w : World} {b nx : Nat} {x : ABlk} {cb : CB} {o : Obj} {d : Nat} (r : Rel m h w) (hb : b < mH) (hnx : b = nx) (hm : m b = none) (hcb : cb.blk = w.heap.size)
    (hh : ∀ j, j < mH → h' j = if j = b then some x else h j) (hx : BlkOk (m.upd b cb) x cb (pushed w o d)) :
    Rel (m.upd b cb) h' (pushed w o d) ∧ Step m h nx w (m.upd b cb) h' (nx + 1) (pushed w o d) := by
  have hsz : (pushed w o d).heap.size = w.heap.size + 1 := by show (w.heap.push o).size = _; simp
  have hdom : ∀ j c, (m.upd b cb) j = some c → j < mH ∧ (j = b ∧ c = cb ∨ j ≠ b ∧ m j = some c) := by
    intro j c e
    unfold BM.upd at e
    by_cases hj : j = b
    · rw [if_pos hj] at e; injection e with e; exact ⟨by omega, .inl ⟨hj, e.symm⟩⟩
    · rw [if_neg hj] at e; exact ⟨(r.dom j c e).1, .inr ⟨hj, e⟩⟩
  refine ⟨⟨fun j c e => ?_, fun j y c h1 h2 => ?_, fun j j' y y' c c' h0 h1 h2 h3 h4 h5 => ?_⟩, ⟨BM.upd_ext hm, fun j h1 h2 => ?_, Nat.le_succ _, by omega, rfl, rfl, rfl, fun B c e f h1 => ?_, fun B q h1 h2 h3 => ?_, fun B i ho => ?_⟩⟩
  · obtain ⟨h1, h2⟩ := hdom j c e
    refine ⟨h1, ?_⟩
    rcases h2 with ⟨_, rfl⟩ | ⟨_, h2⟩
    · omega
    · have := (r.dom j c h2).2; omega
  · obtain ⟨k1, k2⟩ := hdom j c h2
    rw [hh j k1] at h1
    rcases k2 with ⟨rfl, rfl⟩ | ⟨hj, k2⟩
    · rw [if_pos rfl] at h1; injection h1 with h1; subst h1; exact hx
    · rw [if_neg hj] at h1
      exact (r.live j y c h1 k2).of_heap (BM.upd_ext hm) (pushed_old (r.dom j c k2).2)
  · obtain ⟨k1, k2⟩ := hdom j c h3
    obtain ⟨k3, k4⟩ := hdom j' c' h4
    rw [hh j k1] at h1; rw [hh j' k3] at h2
    rcases k2 with ⟨rfl, rfl⟩ | ⟨hj, k2⟩
    · rcases k4 with ⟨rfl, rfl⟩ | ⟨hj', k4⟩
      · exact absurd rfl h0
      · have := (r.dom j' c' k4).2; omega
    · rcases k4 with ⟨rfl, rfl⟩ | ⟨hj', k4⟩
      · have := (r.dom j c k2).2; omega
      · rw [if_neg hj] at h1; rw [if_neg hj'] at h2
        exact r.apart j j' y y' c c' h0 h1 h2 k2 k4 h5
  · unfold BM.upd at h2
    by_cases hj : j = b
    · omega
    · rw [if_neg hj] at h2; exact absurd h1 h2
  · exact ⟨c, (pushed_old (lt_of_get h1)).trans h1, rfl, fun _ _ => rfl⟩
  · exact (pushed_old (lt_of_get h1)).trans h1
  · obtain ⟨j, y, c, h1, h2, h3, h4, h5⟩ := ho
    obtain ⟨k1, k2⟩ := hdom j c h2
    rw [hh j k1] at h1
    rcases k2 with ⟨rfl, rfl⟩ | ⟨hj, k2⟩
    · right; omega
    · rw [if_neg hj] at h1; exact .inl ⟨j, y, c, h1, k2, h3, h4, h5⟩

/-! A block that is turned -/
def turned (w : World) (B : Nat) (o : Obj) : World := { w with heap := w.heap.setIfInBounds B o }
theorem turned_other {w : World} {B C : Nat} {o : Obj} (h : C ≠ B) : (turned w B o).heap[C]? = w.heap[C]? := by
  show (w.heap.setIfInBounds B o)[C]? = _
  rw [Array.getElem?_setIfInBounds_ne (Ne.symm h)]
theorem turned_same {w : World} {B : Nat} {o : Obj} (h : B < w.heap.size) : (turned w B o).heap[B]? = some o := by
  show (w.heap.setIfInBounds B o)[B]? = _
  rw [Array.getElem?_setIfInBounds_self_of_lt h]
theorem turned_size {w : World} {B : Nat} {o : Obj} : (turned w B o).heap.size = w.heap.size := by
  show (w.heap.setIfInBounds B o).size = _
  simp
/-- An object that is owned is turned into another one. -/
theorem Rel.obj {m : BM} {h h' : HF} {w : World} {b nx : Nat} {x x' : ABlk} {cb : CB} {o : Obj} (r : Rel m h w) (hm : m b = some cb) (hx : h b = some x) (hbase : cb.base = 0) (hroom : cb.room = 1)
    (hnc : ∀ c e f, w.heap[cb.blk]? ≠ some (.cells c e f)) (hh : ∀ j, j < mH → h' j = if j = b then some x' else h j) (hx' : BlkOk m x' cb (turned w cb.blk o)) :
    Rel m h' (turned w cb.blk o) ∧ Step m h nx w m h' nx (turned w cb.blk o) := by
  have hb := r.dom b cb hm
  have hother : ∀ j y c, j ≠ b → h j = some y → m j = some c → c.blk ≠ cb.blk := by
    intro j y c hj h1 h2 he
    have hc := r.live j y c h1 h2
    have ha := r.apart j b y x c cb hj h1 hx h2 hm he 0
    cases y with
    | cells sl sz l =>
      obtain ⟨_, _, _, _, c1, e1, lo, hi, h5, _⟩ := hc
      rw [he] at h5
      exact hnc _ _ _ h5
    | loop q => have h3 := hc.1; have h4 := hc.2.1; omega
    | deferred q => have h3 := hc.1; have h4 := hc.2.1; omega
    | map q => have h3 := hc.1; have h4 := hc.2.1; omega
  refine ⟨⟨fun j c e => ?_, fun j y c h1 h2 => ?_, fun j j' y y' c c' h0 h1 h2 h3 h4 h5 => ?_⟩, ⟨.refl m, fun j h1 h2 => absurd h1 h2, Nat.le_refl _, by rw [turned_size]; exact Nat.le_refl _, rfl, rfl, rfl, fun B c e f h1 => ?_, fun B q h1 h2 h3 => ?_, fun B i ho => ?_⟩⟩
  · rw [turned_size]; exact r.dom j c e
  · rw [hh j (r.dom j c h2).1] at h1
    by_cases hj : j = b
    · subst hj; rw [if_pos rfl] at h1; injection h1 with h1; subst h1; rw [hm] at h2; injection h2 with h2; subst h2; exact hx'
    · rw [if_neg hj] at h1
      exact (r.live j y c h1 h2).of_heap (.refl m) (turned_other (hother j y c hj h1 h2))
  · have e1 : ∃ z, h j = some z := by
      rw [hh j (r.dom j c h3).1] at h1
      by_cases hj : j = b
      · subst hj; exact ⟨x, hx⟩
      · rw [if_neg hj] at h1; exact ⟨y, h1⟩
    have e2 : ∃ z, h j' = some z := by
      rw [hh j' (r.dom j' c' h4).1] at h2
      by_cases hj : j' = b
      · subst hj; exact ⟨x, hx⟩
      · rw [if_neg hj] at h2; exact ⟨y', h2⟩
    obtain ⟨z, e1⟩ := e1; obtain ⟨z', e2⟩ := e2
    exact r.apart j j' z z' c c' h0 e1 e2 h3 h4 h5
  · by_cases hB : B = cb.blk
    · subst hB; exact absurd h1 (hnc _ _ _)
    · exact ⟨c, (turned_other hB).trans h1, rfl, fun _ _ => rfl⟩
  · by_cases hB : B = cb.blk
    · subst hB; exact absurd ⟨b, x, cb, hx, hm, rfl, by omega, by omega⟩ h3
    · exact (turned_other hB).trans h1
  · obtain ⟨j, y, c, h1, h2, h3, h4, h5⟩ := ho
    rw [hh j (r.dom j c h2).1] at h1
    by_cases hj : j = b
    · subst hj; exact .inl ⟨j, x, c, hx, h2, h3, h4, h5⟩
    · rw [if_neg hj] at h1; exact .inl ⟨j, y, c, h1, h2, h3, h4, h5⟩
end Go.Ev
