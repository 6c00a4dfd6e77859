/- Cells read and written. -/
import Derived.Test.YtginbifeinpciaaGreatEvS3
namespace Go.Ev
open Go

theorem setCell_eq {w : World} {B off : Nat} {v : Value} {c : Array Value} {e : TypeId} {fz : Nat × Nat} (h : w.heap[B]? = some (.cells c e fz)) :
    w.setCell ⟨B, off, none⟩ v = turned w B (.cells (c.setIfInBounds off v) e fz) := by
  unfold World.setCell turned
  congr 1
  apply Array.ext_getElem?
  intro i
  rw [Array.getElem?_modify, Array.getElem?_setIfInBounds]
  by_cases hi : B = i
  · subst hi
    rw [if_pos rfl, if_pos rfl, h, if_pos (lt_of_get h)]
    simp
  · rw [if_neg hi, if_neg hi]
theorem cell?_eq {w : World} {B off : Nat} {c : Array Value} {e : TypeId} {fz : Nat × Nat} (h : w.heap[B]? = some (.cells c e fz)) : w.cell? ⟨B, off, none⟩ = c[off]? := by
  simp [World.cell?, h]
theorem frozen?_eq {w : World} {B off : Nat} {c : Array Value} {e : TypeId} {lo hi : Nat} (h : w.heap[B]? = some (.cells c e (lo, hi))) (hf : ¬ (lo ≤ off ∧ off < hi)) : w.frozen? ⟨B, off, none⟩ = false := by
  simp only [World.frozen?, h]
  simp only [Bool.and_eq_false_iff, decide_eq_false_iff_not]
  by_cases h1 : lo ≤ off
  · right; intro h2; exact hf ⟨h1, h2⟩
  · left; exact h1
theorem add_eq (B off i : Nat) : (⟨B, off, none⟩ : Addr).add i = ⟨B, off + i, none⟩ := by
  unfold Addr.add
  by_cases h : i = 0
  · subst h; simp
  · rw [if_neg h]
theorem turned_turned (w : World) (B : Nat) (o o' : Obj) : turned (turned w B o) B o' = turned w B o' := by
  unfold turned
  simp

theorem run_stores {P : Program} {B off : Nat} {e : TypeId} {lo hi : Nat} : ∀ (us : List Value) (i : Nat) (w : World) (c : Array Value), w.heap[B]? = some (.cells c e (lo, hi)) →
    off + i + us.length ≤ c.size → (∀ j, off + i ≤ j → j < off + i + us.length → ¬ (lo ≤ j ∧ j < hi)) → (∀ u ∈ us, u.oneCell' = true) →
    ∃ c', (storeCells ⟨B, off, none⟩ us i).run P w = .ok () (turned w B (.cells c' e (lo, hi))) ∧ c'.size = c.size ∧
      ∀ j, c'[j]? = if off + i ≤ j ∧ j < off + i + us.length then us[j - (off + i)]? else c[j]?
  | [], i, w, c, h, _, _, _ => by
    refine ⟨c, ?_, rfl, fun j => by rw [if_neg (by simp)]⟩
    have : turned w B (.cells c e (lo, hi)) = w := by
      unfold turned
      congr 1
      apply Array.ext_getElem?
      intro k
      rw [Array.getElem?_setIfInBounds]
      by_cases hk : B = k
      · subst hk; rw [if_pos rfl, if_pos (lt_of_get h), h]
      · rw [if_neg hk]
    rw [this]
    simp [storeCells]
  | u :: us, i, w, c, h, hn, hf, h1 => by
    simp only [List.length_cons] at hn hf
    have hB := lt_of_get h
    have hs : (turned w B (.cells (c.setIfInBounds (off + i) u) e (lo, hi))).heap[B]? = some (.cells (c.setIfInBounds (off + i) u) e (lo, hi)) := turned_same hB
    obtain ⟨c', hr, hz, hc⟩ := run_stores (P := P) (B := B) (off := off) (e := e) (lo := lo) (hi := hi) us (i + 1) _ _ hs (by simp; omega)
      (fun j h2 h3 => hf j (by omega) (by omega)) (fun x hx => h1 x (List.mem_cons_of_mem _ hx))
    refine ⟨c', ?_, by rw [hz]; simp, fun j => ?_⟩
    · have hst : (store ⟨B, off + i, none⟩ u).run P w = .ok () (turned w B (.cells (c.setIfInBounds (off + i) u) e (lo, hi))) := by
        rw [run_store P w _ u .plain (h1 u (by simp)), cell?_eq h]
        have : c[off + i]? = some c[off + i] := Array.getElem?_eq_getElem (by omega)
        rw [this]
        simp only
        rw [frozen?_eq h (hf _ (by omega) (by omega))]
        simp only [Bool.false_eq_true, if_false]
        rw [setCell_eq h]
      show ((store ((⟨B, off, none⟩ : Addr).add i) u) >>= fun _ => storeCells ⟨B, off, none⟩ us (i + 1)).run P w = _
      rw [Sem.run_bind, add_eq, hst]
      simp only [Result.andThen_ok]
      rw [hr, turned_turned]
    · rw [hc j, Array.getElem?_setIfInBounds]
      by_cases h2 : j = off + i
      · subst h2
        rw [if_neg (by omega), if_pos (by omega), if_pos (by omega)]
        simp
      · by_cases h3 : off + (i + 1) ≤ j ∧ j < off + (i + 1) + us.length
        · rw [if_pos h3, if_pos (by simp only [List.length_cons]; omega)]
          have : j - (off + i) = (j - (off + (i + 1))) + 1 := by omega
          rw [this, List.getElem?_cons_succ]
        · rw [if_neg h3, if_neg (by omega), if_neg (by simp only [List.length_cons]; omega)]
theorem run_loadsFrom {P : Program} {B off : Nat} {e : TypeId} {fz : Nat × Nat} {w : World} {c : Array Value} (h : w.heap[B]? = some (.cells c e fz)) : ∀ (n i : Nat) (acc : Array Value),
    off + i + n ≤ c.size → ∃ r, (loadCellsFrom ⟨B, off, none⟩ i n acc).run P w = .ok r w ∧ r.toList = acc.toList ++ (c.toList.drop (off + i)).take n
  | 0, i, acc, _ => ⟨acc, by simp [loadCellsFrom], by simp⟩
  | n + 1, i, acc, hn => by
    obtain ⟨r, hr, hl⟩ := run_loadsFrom (P := P) (off := off) h n (i + 1) (acc.push c[off + i]) (by omega)
    refine ⟨r, ?_, ?_⟩
    · show ((load ((⟨B, off, none⟩ : Addr).add i)) >>= fun v => loadCellsFrom ⟨B, off, none⟩ (i + 1) n (acc.push v)).run P w = _
      rw [Sem.run_bind, add_eq, run_load, cell?_eq h, Array.getElem?_eq_getElem (by omega)]
      simp only [Result.andThen_ok]
      exact hr
    · rw [hl, Array.toList_push, List.append_assoc]
      congr 1
      have : c.toList.drop (off + i) = c[off + i] :: c.toList.drop (off + (i + 1)) := by
        rw [List.drop_eq_getElem_cons (by simp; omega)]
        simp [Nat.add_assoc]
      rw [this]
      simp
theorem run_loads {P : Program} {B off : Nat} {e : TypeId} {fz : Nat × Nat} {w : World} {c : Array Value} (h : w.heap[B]? = some (.cells c e fz)) (n : Nat) (hn : off + n ≤ c.size) :
    ∃ r, (loadCells ⟨B, off, none⟩ n).run P w = .ok r w ∧ r.toList = (c.toList.drop off).take n := by
  obtain ⟨r, hr, hl⟩ := run_loadsFrom (P := P) (off := off) h n 0 #[] (by omega)
  exact ⟨r, hr, by simpa using hl⟩

/-- The cells of an owned block are turned, nothing else. -/
theorem Rel.cells {m : BM} {h h' : HF} {w : World} {b nx : Nat} {sl : Bool} {sz : Nat} {l l' : List AV} {cb : CB} {c c' : Array Value} {e : TypeId} {lo hi : Nat} (r : Rel m h w)
    (hm : m b = some cb) (hx : h b = some (.cells sl sz l)) (hc : w.heap[cb.blk]? = some (.cells c e (lo, hi))) (hz : c'.size = c.size)
    (hout : ∀ i, ¬ (cb.base ≤ i ∧ i < cb.base + cb.room) → c'[i]? = c[i]?) (hl : l'.length = l.length) (hin : ∀ (i : Nat) (v : AV), l'[i]? = some v → ∃ u, c'[cb.base + i]? = some u ∧ VRel m v u)
    (hh : ∀ j, j < mH → h' j = if j = b then some (.cells sl sz l') else h j) :
    Rel m h' (turned w cb.blk (.cells c' e (lo, hi))) ∧ Step m h nx w m h' nx (turned w cb.blk (.cells c' e (lo, hi))) := by
  have hb := r.dom b cb hm
  have hnew : (turned w cb.blk (.cells c' e (lo, hi))).heap[cb.blk]? = some (.cells c' e (lo, hi)) := turned_same hb.2
  obtain ⟨k1, k2, k3, k4, c0, e0, lo0, hi0, k5, k6, k7, k8⟩ := r.live b _ cb hx hm
  rw [hc] at k5
  injection k5 with k5
  injection k5 with k5 k5' k5''
  injection k5'' with k9 k10
  subst k5; subst k5'; subst k9; subst k10
  refine ⟨⟨fun j c e => ?_, fun j y cj h1 h2 => ?_, fun j j' y y' cj cj' h0 h1 h2 h3 h4 h5 => ?_⟩, ⟨.refl m, fun j h1 h2 => absurd h1 h2, Nat.le_refl _, by rw [turned_size]; exact Nat.le_refl _, rfl, rfl, rfl, fun B c1 e1 f1 h1 => ?_, fun B q h1 h2 h3 => ?_, fun B i ho => ?_⟩⟩
  · rw [turned_size]; exact r.dom j c e
  · rw [hh j (r.dom j cj h2).1] at h1
    by_cases hj : j = b
    · subst hj; rw [if_pos rfl] at h1; injection h1 with h1; subst h1; rw [hm] at h2; injection h2 with h2; subst h2
      exact ⟨by rw [hl]; exact k1, k2, k3, k4, c', e, lo, hi, hnew, by rw [hz]; exact k6, k7, hin⟩
    · rw [if_neg hj] at h1
      by_cases hblk : cj.blk = cb.blk
      · have ha' := r.apart j b y _ cj cb hj h1 hx h2 hm hblk
        have hk := r.live j y cj h1 h2
        cases y with
        | cells sl2 sz2 l2 =>
          obtain ⟨q1, q2, q3, q4, c2, e2, lo2, hi2, q5, q6, q7, q8⟩ := hk
          rw [hblk, hc] at q5
          injection q5 with q5
          injection q5 with q5 q5' q5''
          injection q5'' with q9 q10
          subst q5; subst q5'; subst q9; subst q10
          refine ⟨q1, q2, q3, q4, c', e, lo, hi, by rw [hblk]; exact hnew, by rw [hz]; exact q6, q7, fun i v hv => ?_⟩
          obtain ⟨u, hu, hr⟩ := q8 i v hv
          have hi : i < l2.length := by
            rcases Nat.lt_or_ge i l2.length with h6 | h6
            · exact h6
            · rw [List.getElem?_eq_none h6] at hv; cases hv
          have ha := ha' (cj.base + i)
          exact ⟨u, by rw [hout _ (by omega)]; exact hu, hr⟩
        | loop q => obtain ⟨_, _, L, q1, _⟩ := hk; rw [hblk, hc] at q1; cases q1
        | deferred q => have q1 := hk.2.2; rw [hblk, hc] at q1; cases q1
        | map q => obtain ⟨_, _, L, k, q1, _⟩ := hk; rw [hblk, hc] at q1; cases q1
      · exact (r.live j y cj h1 h2).of_heap (.refl m) (turned_other hblk)
  · have e1 : ∃ z, h j = some z := by
      rw [hh j (r.dom j cj h3).1] at h1
      by_cases hj : j = b
      · subst hj; exact ⟨_, hx⟩
      · rw [if_neg hj] at h1; exact ⟨y, h1⟩
    have e2 : ∃ z, h j' = some z := by
      rw [hh j' (r.dom j' cj' h4).1] at h2
      by_cases hj : j' = b
      · subst hj; exact ⟨_, hx⟩
      · rw [if_neg hj] at h2; exact ⟨y', h2⟩
    obtain ⟨z, e1⟩ := e1; obtain ⟨z', e2⟩ := e2
    exact r.apart j j' z z' cj cj' h0 e1 e2 h3 h4 h5
  · by_cases hB : B = cb.blk
    · subst hB
      rw [hc] at h1
      injection h1 with h1
      injection h1 with h1 h1' h1''
      subst h1; subst h1'; subst h1''
      exact ⟨c', hnew, hz, fun i hi => hout i fun h6 => hi ⟨b, _, cb, hx, hm, rfl, h6.1, h6.2⟩⟩
    · exact ⟨c1, (turned_other hB).trans h1, rfl, fun _ _ => rfl⟩
  · by_cases hB : B = cb.blk
    · subst hB; rw [hc] at h1; injection h1 with h1; subst h1; exact absurd rfl (h2 _ _ _)
    · exact (turned_other hB).trans h1
  · obtain ⟨j, y, cj, h1, h2, h3, h4, h5⟩ := ho
    rw [hh j (r.dom j cj h2).1] at h1
    by_cases hj : j = b
    · subst hj; exact .inl ⟨j, _, cj, hx, h2, h3, h4, h5⟩
    · rw [if_neg hj] at h1; exact .inl ⟨j, y, cj, h1, h2, h3, h4, h5⟩

/-- An owned block is given up, and a part of what it owned is a new one's, its cells turned. -/
theorem Rel.regrow {m : BM} {h h' : HF} {w : World} {b b' nx : Nat} {sl : Bool} {sz o n' sz' : Nat} {l l' : List AV} {cb : CB} {c c' : Array Value} {e : TypeId} {lo hi : Nat} (r : Rel m h w)
    (hm : m b = some cb) (hx : h b = some (.cells sl sz l)) (hc : w.heap[cb.blk]? = some (.cells c e (lo, hi))) (hz : c'.size = c.size)
    (ho : o + n' ≤ cb.room) (hl : l'.length = n')
    (hout : ∀ i, ¬ (cb.base ≤ i ∧ i < cb.base + cb.room) → c'[i]? = c[i]?) (hin : ∀ (i : Nat) (v : AV), l'[i]? = some v → ∃ u, c'[cb.base + o + i]? = some u ∧ VRel m v u)
    (hb' : b' < mH) (hnx : b' = nx) (hm' : m b' = none) (hh : ∀ j, j < mH → h' j = if j = b' then some (.cells true sz' l') else if j = b then none else h j) :
    Rel (m.upd b' ⟨cb.blk, cb.base + o, n', cb.room - o, sz'⟩) h' (turned w cb.blk (.cells c' e (lo, hi))) ∧
      Step m h nx w (m.upd b' ⟨cb.blk, cb.base + o, n', cb.room - o, sz'⟩) h' (nx + 1) (turned w cb.blk (.cells c' e (lo, hi))) := by
  have hb := r.dom b cb hm
  have hnew : (turned w cb.blk (.cells c' e (lo, hi))).heap[cb.blk]? = some (.cells c' e (lo, hi)) := turned_same hb.2
  obtain ⟨k1, k2, k3, k4, c0, e0, lo0, hi0, k5, k6, k7, k8⟩ := r.live b _ cb hx hm
  rw [hc] at k5
  injection k5 with k5
  injection k5 with k5 k5' k5''
  injection k5'' with k9 k10
  subst k5; subst k5'; subst k9; subst k10
  generalize hcb' : (⟨cb.blk, cb.base + o, n', cb.room - o, sz'⟩ : CB) = cb' at *
  have hblk' : cb'.blk = cb.blk := by rw [← hcb']
  have hbase' : cb'.base = cb.base + o := by rw [← hcb']
  have hn' : cb'.n = n' := by rw [← hcb']
  have hroom' : cb'.room = cb.room - o := by rw [← hcb']
  have hsz' : cb'.sz = sz' := by rw [← hcb']
  have hdom : ∀ j cj, (m.upd b' cb') j = some cj → j < mH ∧ (j = b' ∧ cj = cb' ∨ j ≠ b' ∧ m j = some cj) := by
    intro j cj e
    unfold BM.upd at e
    by_cases hj : j = b'
    · rw [if_pos hj] at e; injection e with e; exact ⟨by omega, .inl ⟨hj, e.symm⟩⟩
    · rw [if_neg hj] at e; exact ⟨(r.dom j cj e).1, .inr ⟨hj, e⟩⟩
  have hnb : b ≠ b' := fun h6 => by rw [h6, hm'] at hm; cases hm
  have hold : ∀ j y cj, j ≠ b' → h' j = some y → m j = some cj → j ≠ b ∧ h j = some y := by
    intro j y cj hj h1 h2
    rw [hh j (r.dom j cj h2).1, if_neg hj] at h1
    by_cases hjb : j = b
    · rw [if_pos hjb] at h1; cases h1
    · rw [if_neg hjb] at h1; exact ⟨hjb, h1⟩
  refine ⟨⟨fun j cj ej => ?_, fun j y cj h1 h2 => ?_, fun j j' y y' cj cj' h0 h1 h2 h3 h4 h5 => ?_⟩, ⟨BM.upd_ext hm', fun j h1 h2 => ?_, Nat.le_succ _, by rw [turned_size]; exact Nat.le_refl _, rfl, rfl, rfl, fun B c1 e1 f1 h1 => ?_, fun B q h1 h2 h3 => ?_, fun B i hw => ?_⟩⟩
  · rw [turned_size]
    obtain ⟨h1, h2⟩ := hdom j cj ej
    refine ⟨h1, ?_⟩
    rcases h2 with ⟨_, rfl⟩ | ⟨_, h2⟩
    · rw [hblk']; exact hb.2
    · exact (r.dom j cj h2).2
  · obtain ⟨q1, q2⟩ := hdom j cj h2
    rcases q2 with ⟨rfl, rfl⟩ | ⟨hj, q2⟩
    · rw [hh j q1, if_pos rfl] at h1
      injection h1 with h1
      subst h1
      refine ⟨by rw [hn', hl], by omega, hsz', (fun h6 => by cases h6), c', e, lo, hi, by rw [hblk']; exact hnew, by rw [hz]; omega, fun i hi => by rw [hbase', Nat.add_assoc]; exact k7 (o + i) (by omega), fun i v hv => ?_⟩
      rw [hbase']
      obtain ⟨u, hu, hr⟩ := hin i v hv
      exact ⟨u, hu, hr.mono (BM.upd_ext hm')⟩
    · obtain ⟨hjb, h1⟩ := hold j y cj hj h1 q2
      by_cases hblk : cj.blk = cb.blk
      · have ha' := r.apart j b y _ cj cb hjb h1 hx q2 hm hblk
        have hk := r.live j y cj h1 q2
        cases y with
        | cells sl2 sz2 l2 =>
          obtain ⟨q1, q2, q3, q4, c2, e2, lo2, hi2, q5, q6, q7, q8⟩ := hk
          rw [hblk, hc] at q5
          injection q5 with q5
          injection q5 with q5 q5' q5''
          injection q5'' with q9 q10
          subst q5; subst q5'; subst q9; subst q10
          refine ⟨q1, q2, q3, q4, c', e, lo, hi, by rw [hblk]; exact hnew, by rw [hz]; exact q6, q7, fun i v hv => ?_⟩
          obtain ⟨u, hu, hr⟩ := q8 i v hv
          have hi : i < l2.length := by
            rcases Nat.lt_or_ge i l2.length with h6 | h6
            · exact h6
            · rw [List.getElem?_eq_none h6] at hv; cases hv
          have ha := ha' (cj.base + i)
          exact ⟨u, by rw [hout _ (by omega)]; exact hu, hr.mono (BM.upd_ext hm')⟩
        | loop q => obtain ⟨_, _, L, q1, _⟩ := hk; rw [hblk, hc] at q1; cases q1
        | deferred q => have q1 := hk.2.2; rw [hblk, hc] at q1; cases q1
        | map q => obtain ⟨_, _, L, k, q1, _⟩ := hk; rw [hblk, hc] at q1; cases q1
      · exact (r.live j y cj h1 q2).of_heap (BM.upd_ext hm') (turned_other hblk)
  · obtain ⟨q1, q2⟩ := hdom j cj h3
    obtain ⟨q3, q4⟩ := hdom j' cj' h4
    rcases q2 with ⟨rfl, rfl⟩ | ⟨hj, q2⟩
    · rcases q4 with ⟨rfl, rfl⟩ | ⟨hj', q4⟩
      · exact absurd rfl h0
      · obtain ⟨hjb, h2⟩ := hold j' y' cj' hj' h2 q4
        have ha := r.apart j' b y' _ cj' cb hjb h2 hx q4 hm (by rw [← h5, hblk'])
        intro i
        have ha := ha i
        omega
    · rcases q4 with ⟨rfl, rfl⟩ | ⟨hj', q4⟩
      · obtain ⟨hjb, h1⟩ := hold j y cj hj h1 q2
        have ha := r.apart j b y _ cj cb hjb h1 hx q2 hm (by rw [h5, hblk'])
        intro i
        have ha := ha i
        omega
      · obtain ⟨_, h1⟩ := hold j y cj hj h1 q2
        obtain ⟨_, h2⟩ := hold j' y' cj' hj' h2 q4
        exact r.apart j j' y y' cj cj' h0 h1 h2 q2 q4 h5
  · unfold BM.upd at h2
    by_cases hj : j = b'
    · omega
    · rw [if_neg hj] at h2; exact absurd h1 h2
  · by_cases hB : B = cb.blk
    · subst hB
      rw [hc] at h1
      injection h1 with h1
      injection h1 with h1 h1' h1''
      subst h1; subst h1'; subst h1''
      exact ⟨c', hnew, hz, fun i hi => hout i fun h6 => hi ⟨b, _, cb, hx, hm, rfl, h6.1, h6.2⟩⟩
    · exact ⟨c1, (turned_other hB).trans h1, rfl, fun _ _ => rfl⟩
  · by_cases hB : B = cb.blk
    · subst hB; rw [hc] at h1; injection h1 with h1; subst h1; exact absurd rfl (h2 _ _ _)
    · exact (turned_other hB).trans h1
  · obtain ⟨j, y, cj, h1, h2, h3, h4, h5⟩ := hw
    obtain ⟨q1, q2⟩ := hdom j cj h2
    rcases q2 with ⟨rfl, rfl⟩ | ⟨hj, q2⟩
    · exact .inl ⟨b, _, cb, hx, hm, by rw [← h3, hblk'], by omega, by omega⟩
    · obtain ⟨_, h1⟩ := hold j y cj hj h1 q2
      exact .inl ⟨j, y, cj, h1, q2, h3, h4, h5⟩
/-- A block is given up. -/
theorem Rel.drop {m : BM} {h h' : HF} {w : World} {nx b : Nat} (r : Rel m h w) (hh : ∀ j, j < mH → h' j = if j = b then none else h j) : Rel m h' w ∧ Step m h nx w m h' nx w := by
  have hs : ∀ j x, h' j = some x → m j ≠ none → h j = some x := by
    intro j x h1 h2
    obtain ⟨cb, hcb⟩ := Option.ne_none_iff_exists'.1 h2
    rw [hh j (r.dom j cb hcb).1] at h1
    by_cases hj : j = b
    · rw [if_pos hj] at h1; cases h1
    · rw [if_neg hj] at h1; exact h1
  refine ⟨r.sub hs, { Step.refl m h nx w with grow := fun B i ho => ?_ }⟩
  obtain ⟨j, y, cj, h1, h2, h3, h4, h5⟩ := ho
  exact .inl ⟨j, y, cj, hs j y h1 (by rw [h2]; exact Option.some_ne_none cj), h2, h3, h4, h5⟩
end Go.Ev
