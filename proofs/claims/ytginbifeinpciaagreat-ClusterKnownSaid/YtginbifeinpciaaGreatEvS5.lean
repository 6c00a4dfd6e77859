/- Types, constants, loads, stores, new variables: what the abstract machine does is what the model does. -/
import Derived.Test.YtginbifeinpciaaGreatEvS4
import Derived.Laws.Entries
namespace Go.Ev
open Go

section
variable {P : Program}
theorem run_underlyingE {t : TypeId} {d : TypeDesc} (h : P.underlying t = some d) (w : World) : (underlying t).run P w = .ok d w := run_underlying h w
theorem run_typeInfoE {t : TypeId} {i : TypeInfo} (h : P.info? t = some i) (w : World) : (typeInfo t).run P w = .ok i w := by
  simp [typeInfo, h]
theorem sizeT_run {t : TypeId} {n : Nat} (h : sizeT P t = some n) (w : World) : (sizeOf t).run P w = .ok n w := by
  simp only [sizeT, Option.map_eq_some_iff] at h
  obtain ⟨i, hi, rfl⟩ := h
  simp [sizeOf, run_typeInfoE hi]
theorem bytesT_run {t : TypeId} {n : Nat} (h : bytesT P t = some n) (w : World) : ∃ i, (typeInfo t).run P w = .ok i w ∧ i.bytes = n := by
  simp only [bytesT, Option.map_eq_some_iff] at h
  obtain ⟨i, hi, rfl⟩ := h
  exact ⟨i, run_typeInfoE hi w, rfl⟩
theorem aggT_run {t : TypeId} {b : Bool} (h : aggT P t = some b) (w : World) : (isAgg t).run P w = .ok b w := by
  simp only [aggT, Option.map_eq_some_iff] at h
  obtain ⟨d, hd, rfl⟩ := h
  simp only [isAgg, Sem.run_bind, run_underlyingE hd, Result.andThen_ok]
  cases d <;> rfl
theorem conv_rel {v : Value} {a : AV} (h : conv v = some a) (m : BM) : VRel m a v := by
  unfold conv at h
  split at h
  all_goals first
    | (injection h with h; subst h)
    | cases h
  · exact .bool _
  · exact .int _ _
  · exact .str _
  · exact .pnil
  · exact .snil
  · exact .mnil
  · exact .nilFunc
  · exact .func .nil .nil
  · exact .tup .nil
theorem convL_rel : ∀ {l : List Value} {r : List AV}, convL l = some r → ∀ m, LRel m r l
  | [], r, h, m => by simp [convL] at h; subst h; exact .nil
  | v :: l, r, h, m => by
    obtain ⟨x, y, h1, h2, rfl⟩ := consO_some (by exact h)
    exact .cons (conv_rel h1 m) (convL_rel h2 m)
theorem convZ_rel {v : Value} {a : AV} (h : convZ v = some a) (m : BM) : VRel m a v := by
  unfold convZ at h
  split at h
  · simp only [Option.map_eq_some_iff] at h
    obtain ⟨l, hl, rfl⟩ := h
    exact .agg (convL_rel hl m)
  · exact conv_rel h m
theorem zeroT_run {t : TypeId} {z : AV} (h : zeroT P t = some z) (w : World) : ∃ u, (zeroValue t).run P w = .ok u w ∧ ∀ m, VRel m z u := by
  simp only [zeroT, Option.bind_eq_some_iff] at h
  obtain ⟨u, ⟨i, hi, hz⟩, hc⟩ := h
  refine ⟨u, ?_, convZ_rel hc⟩
  simp [zeroValue, run_typeInfoE hi, hz]
end

/-! Values and cells -/
theorem VRel.cells {m : BM} {v : AV} {u : Value} (h : VRel m v u) : LRel m v.cells u.cells.toList := by
  cases h with
  | agg h => exact h
  | bool b => exact .cons (.bool b) .nil
  | int k n => exact .cons (.int k n) .nil
  | str s => exact .cons (.str s) .nil
  | pnil => exact .cons .pnil .nil
  | ptr h => exact .cons (.ptr h) .nil
  | snil => exact .cons .snil .nil
  | slice h hc => exact .cons (.slice h hc) .nil
  | slice0 a h => exact .cons (.slice0 a h) .nil
  | mnil => exact .cons .mnil .nil
  | map h => exact .cons (.map h) .nil
  | func a c => exact .cons (.func a c) .nil
  | yield h => exact .cons (.yield h) .nil
  | nilFunc => exact .cons .nilFunc .nil
  | tup h => exact .cons (.tup h) .nil
theorem VRel.one {m : BM} {v : AV} {u : Value} (h : VRel m v u) (h1 : v.one = true) : u.oneCell' = true := by
  cases h <;> first | rfl | cases h1
theorem ones_all : ∀ {l : List AV}, ones l = true → ∀ v ∈ l, v.one = true
  | [], _, v, hv => by cases hv
  | a :: l, h, v, hv => by
    have h' : (a.one && ones l) = true := h
    rw [Bool.and_eq_true] at h'
    cases hv with
    | head => exact h'.1
    | tail _ hv => exact ones_all h'.2 v hv
theorem LRel.ones {m : BM} : ∀ {l : List AV} {r : List Value}, LRel m l r → Ev.ones l = true → ∀ u ∈ r, u.oneCell' = true
  | _, _, .nil, _, u, hu => by cases hu
  | _, _, .cons (v := a) (l := l) h t, h1, u, hu => by
    have h' : (a.one && Ev.ones l) = true := h1
    rw [Bool.and_eq_true] at h'
    cases hu with
    | head => exact h.one h'.1
    | tail _ hu => exact t.ones h'.2 u hu

/-! What is held of a block -/
theorem cellsOf_some {x : Option ABlk} {c : List AV} (h : cellsOf x = some c) : ∃ sl sz, x = some (.cells sl sz c) := by
  unfold cellsOf at h
  split at h
  · injection h with h; subst h; exact ⟨_, _, rfl⟩
  · cases h
theorem Rel.at_ {m : BM} {H : AH} {w : World} (r : Rel m H.get w) {b : Nat} {cb : CB} {sl : Bool} {sz : Nat} {l : List AV} (hb : H.get b = some (.cells sl sz l)) (hm : m b = some cb) :
    ∃ c e lo hi, w.heap[cb.blk]? = some (.cells c e (lo, hi)) ∧ cb.base + cb.room ≤ c.size ∧ (∀ i, i < cb.room → ¬ (lo ≤ cb.base + i ∧ cb.base + i < hi)) ∧ cb.n = l.length ∧ cb.n ≤ cb.room ∧ cb.sz = sz ∧
      (sl = false → cb.room = cb.n) ∧ LRel m l ((c.toList.drop cb.base).take l.length) := by
  obtain ⟨k1, k2, k3, k4, c, e, lo, hi, k5, k6, k7, k8⟩ := r.live b _ cb hb hm
  refine ⟨c, e, lo, hi, k5, k6, k7, k1, k2, k3, k4, ?_⟩
  refine LRel.of_get (by simp; omega) fun i v hv => ?_
  obtain ⟨u, hu, hr⟩ := k8 i v hv
  have hi' : i < l.length := by
    rcases Nat.lt_or_ge i l.length with h6 | h6
    · exact h6
    · rw [List.getElem?_eq_none h6] at hv; cases hv
  refine ⟨u, ?_, hr⟩
  rw [List.getElem?_take_of_lt hi', List.getElem?_drop]
  simpa using hu

section
variable {P : Program} {m : BM} {H : AH} {w : World}
theorem loadA_run (r : Rel m H.get w) {b o n : Nat} {l : List AV} {cb : CB} (h : loadA H b o n = some l) (hm : m b = some cb) :
    ∃ a, (loadCells ⟨cb.blk, cb.base + o, none⟩ n).run P w = .ok a w ∧ LRel m l a.toList ∧ l.length = n := by
  unfold loadA at h
  split at h
  · rename_i c hc
    obtain ⟨sl, sz, hg⟩ := cellsOf_some hc
    obtain ⟨ca, e, lo, hi, k5, k6, k7, k1, k2, k3, k4, k8⟩ := r.at_ hg hm
    unfold inRange at h
    split at h
    · rename_i hle
      have hle := Nat.le_of_ble_eq_true hle
      rw [len_eq] at hle
      have hle' : o + n ≤ c.length := hle
      injection h with h
      rw [cut_eq] at h
      subst h
      obtain ⟨a, ha, hl⟩ := run_loads (P := P) (off := cb.base + o) k5 n (by omega)
      refine ⟨a, ha, ?_, by simp; omega⟩
      have := (k8.drop o).take n
      rw [hl]
      have e1 : ((((ca.toList.drop cb.base).take c.length).drop o).take n) = (ca.toList.drop (cb.base + o)).take n := by
        rw [List.drop_take, List.take_take, List.drop_drop]
        congr 1
        omega
      rw [← e1]
      exact this
    · cases h
  · cases h
theorem load1_run (r : Rel m H.get w) {b o : Nat} {v : AV} {cb : CB} (h : load1 H b o = some v) (hm : m b = some cb) :
    ∃ u, (load ⟨cb.blk, cb.base + o, none⟩).run P w = .ok u w ∧ VRel m v u := by
  unfold load1 at h
  split at h
  · rename_i c hc
    obtain ⟨sl, sz, hg⟩ := cellsOf_some hc
    obtain ⟨k1, k2, k3, k4, ca, e, lo, hi, k5, k6, k7, k8⟩ := r.live b _ cb hg hm
    rw [nth_eq] at h
    obtain ⟨u, hu, hr⟩ := k8 o v h
    refine ⟨u, ?_, hr⟩
    rw [run_load, cell?_eq k5, hu]
  · cases h
theorem aggO_some {x : Option (List AV)} {v : AV} (h : aggO x = some v) : ∃ c, x = some c ∧ v = .agg c := by
  unfold aggO at h
  split at h
  · injection h with h; exact ⟨_, rfl, h.symm⟩
  · cases h
theorem loadVarA_run (r : Rel m H.get w) {t : TypeId} {b o : Nat} {v : AV} {cb : CB} (h : loadVarA P H t b o = some v) (hm : m b = some cb) :
    ∃ u, (loadVar t ⟨cb.blk, cb.base + o, none⟩).run P w = .ok u w ∧ VRel m v u := by
  unfold loadVarA at h
  split at h
  · rename_i ht
    unfold loadAgg at h
    split at h
    · rename_i n hn
      obtain ⟨c, hc, rfl⟩ := aggO_some h
      obtain ⟨a, ha, hl, _⟩ := loadA_run (P := P) r hc hm
      refine ⟨.agg a, ?_, .agg hl⟩
      simp [loadVar, aggT_run ht, sizeT_run hn, ha]
    · cases h
  · rename_i ht
    obtain ⟨u, hu, hr⟩ := load1_run (P := P) r h hm
    refine ⟨u, ?_, hr⟩
    simp only [loadVar, Sem.run_bind, aggT_run ht, Result.andThen_ok]
    exact hu
  · cases h

/-- What an operation on memory comes to. -/
def Res {α : Type} (P : Program) (s : Sem α) (R : BM → α → Prop) (m : BM) (H : AH) (w : World) (H' : AH) : Prop :=
  ∃ m' a w', s.run P w = .ok a w' ∧ Step m H.get H.nx w m' H'.get H'.nx w' ∧ Rel m' H'.get w' ∧ HOk H' ∧ R m' a
theorem Res.pure {α : Type} {s : Sem α} {R : BM → α → Prop} {a : α} (r : Rel m H.get w) (hk : HOk H) (h : s.run P w = .ok a w) (hR : R m a) : Res P s R m H w H :=
  ⟨m, a, w, h, .refl _ _ _ _, r, hk, hR⟩
theorem storeA_run (r : Rel m H.get w) (hk : HOk H) {b o : Nat} {vs : List AV} {us : List Value} {cb : CB} {H' : AH} (h : storeA H b o vs = some H') (hm : m b = some cb) (hv : LRel m vs us) :
    Res P (storeCells ⟨cb.blk, cb.base + o, none⟩ us) (fun m' _ => m' = m) m H w H' := by
  have hb := r.dom b cb hm
  cases vs with
  | nil =>
    cases hv
    simp only [storeA] at h
    injection h with h
    subst h
    exact .pure (a := ()) r hk (by simp [storeCells]) rfl
  | cons v vs =>
    have h0 : (match Ev.ones (v :: vs) with
      | true => storeAt H b o (v :: vs) (H.get b)
      | false => none) = some H' := h
    split at h0
    · rename_i h1
      unfold storeAt at h0
      split at h0
      · rename_i sl sz l hg
        unfold putCells at h0
        split at h0
        · rename_i l' hl'
          injection h0 with h0
          subst h0
          obtain ⟨ca, e, lo, hi, k5, k6, k7, k1, k2, k3, k4, k8⟩ := r.at_ hg hm
          obtain ⟨hle, _⟩ := splice_eq o (v :: vs) l l' hl'
          have hlen := hv.length
          obtain ⟨c', hr, hz, hc'⟩ := run_stores (P := P) (B := cb.blk) (off := cb.base + o) us 0 w ca k5 (by omega) (fun j h2 h3 => by
            have := k7 (j - cb.base) (by omega)
            rw [show cb.base + (j - cb.base) = j from by omega] at this
            exact this) (hv.ones h1)
          have hlt := hk.lt hb.1 hg
          obtain ⟨r', s'⟩ := Rel.cells (nx := H.nx) (h' := (H.put b (.cells sl sz l')).get) (l' := l') r hm hg k5 hz (fun i hi => by
              rw [hc' i, if_neg (by omega)])
            (splice_length hl') (fun i x hx => by
              rw [splice_get hl' i] at hx
              rw [hc' (cb.base + i)]
              by_cases h6 : o ≤ i ∧ i < o + (v :: vs).length
              · rw [if_pos h6] at hx
                rw [if_pos (by omega)]
                obtain ⟨u, hu, hru⟩ := hv.get hx
                exact ⟨u, by rw [show cb.base + i - (cb.base + o + 0) = i - o from by omega]; exact hu, hru⟩
              · rw [if_neg h6] at hx
                rw [if_neg (by omega)]
                obtain ⟨_, _, _, _, c9, e9, lo9, hi9, q5, _, _, q8⟩ := r.live b _ cb hg hm
                rw [k5] at q5
                injection q5 with q5
                injection q5 with q5
                subst q5
                exact q8 i x hx) (fun j hj => AH.get_put H b _ j hb.1 hj)
          exact ⟨m, (), _, hr, s', r', hk.put _ hlt, rfl⟩
        · cases h0
      · cases h0
    · cases h0
/-- A new block of cells. -/
theorem newRow_run (r : Rel m H.get w) (hk : HOk H) (hr : H.room = true) (hid : m H.nx = none) {sl : Bool} {sz : Nat} {l : List AV} {e : TypeId} {us rest : List Value} (hl : LRel m l us)
    (hsl : sl = false → rest = []) (d : Nat) :
    ∃ m', (newRow e (us ++ rest).toArray).run P { w with drawn := d } = .ok ⟨w.heap.size, 0, none⟩ (pushed w (.cells (us ++ rest).toArray e) d) ∧
      Step m H.get H.nx w m' (H.grown (.cells sl sz l)).get (H.grown (.cells sl sz l)).nx (pushed w (.cells (us ++ rest).toArray e) d) ∧
      Rel m' (H.grown (.cells sl sz l)).get (pushed w (.cells (us ++ rest).toArray e) d) ∧ HOk (H.grown (.cells sl sz l)) ∧
      m' H.nx = some ⟨w.heap.size, 0, l.length, us.length + rest.length, sz⟩ := by
  have hlt := AH.room_lt hr
  have hlen := hl.length
  refine ⟨m.upd H.nx ⟨w.heap.size, 0, l.length, us.length + rest.length, sz⟩, ?_, ?_⟩
  · simp [newRow, pushed]
  · obtain ⟨r', s'⟩ := Rel.new (h' := (H.grown (.cells sl sz l)).get) (nx := H.nx) (x := .cells sl sz l) (cb := ⟨w.heap.size, 0, l.length, us.length + rest.length, sz⟩) (o := .cells (us ++ rest).toArray e) (d := d)
      r hlt rfl hid rfl (fun j hj => AH.get_grown H _ j hlt hj)
      ⟨rfl, by show l.length ≤ us.length + rest.length; omega, rfl, (fun h => by show us.length + rest.length = l.length; rw [hsl h]; simp; omega), (us ++ rest).toArray, e, 0, 0, pushed_new, by simp, (fun i hi => by omega), fun i v hv => by
        obtain ⟨u, hu, hru⟩ := hl.get hv
        refine ⟨u, ?_, hru.mono (BM.upd_ext hid)⟩
        have hi : i < us.length := by
          rcases Nat.lt_or_ge i us.length with h6 | h6
          · exact h6
          · rw [List.getElem?_eq_none h6] at hu; cases hu
        simp [List.getElem?_append_left hi, hu]⟩
    exact ⟨s', r', hk.grown _ hlt, BM.upd_same _ _ _⟩
end
end Go.Ev
