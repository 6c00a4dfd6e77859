/- Places, parts, new values. -/
import Derived.Test.YtginbifeinpciaaGreatEvS9
import Derived.Great.BuildSlice
namespace Go.Ev
open Go

section
variable {P : Program} {m : BM} {H : AH} {w : World}
theorem fieldOf_some {i : Nat} {d : Option TypeDesc} {f : Field} (h : fieldOf i d = some f) : ∃ fs, d = some (.struct fs) ∧ fs[i]? = some f := by
  unfold fieldOf at h
  split at h
  · exact ⟨_, rfl, h⟩
  · cases h
theorem fieldAt_run {t : TypeId} {i : Nat} {x v : AV} {u : Value} (h : ptrAdd x (fieldOff P (fieldOf i (P.underlying t))) = some v) (hx : VRel m x u) (w : World) :
    ∃ z, (Instr.fieldAt t u i).run P w = .ok z w ∧ VRel m v z := by
  unfold ptrAdd at h
  split at h
  · rename_i n hn
    split at h
    · rename_i b o
      injection h with h
      subst h
      cases hx with
      | ptr hb =>
        rename_i cb
        unfold fieldOff at hn
        split at hn
        · rename_i f hf
          split at hn
          · rename_i hz
            injection hn with hn
            subst hn
            obtain ⟨fs, ht, hfi⟩ := fieldOf_some hf
            unfold notZero at hz
            split at hz
            · rename_i k hs
              refine ⟨.pointer (some ⟨cb.blk, cb.base + o + f.offset, none⟩), ?_, ?_⟩
              · simp [Instr.fieldAt, run_underlying ht, hfi, Instr.sureAddr, fieldPlace, sizeT_run hs, add_eq]
              · rw [Nat.add_assoc]; exact .ptr hb
            · cases hz
          · cases hn
        · cases hn
    · cases h
  · cases h
theorem field_run {t : TypeId} {i : Nat} {x v : AV} {u : Value} (h : fieldA P x (fieldOf i (P.underlying t)) = some v) (hx : VRel m x u) (w : World) :
    ∃ z, (Instr.field t u i).run P w = .ok z w ∧ VRel m v z := by
  unfold fieldA at h
  split at h
  · rename_i f hf
    obtain ⟨fs, ht, hfi⟩ := fieldOf_some hf
    split at h
    · cases hx with
      | agg hl =>
        obtain ⟨z, hz, hr⟩ := partA_run h hl w
        exact ⟨z, by simp [Instr.field, run_underlying ht, hfi, asAgg, hz], hr⟩
    · cases h
  · cases h
theorem natOf_some {x : AV} {i : Nat} (h : natOf x = some i) : ∃ k, x = .int k (.ofNat i) := by
  unfold natOf at h
  split at h
  · injection h with h; subst h; exact ⟨_, rfl⟩
  · cases h
theorem not_ble {a b : Nat} (h : Nat.ble a b = false) : b < a := by
  rcases Nat.lt_or_ge b a with h1 | h1
  · exact h1
  · rw [Nat.ble_eq_true_of_le h1] at h; cases h
theorem atIndex_some {b o i n : Nat} {s : Option Nat} {v : AV} (h : atIndex b o i n s = some v) : i < n ∧ ∃ sz, s = some sz ∧ v = .ptr b (o + i * sz) := by
  unfold atIndex at h
  split at h
  · rename_i hle
    split at h
    · injection h with h
      exact ⟨not_ble hle, _, rfl, h.symm⟩
    · cases h
  · cases h
theorem indexAt_run {t : TypeId} {x ix v : AV} {u uix : Value} (h : indexAddrA P t x (natOf ix) = some v) (hx : VRel m x u) (hix : VRel m ix uix) (w : World) :
    ∃ z, (Instr.indexAt t u uix).run P w = .ok z w ∧ VRel m v z := by
  unfold indexAddrA at h
  split at h
  · rename_i i hi
    obtain ⟨k, rfl⟩ := natOf_some hi
    cases hix
    unfold indexAddrN at h
    split at h
    · rename_i n elem ht
      split at h
      · rename_i b o
        obtain ⟨hlt, sz, hsz, rfl⟩ := atIndex_some h
        cases hx with
        | ptr hb =>
          rename_i cb
          refine ⟨.pointer (some ⟨cb.blk, cb.base + o + i * sz, none⟩), ?_, ?_⟩
          · have h1 : (0 : Int) ≤ Int.ofNat i ∧ Int.ofNat i < (n : Int) := ⟨by simp, by simp; omega⟩
            simp only [Instr.indexAt, asIntOf, Sem.run_bind, Sem.run_pure, Result.andThen_ok, run_underlying ht, Instr.sureAddr, if_pos h1, sizeT_run hsz, add_eq]
            rfl
          · rw [Nat.add_assoc]; exact .ptr hb
      · cases h
    · rename_i elem ht
      split at h
      · rename_i b o n c
        obtain ⟨hlt, sz, hsz, rfl⟩ := atIndex_some h
        cases hx with
        | slice hb hc =>
          rename_i c' cb
          refine ⟨.pointer (some ⟨cb.blk, cb.base + o + i * sz, none⟩), ?_, ?_⟩
          · have h1 : (0 : Int) ≤ Int.ofNat i ∧ Int.ofNat i < (n : Int) := ⟨by simp, by simp; omega⟩
            simp only [Instr.indexAt, asIntOf, Sem.run_bind, Sem.run_pure, Result.andThen_ok, run_underlying ht, if_pos h1, sizeT_run hsz, add_eq]
            rfl
          · rw [Nat.add_assoc]; exact .ptr hb
        | slice0 a hb => omega
      · cases h
    · cases h
  · cases h
theorem index_run {t : TypeId} {x ix v : AV} {u uix : Value} (h : indexA P t x (natOf ix) = some v) (hx : VRel m x u) (hix : VRel m ix uix) (w : World) :
    ∃ z, (Instr.index t u uix).run P w = .ok z w ∧ VRel m v z := by
  unfold indexA at h
  split at h
  · rename_i i hi
    obtain ⟨k, rfl⟩ := natOf_some hi
    cases hix
    unfold indexN at h
    split at h
    · rename_i n elem ht
      split at h
      · rename_i cs
        cases hx with
        | agg hl =>
          unfold partAt at h
          split at h
          · rename_i hle
            have hlt := not_ble hle
            split at h
            · rename_i sz hsz
              obtain ⟨z, hz, hr⟩ := partA_run h hl w
              refine ⟨z, ?_, hr⟩
              have h1 : (0 : Int) ≤ Int.ofNat i ∧ Int.ofNat i < (n : Int) := ⟨by simp, by simp; omega⟩
              simp only [Instr.index, asIntOf, Sem.run_bind, Sem.run_pure, Result.andThen_ok, run_underlying ht, if_pos h1, sizeT_run hsz]
              exact hz
            · cases h
          · cases h
      · cases h
    · rename_i ht
      split at h
      · rename_i s
        cases hx
        unfold byteAt at h
        split at h
        · rename_i b hb
          injection h with h
          subst h
          rw [nth_eq] at hb
          refine ⟨.int .u8 b.toNat, ?_, .int _ _⟩
          have h1 : (0 : Int) ≤ Int.ofNat i := by simp
          have h2 : (ByteArray.mk (Array.mk s))[(Int.ofNat i).toNat]? = some b := by
            show (ByteArray.mk (Array.mk s))[i]? = some b
            have hlt : i < s.length := (List.getElem?_eq_some_iff.1 hb).1
            have hv := (List.getElem?_eq_some_iff.1 hb).2
            rw [getElem?_pos _ i (by exact hlt)]
            exact congrArg some hv
          simp only [Instr.index, asIntOf, Sem.run_bind, Sem.run_pure, Result.andThen_ok, run_underlying ht, if_pos h1, h2]
        · cases h
      · cases h
    · cases h
  · cases h

/-! Parts -/
inductive PRel (m : BM) : List (Nat × AV) → List (Nat × Value) → Prop where
  | nil : PRel m [] []
  | cons (i : Nat) {v : AV} {u : Value} {l : List (Nat × AV)} {r : List (Nat × Value)} (h : VRel m v u) (t : PRel m l r) : PRel m ((i, v) :: l) ((i, u) :: r)
theorem setFold (off : Nat) : ∀ (us : List Value) (k : Nat) (c : Array Value), off + k + us.length ≤ c.size →
    ((us.zipIdx k).foldl (fun cs p => cs.setIfInBounds (off + p.2) p.1) c).size = c.size ∧
    ∀ j, ((us.zipIdx k).foldl (fun cs p => cs.setIfInBounds (off + p.2) p.1) c)[j]? = if off + k ≤ j ∧ j < off + k + us.length then us[j - (off + k)]? else c[j]?
  | [], k, c, _ => ⟨rfl, fun j => by rw [if_neg (by simp)]; rfl⟩
  | u :: us, k, c, h => by
    simp only [List.length_cons] at h
    obtain ⟨h1, h2⟩ := setFold off us (k + 1) (c.setIfInBounds (off + k) u) (by simp; omega)
    refine ⟨by simp only [List.zipIdx_cons, List.foldl_cons]; rw [h1]; simp, fun j => ?_⟩
    simp only [List.zipIdx_cons, List.foldl_cons]
    rw [h2 j, Array.getElem?_setIfInBounds]
    by_cases h3 : j = off + k
    · subst h3
      rw [if_neg (by omega), if_pos (by omega), if_pos (by omega)]
      simp
    · by_cases h4 : off + (k + 1) ≤ j ∧ j < off + (k + 1) + us.length
      · rw [if_pos h4, if_pos (by simp only [List.length_cons]; omega)]
        have : j - (off + k) = (j - (off + (k + 1))) + 1 := by omega
        rw [this, List.getElem?_cons_succ]
      · rw [if_neg h4, if_neg (by omega), if_neg (by simp only [List.length_cons]; omega)]
theorem fill_run {place place' : Nat → Option (Nat × Nat)} (hpl : ∀ i x, place i = some x → place' i = some x) : ∀ {ps : List (Nat × AV)} {qs : List (Nat × Value)} {cells r : List AV} {c : Array Value},
    PRel m ps qs → LRel m cells c.toList → fillA place ps cells = some r → ∃ c', Instr.fill place' c qs = some c' ∧ LRel m r c'.toList
  | _, _, cells, r, c, .nil, hl, h => by
    simp only [fillA] at h
    injection h with h
    subst h
    exact ⟨c, rfl, hl⟩
  | _, _, cells, r, c, .cons (l := ps) (r := qs) i (v := v) (u := u) hv ht, hl, h => by
    simp only [fillA] at h
    split at h
    · rename_i cells' hc
      unfold fill1 at hc
      split at hc
      · rename_i off size hp
        split at hc
        · rename_i hsz
          have hsz := Nat.eq_of_beq_eq_true hsz
          rw [len_eq] at hsz
          have hvc := hv.cells
          have hlen := hvc.length
          have hlc := hl.length
          obtain ⟨h1, _⟩ := splice_eq off v.cells cells cells' hc
          have husz : u.cells.size = v.cells.length := by rw [hlen]; simp
          have hcsz : c.size = cells.length := by rw [hlc]; simp
          have hset := setFold off u.cells.toList 0 c (by simp; omega)
          have hl' : LRel m cells' ((u.cells.toList.zipIdx 0).foldl (fun cs p => cs.setIfInBounds (off + p.2) p.1) c).toList := by
            refine LRel.of_get ((splice_length hc).trans (hcsz.symm.trans (hset.1.symm.trans Array.length_toList.symm))) fun j a ha => ?_
            · rw [splice_get hc j] at ha
              rw [Array.getElem?_toList, hset.2 j]
              by_cases h3 : off ≤ j ∧ j < off + v.cells.length
              · rw [if_pos h3] at ha
                rw [if_pos (by simp; omega)]
                exact hvc.get (by simpa using ha)
              · rw [if_neg h3] at ha
                rw [if_neg (by simp; omega), ← Array.getElem?_toList]
                exact hl.get ha
          obtain ⟨c', hf, hr⟩ := fill_run hpl ht hl' h
          refine ⟨c', ?_, hr⟩
          simp only [Instr.fill, hpl _ _ hp]
          rw [if_neg (by simp; omega), ← hf]
          congr 1
          rw [← Array.foldl_toList, Array.toList_zipIdx]
        · cases hc
      · cases hc
    · cases h

theorem sizedF_places : ∀ {fs : List Field}, sizedF P fs = true → ∃ places, fs.mapM (fun f => (P.info? f.type).map fun i => (f.offset, i.size)) = some places ∧
    ∀ (i : Nat) (f : Field) (s : Nat), fs[i]? = some f → sizeT P f.type = some s → places[i]? = some (f.offset, s)
  | [], _ => ⟨[], by simp, fun i f s h => by simp at h⟩
  | f :: fs, h => by
    simp only [sizedF] at h
    split at h
    · rename_i s hs
      obtain ⟨places, hp, hi⟩ := sizedF_places h
      simp only [sizeT, Option.map_eq_some_iff] at hs
      obtain ⟨inf, hinf, hs⟩ := hs
      refine ⟨(f.offset, inf.size) :: places, by simp [hinf, hp], fun i g s' hg hsz => ?_⟩
      cases i with
      | zero =>
        simp at hg
        subst hg
        simp [sizeT, hinf] at hsz
        simp [hsz]
      | succ i => simpa using hi i g s' (by simpa using hg) hsz
    · cases h
theorem zeroT_some {t : TypeId} {z : AV} (h : zeroT P t = some z) : ∃ it zv, P.info? t = some it ∧ it.zero = some zv ∧ ∀ m, VRel m z zv := by
  simp only [zeroT, Option.bind_eq_some_iff] at h
  obtain ⟨u, ⟨i, hi, hz⟩, hc⟩ := h
  exact ⟨i, u, hi, hz, convZ_rel hc⟩
theorem sizeT_some {t : TypeId} {s : Nat} (h : sizeT P t = some s) : ∃ it, P.info? t = some it ∧ it.size = s := by
  simpa [sizeT] using h
theorem build_run {t : TypeId} {ps : List (Nat × AV)} {v : AV} {qs : Array (Nat × Value)} (h : buildA P t ps = some v) (hp : PRel m ps qs.toList) (w : World) :
    ∃ z, (Instr.build t qs).run P w = .ok z w ∧ VRel m v z := by
  unfold buildA at h
  split at h
  · rename_i z hz
    obtain ⟨it, zv, hit, hzv, hzr⟩ := zeroT_some hz
    have hzc := (hzr m).cells
    unfold build1 at h
    split at h
    · rename_i fs ht
      split at h
      · rename_i hs
        obtain ⟨places, hpl, hpi⟩ := sizedF_places hs
        obtain ⟨c, hc, rfl⟩ := aggO_some h
        obtain ⟨c', hf, hr⟩ := fill_run (place' := (places.toArray[·]?)) (fun i x hx => by
          unfold placeS at hx
          split at hx
          · rename_i f hfi
            simp only [Option.map_eq_some_iff] at hx
            obtain ⟨s, hs, rfl⟩ := hx
            simpa using hpi i f s (by simpa using hfi) hs
          · cases hx) hp hzc hc
        exact ⟨.agg c', run_build w t qs c' (by simp only [Program.built, hit, ht, hzv, hpl]; exact hf), .agg hr⟩
      · cases h
    · rename_i n elem ht
      unfold buildE at h
      split at h
      · rename_i s hs
        obtain ⟨ie, hie, hs⟩ := sizeT_some hs
        obtain ⟨c, hc, rfl⟩ := aggO_some h
        obtain ⟨c', hf, hr⟩ := fill_run (place' := fun i => some (i * ie.size, ie.size)) (fun i x hx => by rw [hs]; exact hx) hp hzc hc
        exact ⟨.agg c', run_build w t qs c' (by simp only [Program.built, hit, ht, hzv, hie]; exact hf), .agg hr⟩
      · cases h
    · cases h
  · cases h

/-! Cells in a row -/
theorem rep_length {α : Type} (l : List α) : ∀ n, (rep l n).length = n * l.length
  | 0 => by simp [rep]
  | n + 1 => by simp only [rep, app_eq, List.length_append, rep_length l n, Nat.add_mul, Nat.one_mul]; omega
theorem rep_get {α : Type} (l : List α) : ∀ (n i : Nat), i < n * l.length → (rep l n)[i]? = l[i % l.length]?
  | 0, i, h => by simp at h
  | n + 1, i, h => by
    simp only [rep, app_eq]
    by_cases h1 : i < l.length
    · rw [List.getElem?_append_left h1, Nat.mod_eq_of_lt h1]
    · rw [List.getElem?_append_right (by omega), rep_get l n (i - l.length) (by rw [Nat.add_mul, Nat.one_mul] at h; omega)]
      rw [Nat.mod_eq_sub_mod (by omega : i ≥ l.length)]
theorem rep_rel {l : List AV} {c : Array Value} (h : LRel m l c.toList) (n s : Nat) (hs : c.size = s) : LRel m (rep l n) ((Array.range (n * s)).map (c[· % c.size]!)).toList := by
  have hlen : l.length = c.size := by rw [h.length]; simp
  refine LRel.of_get (by rw [rep_length]; simp [hlen, hs]) fun i v hv => ?_
  have hi : i < n * l.length := by
    rcases Nat.lt_or_ge i (n * l.length) with h1 | h1
    · exact h1
    · rw [List.getElem?_eq_none (by rw [rep_length]; exact h1)] at hv; cases hv
  rw [rep_get l n i hi] at hv
  obtain ⟨u, hu, hr⟩ := h.get hv
  refine ⟨u, ?_, hr⟩
  rw [Array.getElem?_toList] at hu
  rw [hlen] at hu
  have hi' : i < n * s := by rw [← hs, ← hlen]; exact hi
  simp [hi', getElem!_def, hu]

/-! New blocks -/
theorem newVar_run (r : Rel m H.get w) (hk : HOk H) {elem : TypeId} {x v : AV} {u : Value} {H' : AH} (h : newVarA H (some x) = some (.val v H')) (hid : ∀ b, H.nx ≤ b → b < H'.nx → m b = none) (hx : VRel m x u) :
    Res P (do pure (.pointer (some (← newVar elem u))) : Sem Value) (fun m' z => VRel m' v z) m H w H' := by
  unfold newVarA at h
  obtain ⟨hr, rfl, rfl⟩ := newA_some h
  obtain ⟨m', s', r', hk', hext, hm'⟩ := r.row hk hr (hid _ (Nat.le_refl _) (Nat.lt_succ_self _)) (sl := false) (sz := 0) (lo := 0) (hi := 0) (e := elem) (c := u.cells) (rest := []) hx.cells (by simp) (fun _ => rfl) (fun i hi => by omega) w.drawn
  refine ⟨m', .pointer (some ⟨w.heap.size, 0 + 0, none⟩), _, ?_, s', r', hk', ?_⟩
  · simp [newVar, newRow, pushed]
  · exact VRel.ptr hm'
theorem buildSlice_run (r : Rel m H.get w) (hk : HOk H) {t : TypeId} {n : Nat} {ps : List (Nat × AV)} {v : AV} {qs : Array (Nat × Value)} {H' : AH} (h : newSl H n (buildSliceA P t n ps) = some (.val v H'))
    (hid : ∀ b, H.nx ≤ b → b < H'.nx → m b = none) (hp : PRel m ps qs.toList) : Res P (Instr.buildSlice t n qs) (fun m' z => VRel m' v z) m H w H' := by
  unfold newSl at h
  split at h
  · rename_i x hx
    obtain ⟨hr, rfl, rfl⟩ := newA_some h
    unfold buildSliceA at hx
    split at hx
    · rename_i elem ht
      have ht := isSl_some ht
      unfold buildSl at hx
      split at hx
      · rename_i s z hs hz
        obtain ⟨ie, hie, rfl⟩ := sizeT_some hs
        obtain ⟨it, zv, hit, hzv, hzr⟩ := zeroT_some hz
        rw [hie] at hit
        injection hit with hit
        subst hit
        split at hx
        · rename_i hc
          have hc' : (Nat.ble (Nat.mul n ie.size) 16777216 && (Nat.ble 1 ie.size && Nat.beq (len z.cells) ie.size)) = true := hc
          simp only [Bool.and_eq_true] at hc'
          obtain ⟨c1, c2, c3⟩ := hc'
          have c1 : n * ie.size ≤ 16777216 := Nat.le_of_ble_eq_true c1
          have c2 : 1 ≤ ie.size := Nat.le_of_ble_eq_true c2
          have c3 : len z.cells = ie.size := Nat.eq_of_beq_eq_true c3
          rw [len_eq] at c3
          unfold cellsO at hx
          split at hx
          · rename_i cs hcs
            injection hx with hx
            subst hx
            have hzl := (hzr m).cells
            have hzs : zv.cells.size = ie.size := by rw [← c3, hzl.length]; simp
            obtain ⟨c', hf, hcr⟩ := fill_run (place' := fun i => some (i * ie.size, ie.size)) (fun i x hx => hx) hp (rep_rel hzl n ie.size hzs) hcs
            obtain ⟨m', s', r', hk', hext, hm'⟩ := r.row hk hr (hid _ (Nat.le_refl _) (Nat.lt_succ_self _)) (sl := false) (sz := ie.size) (lo := 0) (hi := 0) (e := elem) (c := c') (rest := []) hcr (by simp) (fun _ => rfl) (fun i hi => by omega) w.drawn
            refine ⟨m', .slice (some ⟨w.heap.size, 0 + 0, none⟩) n n, _, ?_, s', r', hk', ?_⟩
            · by_cases h0 : n * ie.size = 0
              · have hn : n = 0 := by
                  rcases Nat.mul_eq_zero.1 h0 with h1 | h1
                  · exact h1
                  · omega
                subst hn
                have e0 : (Array.range (0 * ie.size)).map (zv.cells[· % zv.cells.size]!) = #[] := by simp
                rw [e0] at hf
                have hf' : Instr.fill (fun i => some (i * ie.size, ie.size)) #[] qs.toList = some c' := hf
                simp [Instr.buildSlice, run_underlying ht, sizeOf, typeInfo, hie, Array.range_zero', hf', newRow, pushed]
              · rw [run_buildSlice w t elem n qs c' ie zv ht hie hzv (by omega) h0 hf]
                rfl
            · exact VRel.slice hm' (.inl rfl)
          · cases hx
        · cases hx
      · cases hx
    · cases hx
  · cases h
theorem makeSlice_run (r : Rel m H.get w) (hk : HOk H) {t : TypeId} {l c v : AV} {ul uc : Value} {H' : AH} (h : makeSliceA P t l c H = some (.val v H')) (hid : ∀ b, H.nx ≤ b → b < H'.nx → m b = none)
    (hl : VRel m l ul) (hc : VRel m c uc) : Res P (Instr.makeSlice t ul uc) (fun m' z => VRel m' v z) m H w H' := by
  unfold makeSliceA at h
  split at h
  · rename_i elem ht
    have ht := isSl_some ht
    unfold makeSl1 at h
    split at h
    · rename_i ln cn hln hcn
      obtain ⟨kl, rfl⟩ := natOf_some hln
      obtain ⟨kc, rfl⟩ := natOf_some hcn
      cases hl; cases hc
      unfold makeSl at h
      split at h
      · rename_i s bytes z hs hb hz
        obtain ⟨ie, hie, rfl⟩ := sizeT_some hs
        obtain ⟨it, zv, hit, hzv, hzr⟩ := zeroT_some hz
        rw [hie] at hit
        injection hit with hit
        subst hit
        simp only [bytesT, hie, Option.map_some, Option.some.injEq] at hb
        split at h
        · rename_i hc
          have hc' : (Nat.ble ln cn && (Nat.ble cn 16777216 && (Nat.ble bytes 1048576 && (Nat.beq (len z.cells) ie.size && Nat.ble 1 ie.size)))) = true := hc
          simp only [Bool.and_eq_true] at hc'
          obtain ⟨c1, c2, c3, c4, c5⟩ := hc'
          have c1 := Nat.le_of_ble_eq_true c1
          have c2 := Nat.le_of_ble_eq_true c2
          have c3 := Nat.le_of_ble_eq_true c3
          have c5 := Nat.le_of_ble_eq_true c5
          have c4 := Nat.eq_of_beq_eq_true c4
          rw [len_eq] at c4
          obtain ⟨hr, rfl, rfl⟩ := newA_some h
          have hzl := (hzr m).cells
          have hzs : zv.cells.size = ie.size := by rw [← c4, hzl.length]; simp
          have hcr := rep_rel hzl cn ie.size hzs
          obtain ⟨m', s', r', hk', hext, hm'⟩ := r.row hk hr (hid _ (Nat.le_refl _) (Nat.lt_succ_self _)) (sl := false) (sz := ie.size) (lo := 0) (hi := 0) (e := elem) (c := (Array.range (cn * ie.size)).map (zv.cells[· % zv.cells.size]!)) (rest := []) hcr (by simp) (fun _ => rfl) (fun i hi => by omega) w.drawn
          refine ⟨m', .slice (some ⟨w.heap.size, 0 + 0, none⟩) ln cn, _, ?_, s', r', hk', ?_⟩
          · have w1 : IntKind.i64.wrap (ln : Int) = (ln : Int) := wrap_small .i64 ln (by simp [top]; omega)
            have w2 : IntKind.i64.wrap (cn : Int) = (cn : Int) := wrap_small .i64 cn (by simp [top]; omega)
            have hmul : ie.bytes * cn ≤ 1048576 * 16777216 := Nat.mul_le_mul (by omega) c2
            have hmul' : ¬ ((ie.bytes : Int) * (cn : Int) > 2 ^ 48) := by
              have : (ie.bytes : Int) * (cn : Int) = ((ie.bytes * cn : Nat) : Int) := by simp
              rw [this]
              omega
            have hlc : ¬ ((ln : Int) > (cn : Int)) := by omega
            by_cases h0 : cn * ie.size = 0
            · simp [Instr.makeSlice, run_underlying ht, asInt, asIntOf, typeInfo, hie, w1, w2, sizeOf, newRow, pushed, hlc, h0, Array.range_zero']
              exact fun hgt => absurd hgt (by omega)
            · simp [Instr.makeSlice, run_underlying ht, asInt, asIntOf, typeInfo, hie, w1, w2, sizeOf, newRow, pushed, zeroValue, hzv, hlc, h0]
              exact fun hgt => absurd hgt (by omega)
          · exact VRel.slice hm' (.inl rfl)
        · cases h
      · cases h
    · cases h
  · cases h
end
end Go.Ev
