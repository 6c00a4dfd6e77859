/- Maps: the operations; len. -/
import Derived.Test.YtginbifeinpciaaGreatEvS13
import Derived.MapKept
namespace Go.Ev
open Go

section
variable {P : Program} {m : BM} {H : AH} {w : World}
theorem isMap_some {x : Option TypeDesc} {k e : TypeId} (h : isMap x = some (k, e)) : x = some (.map k e) := by
  unfold isMap at h
  split at h
  · injection h with h; injection h with h1 h2; rw [h1, h2]
  · cases h
theorem entriesOf_some {x : Option ABlk} {es : List (AV × AV)} (h : entriesOf x = some es) : x = some (.map es) := by
  unfold entriesOf at h
  split at h
  · injection h with h; rw [h]
  · cases h
theorem mapOk_nil (m : BM) : MapOk m [] #[] := ⟨[], .refl _, ⟨none, fun e he => by cases he⟩, .nil, .nil, .nil⟩
theorem bornOk_nil : BornOk #[] 0 := ⟨fun x hx => by simp at hx, by simp⟩
theorem bornOk_push {ces : Array MapEntry} {clock : Nat} (h : BornOk ces clock) (k v : Value) : BornOk (ces.push { key := k, val := v, born := clock }) (clock + 1) := by
  obtain ⟨h1, h2⟩ := h
  refine ⟨fun x hx => ?_, ?_⟩
  · rw [Array.toList_push] at hx
    rcases List.mem_append.1 hx with hx | hx
    · exact Nat.lt_succ_of_lt (h1 x hx)
    · simp at hx; subst hx; exact Nat.lt_succ_self _
  · rw [Array.toList_push, List.map_append]
    refine List.nodup_append.2 ⟨h2, by simp, fun a ha b hb => ?_⟩
    obtain ⟨x, hx, rfl⟩ := List.mem_map.1 ha
    simp at hb; subst hb
    exact Nat.ne_of_lt (h1 x hx)
theorem bornOk_of_list {ces ces' : Array MapEntry} {clock : Nat} (h : BornOk ces clock) (he : ces'.toList.map (·.born) = ces.toList.map (·.born)) : BornOk ces' clock := by
  obtain ⟨h1, h2⟩ := h
  refine ⟨fun x hx => ?_, he ▸ h2⟩
  have : x.born ∈ ces'.toList.map (·.born) := List.mem_map.2 ⟨x, hx, rfl⟩
  rw [he] at this
  obtain ⟨y, hy, e⟩ := List.mem_map.1 this
  rw [← e]; exact h1 y hy
theorem bornOk_sub {ces ces' : Array MapEntry} {clock : Nat} (h : BornOk ces clock) (he : ces'.toList.Sublist ces.toList) : BornOk ces' clock :=
  ⟨fun x hx => h.1 x (he.subset hx), h.2.sublist (he.map _)⟩
theorem Rel.mapAt (r : Rel m H.get w) {b : Nat} {cb : CB} {es : List (AV × AV)} (hg : H.get b = some (.map es)) (hb : m b = some cb) : cb.base = 0 ∧ cb.room = 1 ∧ ∃ ces clock, w.heap[cb.blk]? = some (.map ces clock) ∧ MapOk m es ces ∧ BornOk ces clock := r.live b _ cb hg hb

theorem lookup_run (r : Rel m H.get w) {t : TypeId} {x k v : AV} {ok : Bool} {ux uk : Value} (h : lookupA P t x k ok H = some v) (hx : VRel m x ux) (hk : VRel m k uk) : ∃ z, (Instr.lookup t ux uk ok).run P w = .ok z w ∧ VRel m v z := by
  unfold lookupA at h
  split at h
  · rename_i key elem ht
    have ht := isMap_some ht
    split at h
    · rename_i hkey
      obtain ⟨κ, hkk, hd'⟩ := keyA_some hkey
      have hd : ∃ d, P.underlying key = some d ∧ ((κ = none ∧ d = .string) ∨ ∃ j, κ = some j ∧ d = .int j) := by
        rcases hd' with ⟨h1, h2⟩ | ⟨j, h1, h2⟩
        · exact ⟨_, h2, .inl ⟨h1, rfl⟩⟩
        · exact ⟨_, h2, .inr ⟨j, h1, rfl⟩⟩
      obtain ⟨d, hkt, hd⟩ := hd
      unfold look2 at h
      split at h
      · rename_i z hz
        obtain ⟨zv, hzv, hzr⟩ := zeroT_run (P := P) hz w
        unfold look1 at h
        split at h
        · rename_i es hes
          split at h
          · rename_i hkd
            injection h with h
            subst h
            have hents : ∃ ces, MapOk m es ces ∧ ∀ q, (Instr.findKey key uk ces.toList).run P w = .ok q w → (Instr.lookup t ux uk ok).run P w =
                .ok (match q with | some p => (match ok with | true => .tuple #[p.2, .bool true] | false => p.2) | none => (match ok with | true => .tuple #[zv, .bool false] | false => zv)) w := by
              unfold entriesIn at hes
              split at hes
              · injection hes with hes
                subst hes
                cases hx
                refine ⟨#[], mapOk_nil m, fun q hq => ?_⟩
                cases q <;> cases ok <;> simp [Instr.lookup, run_underlying ht, checkKey_run hkt hd] <;> simp [hq, hzv]
              · have hg := entriesOf_some hes
                cases hx with
                | map hb =>
                  obtain ⟨_, _, ces, clock, hw, hm, hbn⟩ := r.mapAt hg hb
                  refine ⟨ces, hm, fun q hq => ?_⟩
                  cases q <;> cases ok <;> simp [Instr.lookup, run_underlying ht, MapKept.run_getObj_map hw, checkKey_run hkt hd, hq, hzv]
              · cases hes
            obtain ⟨ces, hm, hrun⟩ := hents
            have hkinds := kdOk_key hkd hkk hm.choose_spec.2.1
            rcases find_run hd hkk hk hm hkinds with ⟨h1, h2, _⟩ | ⟨c1, e, c2, e1, v', e2, l1, l2, h0, h1, h2, h3, h4, h5, _, _, h6, _⟩
            · have hf := findKey_run (P := P) hkt h1 w
              rw [h2, hrun _ hf]
              cases ok with
              | true => exact ⟨_, rfl, .tup (.cons (hzr m) (.cons (.bool _) .nil))⟩
              | false => exact ⟨_, rfl, hzr m⟩
            · have hf := findKey_run (P := P) hkt h1 w
              rw [h5, hrun _ hf]
              cases ok with
              | true => exact ⟨_, rfl, .tup (.cons h6 (.cons (.bool _) .nil))⟩
              | false => exact ⟨_, rfl, h6⟩
          · cases h
        · cases h
      · cases h
    · cases h
  · cases h

/-- What putting into a map and deleting from it share. -/
theorem mapDo_some {t : TypeId} {x k : AV} {f : List (AV × AV) → List (AV × AV)} {nl : Option AH} {H' : AH} (h : mapDo P t x k H f nl = some H') :
    ∃ key elem κ d, P.underlying t = some (.map key elem) ∧ P.underlying key = some d ∧ KeyK κ k ∧ ((κ = none ∧ d = .string) ∨ ∃ j, κ = some j ∧ d = .int j) ∧
      ((x = .mnil ∧ nl = some H') ∨ ∃ r es, x = .map r ∧ H.get r = some (.map es) ∧ kdOk k es = true ∧ H' = H.put r (.map (f es))) := by
  unfold mapDo at h
  split at h
  · rename_i key elem ht
    have ht := isMap_some ht
    split at h
    · rename_i hkey
      obtain ⟨κ, hkk, hd'⟩ := keyA_some hkey
      have hd : ∃ d, P.underlying key = some d ∧ ((κ = none ∧ d = .string) ∨ ∃ j, κ = some j ∧ d = .int j) := by
        rcases hd' with ⟨h1, h2⟩ | ⟨j, h1, h2⟩
        · exact ⟨_, h2, .inl ⟨h1, rfl⟩⟩
        · exact ⟨_, h2, .inr ⟨j, h1, rfl⟩⟩
      obtain ⟨d, hkt, hd⟩ := hd
      refine ⟨key, elem, κ, d, ht, hkt, hkk, hd, ?_⟩
      split at h
      · rename_i r
        unfold mapPut at h
        split at h
        · rename_i es hes
          split at h
          · rename_i hkd
            injection h with h
            exact .inr ⟨r, es, rfl, entriesOf_some hes, hkd, h.symm⟩
          · cases h
        · cases h
      · exact .inl ⟨rfl, h⟩
      · cases h
    · cases h
  · cases h
theorem Rel.mapSet (r : Rel m H.get w) (hk : HOk H) {b : Nat} {cb : CB} {es es' : List (AV × AV)} {ces ces' : Array MapEntry} {clock clock' : Nat} (hg : H.get b = some (.map es)) (hb : m b = some cb)
    (hw : w.heap[cb.blk]? = some (.map ces clock)) (hm : MapOk m es' ces') (hbn : BornOk ces' clock') :
    Step m H.get H.nx w m (H.put b (.map es')).get (H.put b (.map es')).nx (turned w cb.blk (.map ces' clock')) ∧ Rel m (H.put b (.map es')).get (turned w cb.blk (.map ces' clock')) ∧ HOk (H.put b (.map es')) := by
  have hbd := r.dom b cb hb
  obtain ⟨h1, h2, _⟩ := r.mapAt hg hb
  obtain ⟨r', s'⟩ := Rel.obj (nx := H.nx) (h' := (H.put b (.map es')).get) (x' := .map es') (o := .map ces' clock') r hb hg h1 h2 (fun c e f h => by rw [hw] at h; cases h) (fun j hj => AH.get_put H b _ j hbd.1 hj)
    ⟨h1, h2, ces', clock', turned_same hbd.2, hm, hbn⟩
  exact ⟨s', r', hk.put _ (hk.lt hbd.1 hg)⟩

theorem modify_mid {α : Type} (f : α → α) (e : α) (c2 : List α) : ∀ c1 : List α, (c1 ++ e :: c2).modify c1.length f = c1 ++ f e :: c2
  | [] => by simp
  | a :: c1 => by simp [modify_mid f e c2 c1]
theorem lrel_mid {l1 l2 : List AV} {r1 r2 : List Value} {v : AV} {u : Value} (h1 : LRel m l1 r1) (h : VRel m v u) (h2 : LRel m l2 r2) : LRel m (l1 ++ v :: l2) (r1 ++ u :: r2) := h1.append (.cons h h2)

theorem update_run (r : Rel m H.get w) (hk : HOk H) {t : TypeId} {x k v : AV} {ux uk uv : Value} {H' : AH} (h : updateA P t x k v H = some H') (hx : VRel m x ux) (hkr : VRel m k uk) (hv : VRel m v uv) :
    Res P (Instr.mapUpdate t ux uk uv) (fun _ _ => True) m H w H' := by
  obtain ⟨key, elem, κ, d, ht, hkt, hkk, hd, h1 | ⟨b, es, rfl, hg, hkd, rfl⟩⟩ := mapDo_some h
  · cases h1.2
  · cases hx with
    | map hb =>
      rename_i cb
      obtain ⟨_, _, ces, clock, hw, hm, hbn⟩ := r.mapAt hg hb
      have hkinds := kdOk_key hkd hkk hm.choose_spec.2.1
      rcases find_run hd hkk hkr hm hkinds with ⟨h1, h2, h3, _, hno⟩ | ⟨c1, e, c2, e1, v', e2, l1, l2, h0, h1, h2, hsame, hes, h4, h5, _, h6, hp, q1, q2, q3, q4⟩
      · have hf := findKey_run (P := P) hkt h1 w
        obtain ⟨l, hpl, hkds, hl1, hl2, hdist⟩ := hm
        obtain ⟨s', r', hk'⟩ := r.mapSet hk (es' := putM k v es) (ces' := ces.push { key := uk, val := uv, born := clock }) (clock' := clock + 1) hg hb hw ⟨l ++ [{ key := uk, val := uv, born := clock }], by
            rw [Array.toList_push]; exact hpl.append_right _, ⟨κ, fun e' he' => by
            rw [h3] at he'
            rcases List.mem_append.1 he' with he' | he'
            · exact hkinds e' he'
            · simp at he'; subst he'; exact hkk⟩, by
            rw [h3, List.map_append, List.map_append]; exact hl1.append (.cons hkr .nil), by
            rw [h3, List.map_append, List.map_append]; exact hl2.append (.cons hv .nil), by
            rw [h3]
            refine List.pairwise_append.2 ⟨hdist, List.pairwise_singleton _ _, fun a ha b hb => ?_⟩
            simp at hb; subst hb
            exact hno a ha⟩ (bornOk_push hbn uk uv)
        refine ⟨m, (), _, ?_, s', r', hk', trivial⟩
        simp [Instr.mapUpdate, run_underlying ht, MapKept.run_getObj_map hw, checkKey_run hkt hd, hf, MapKept.run_setObj_map _ hw, turned]
      · have hf := findKey_run (P := P) hkt h1 w
        have hci : ces[c1.length]? = some e := by rw [← Array.getElem?_toList, h0]; simp
        have hmod : (ces.modify c1.length fun e => { e with key := uk, val := uv }).toList = c1 ++ { e with key := uk, val := uv } :: c2 := by
          rw [Array.toList_modify, h0, modify_mid]
        have hdist : es.Pairwise (fun a b => a.1 ≠ b.1) := by obtain ⟨_, _, _, _, _, hd⟩ := hm; exact hd
        obtain ⟨s', r', hk'⟩ := r.mapSet hk (es' := putM k v es) (ces' := ces.modify c1.length fun e => { e with key := uk, val := uv }) (clock' := clock) hg hb hw ⟨l1 ++ { e with key := uk, val := uv } :: l2, by
            rw [hmod]
            exact (List.perm_middle.trans ((List.perm_cons _).2 hp)).trans List.perm_middle.symm, ⟨κ, fun e' he' => by
            rw [h5] at he'
            rcases List.mem_append.1 he' with he' | he'
            · exact hkinds e' (by rw [hes]; exact List.mem_append_left _ he')
            · cases he' with
              | head => exact hkk
              | tail _ he' => exact hkinds e' (by rw [hes]; exact List.mem_append_right _ (List.mem_cons_of_mem _ he'))⟩, by
            rw [h5, List.map_append, List.map_append]; exact lrel_mid q1 hkr q2, by
            rw [h5, List.map_append, List.map_append]; exact lrel_mid q3 hv q4, by
            rw [h5]
            rw [hes] at hdist
            have h9 : (e1 ++ (k, v') :: e2).map (·.1) = (e1 ++ (k, v) :: e2).map (·.1) := by simp
            have h10 := (List.pairwise_map (f := fun p : AV × AV => p.1) (R := fun a b => a ≠ b)).2 hdist
            rw [h9] at h10
            exact List.pairwise_map.1 h10⟩ (bornOk_of_list hbn (by rw [hmod, h0]; simp))
        refine ⟨m, (), _, ?_, s', r', hk', trivial⟩
        have hks : (Instr.keyThatStays e.key uk).run P w = .ok uk w := by simp [Instr.keyThatStays, hsame]
        simp [Instr.mapUpdate, run_underlying ht, MapKept.run_getObj_map hw, checkKey_run hkt hd, hf, MapKept.run_setObj_map _ hw, turned, hci, hks]

theorem delete_run (r : Rel m H.get w) (hk : HOk H) {ats : Array TypeId} {ty t : TypeId} {args : Array Value} {x k : AV} {ux uk : Value} {H' : AH} (h : deleteA P t x k H = some H')
    (ht0 : ats[0]? = some t) (h0 : args[0]? = some ux) (h1 : args[1]? = some uk) (hx : VRel m x ux) (hkr : VRel m k uk) : Res P (Builtin.delete_ ats ty args) (fun m' z => VRel m' Ev.und z) m H w H' := by
  obtain ⟨key, elem, κ, d, ht, hkt, hkk, hd, h2 | ⟨b, es, rfl, hg, hkd, rfl⟩⟩ := mapDo_some h
  · obtain ⟨rfl, h2⟩ := h2
    injection h2 with h2
    subst h2
    cases hx
    exact .pure r hk (a := .tuple #[]) (by simp [Builtin.delete_, ht0, h0, h1, run_underlying ht, checkKey_run hkt hd]) (.und m)
  · cases hx with
    | map hb =>
      rename_i cb
      obtain ⟨_, _, ces, clock, hw, hm, hbn⟩ := r.mapAt hg hb
      have hkinds := kdOk_key hkd hkk hm.choose_spec.2.1
      rcases find_run hd hkk hkr hm hkinds with ⟨f1, f2, _, f3, hno⟩ | ⟨c1, e, c2, e1, v', e2, l1, l2, f0, f1, f2, hsame, hes, f4, _, f5, f6, hp, q1, q2, q3, q4⟩
      · have hf := findKey_run (P := P) hkt f1 w
        obtain ⟨s', r', hk'⟩ := r.mapSet hk (es' := delM k es) (ces' := ces) (clock' := clock) hg hb hw (by rw [f3]; exact hm) hbn
        refine ⟨m, .tuple #[], _, ?_, s', r', hk', .und _⟩
        simp [Builtin.delete_, ht0, h0, h1, run_underlying ht, MapKept.run_getObj_map hw, checkKey_run hkt hd, hf, MapKept.run_setObj_map _ hw, turned]
      · have hf := findKey_run (P := P) hkt f1 w
        have hdist : es.Pairwise (fun a b => a.1 ≠ b.1) := by obtain ⟨_, _, _, _, _, hd⟩ := hm; exact hd
        have hers : (ces.eraseIdxIfInBounds c1.length).toList = c1 ++ c2 := by
          have hlt : c1.length < ces.size := by rw [← Array.length_toList, f0]; simp
          unfold Array.eraseIdxIfInBounds
          rw [dif_pos hlt, Array.toList_eraseIdx, f0]
          simp [List.eraseIdx_append_of_length_le]
        obtain ⟨s', r', hk'⟩ := r.mapSet hk (es' := delM k es) (ces' := ces.eraseIdxIfInBounds c1.length) (clock' := clock) hg hb hw ⟨l1 ++ l2, by rw [hers]; exact hp, ⟨κ, fun e' he' => by
            rw [f5] at he'
            refine hkinds e' ?_
            rw [hes]
            rcases List.mem_append.1 he' with he' | he'
            · exact List.mem_append_left _ he'
            · exact List.mem_append_right _ (List.mem_cons_of_mem _ he')⟩, by
            rw [f5, List.map_append, List.map_append]; exact q1.append q2, by
            rw [f5, List.map_append, List.map_append]; exact q3.append q4, by
            rw [f5]
            rw [hes] at hdist
            exact hdist.sublist (List.Sublist.append (List.Sublist.refl _) (List.sublist_cons_self _ _))⟩ (bornOk_sub hbn (by rw [hers, f0]; exact List.Sublist.append (List.Sublist.refl _) (List.sublist_cons_self _ _)))
        refine ⟨m, .tuple #[], _, ?_, s', r', hk', .und _⟩
        simp [Builtin.delete_, ht0, h0, h1, run_underlying ht, MapKept.run_getObj_map hw, checkKey_run hkt hd, hf, MapKept.run_setObj_map _ hw, turned]

theorem makeMap_run (r : Rel m H.get w) (hk : HOk H) {t : TypeId} {ro : Option (Option AV)} {uo : Option Value} {v : AV} {H' : AH} (h : opMakeMap H ro (P.underlying t) = some (.val v H')) (hid : ∀ b, H.nx ≤ b → b < H'.nx → m b = none)
    (hr : ∀ o, ro = some o → ORel m o uo) : Res P (Instr.makeMap t uo) (fun m' z => VRel m' v z) m H w H' := by
  unfold opMakeMap at h
  split at h
  · rename_i key elem ht
    split at h
    · rename_i hh
      obtain ⟨hroom, rfl, rfl⟩ := newA_some h
      have hlt := AH.room_lt hroom
      have hidn := hid _ (Nat.le_refl _) (Nat.lt_succ_self _)
      obtain ⟨r', s'⟩ := Rel.new (h' := (H.grown (.map [])).get) (nx := H.nx) (x := .map []) (cb := ⟨w.heap.size, 0, 0, 1, 0⟩) (o := .map #[] 0) (d := w.drawn)
        r hlt rfl hidn rfl (fun j hj => AH.get_grown H _ j hlt hj) ⟨rfl, rfl, #[], 0, pushed_new, mapOk_nil _, bornOk_nil⟩
      refine ⟨_, .map (some w.heap.size), _, ?_, s', r', hk.grown _ hlt, .map (BM.upd_same m H.nx _)⟩
      unfold hintOk at hh
      split at hh
      · have := hr none rfl
        cases uo with
        | none => simp [Instr.makeMap, pushed]
        | some _ => exact absurd this id
      · rename_i k n
        have := hr (some (.int k n)) rfl
        cases uo with
        | none => exact absurd this id
        | some u =>
          cases this
          simp [Instr.makeMap, pushed, run_underlying ht, asInt, asIntOf]
      · cases hh
    · cases h
  · cases h

theorem len_run (r : Rel m H.get w) {ats : Array TypeId} {ty t : TypeId} {args : Array Value} {x v : AV} {ux : Value} (h : lenA P x H (P.underlying t) = some v) (ht0 : ats[0]? = some t) (h0 : args[0]? = some ux) (hx : VRel m x ux) :
    ∃ z, (Builtin.len_ ats ty args).run P w = .ok z w ∧ VRel m v z := by
  unfold lenA at h
  split at h
  · rename_i ht
    split at h
    · rename_i s
      injection h with h
      subst h
      cases hx
      exact ⟨goInt s.length, by simp [Builtin.len_, ht0, h0, run_underlying ht, size_mk], by rw [len_eq]; exact .int _ _⟩
    · cases h
  · rename_i n e ht
    injection h with h
    subst h
    exact ⟨goInt n, by simp [Builtin.len_, ht0, h0, run_underlying ht], .int _ _⟩
  · rename_i arr ht
    unfold lenArr at h
    split at h
    · rename_i n e ha
      injection h with h
      subst h
      exact ⟨goInt n, by simp [Builtin.len_, ht0, h0, run_underlying ht, run_underlying ha], .int _ _⟩
    · cases h
  · rename_i e ht
    split at h
    · injection h with h
      subst h
      cases hx <;> exact ⟨goInt _, by simp [Builtin.len_, ht0, h0, run_underlying ht], .int _ _⟩
    · injection h with h
      subst h
      cases hx
      exact ⟨goInt 0, by simp [Builtin.len_, ht0, h0, run_underlying ht], .int _ _⟩
    · cases h
  · rename_i key e ht
    unfold lenM at h
    split at h
    · rename_i es hes
      injection h with h
      subst h
      unfold entriesIn at hes
      split at hes
      · injection hes with hes
        subst hes
        cases hx
        exact ⟨goInt 0, by simp [Builtin.len_, ht0, h0, run_underlying ht], .int _ _⟩
      · have hg := entriesOf_some hes
        cases hx with
        | map hb =>
          obtain ⟨_, _, ces, clock, hw, ⟨l, hp, _, h1, _⟩, _⟩ := r.mapAt hg hb
          have hlen : es.length = ces.size := by
            have e1 := h1.length
            have e2 := hp.length_eq
            simp at e1 e2
            omega
          refine ⟨goInt ces.size, by simp [Builtin.len_, ht0, h0, run_underlying ht, MapKept.run_getObj_map hw], ?_⟩
          rw [len_eq, hlen]
          exact .int _ _
      · cases hes
    · cases h
  · cases h
end
end Go.Ev
