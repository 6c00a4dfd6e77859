/- append, copy, clear, len, min and max. -/
import Derived.Test.YtginbifeinpciaaGreatEvS10
import Derived.Laws.AppendOwn
namespace Go.Ev
open Go

section
variable {P : Program} {m : BM} {H : AH} {w : World}
theorem lenOfA_run {x : AV} {n : Nat} {u : Value} (h : lenOfA x = some n) (hx : VRel m x u) (w : World) : (Builtin.lenOf u).run P w = .ok n w := by
  unfold lenOfA at h
  split at h
  · injection h with h; subst h; cases hx <;> simp [Builtin.lenOf]
  · injection h with h; subst h; cases hx; simp [Builtin.lenOf]
  · injection h with h; subst h; cases hx; simp [Builtin.lenOf, size_mk, len_eq]
  · cases h
theorem firstA_run (r : Rel m H.get w) {size n k : Nat} {x : AV} {l : List AV} {u : Value} (h : firstA H size n x = some l) (hx : VRel m x u) (hk : lenOfA x = some k) (hn : n ≤ k) :
    ∃ a, (Builtin.firstCells size n u).run P w = .ok a w ∧ LRel m l a.toList := by
  unfold firstA at h
  split at h
  · cases hx with
    | slice hb hc =>
      obtain ⟨a, ha, hl, _⟩ := loadA_run (P := P) r h hb
      exact ⟨a, by simp only [Builtin.firstCells]; exact ha, hl⟩
    | slice0 a hb =>
      simp only [lenOfA] at hk
      injection hk with hk
      have hn0 : n = 0 := by omega
      subst hn0
      obtain ⟨a', ha, hl, hlen⟩ := loadA_run (P := P) r h hb
      have e1 : l = [] := List.length_eq_zero_iff.1 (by rw [hlen]; show 0 * size = 0; simp)
      subst e1
      exact ⟨#[], by simp [Builtin.firstCells, loadCells, loadCellsFrom], .nil⟩
  · cases hx
    injection h with h
    subst h
    exact ⟨#[], by simp [Builtin.firstCells], .nil⟩
  · rename_i s
    cases hx
    injection h with h
    subst h
    refine ⟨_, by simp only [Builtin.firstCells]; rfl, ?_⟩
    rw [tk_eq]
    have := u8s_rel m (s.take n)
    simpa [ByteArray.data_extract, List.extract_eq_take_drop] using this
  · cases h

theorem killFor_some {size : Nat} {s : AV} {H' : AH} (h : killFor H size s = some H') :
    (s = .snil ∧ H' = H) ∨ ∃ b o n c sl sz l, s = .slice b o n c ∧ H.get b = some (.cells sl sz l) ∧
      ((H' = H ∧ (sl = false ∨ (sz = size ∧ o + c * size ≠ l.length))) ∨ (H' = H.kill b ∧ sz = size)) := by
  unfold killFor at h
  split at h
  · injection h with h; exact .inl ⟨rfl, h.symm⟩
  · rename_i b o n c
    unfold killAt at h
    split at h
    · rename_i sl sz l hg
      split at h
      · injection h with h
        exact .inr ⟨b, o, n, c, _, _, _, rfl, hg, .inl ⟨h.symm, .inl rfl⟩⟩
      · split at h
        · cases h
        · rename_i hsz
          have hsz := Nat.eq_of_beq_eq_true hsz
          split at h
          · rename_i he
            injection h with h
            refine .inr ⟨b, o, n, c, _, _, _, rfl, hg, .inl ⟨h.symm, .inr ⟨hsz, fun e => ?_⟩⟩⟩
            have e' : (Nat.add o (Nat.mul c size)) = len l := by rw [len_eq]; exact e
            rw [e'] at he
            have : Nat.beq (len l) (len l) = true := Nat.beq_refl _
            rw [this] at he
            cases he
          · injection h with h
            exact .inr ⟨b, o, n, c, _, _, _, rfl, hg, .inr ⟨h.symm, hsz⟩⟩
    · cases h
  · cases h

/-- What append asks of types. -/
structure AppT (P : Program) (ats : Array TypeId) (elem : TypeId) (ie : TypeInfo) (zv : Value) : Prop where
  t0 : ∃ t, ats[0]? = some t ∧ P.underlying t = some (.slice elem)
  t1 : ∃ t d, ats[1]? = some t ∧ P.underlying t = some d ∧ ∀ k, d ≠ .int k
  inf : P.info? elem = some ie
  z : ie.zero = some zv

theorem append_place {ats : Array TypeId} {ty elem : TypeId} {ie : TypeInfo} {zv : Value} (T : AppT P ats elem ie zv) {args : Array Value} {base : Option Addr} {sLen sCap n : Nat} {u : Value}
    (h0 : args[0]? = some (.slice base sLen sCap)) (h1 : args[1]? = some u) (hlen : ∀ w, (Builtin.lenOf u).run P w = .ok n w) (hroom : sLen + n ≤ sCap) {a : Array Value} (ha : (Builtin.firstCells ie.size n u).run P w = .ok a w) :
    (Builtin.append_ ats ty args).run P w = ((match base with | some b => storeCells (b.add (sLen * ie.size)) a.toList | none => pure () : Sem Unit).run P w).andThen fun _ w' => .ok (.slice base (sLen + n) sCap) w' := by
  obtain ⟨t0, e0, u0⟩ := T.t0
  obtain ⟨t1, d, e1, u1, hd⟩ := T.t1
  cases base with
  | none => simp [Builtin.append_, e0, e1, h0, h1, run_underlying u0, run_underlying u1, hlen, hroom, ha, sizeOf, typeInfo, T.inf]
  | some b => simp [Builtin.append_, e0, e1, h0, h1, run_underlying u0, run_underlying u1, hlen, hroom, ha, sizeOf, typeInfo, T.inf]
theorem append_new {ats : Array TypeId} {ty elem : TypeId} {ie : TypeInfo} {zv : Value} (T : AppT P ats elem ie zv) {args : Array Value} {base : Option Addr} {sLen sCap n : Nat} {u : Value}
    (h0 : args[0]? = some (.slice base sLen sCap)) (h1 : args[1]? = some u) (hlen : ∀ w, (Builtin.lenOf u).run P w = .ok n w) (hroom : ¬ sLen + n ≤ sCap) {a old : Array Value}
    (ha : (Builtin.firstCells ie.size n u).run P w.drew = .ok a w.drew) (hold : (Builtin.firstCells ie.size sLen (.slice base sLen sCap)).run P w.drew = .ok old w.drew)
    (hneed : sLen + n ≤ 16777216) (hb : 1 ≤ ie.bytes) (hb' : ie.bytes ≤ 1048576) :
    (Builtin.append_ ats ty args).run P w = .ok (.slice (some ⟨w.heap.size, 0, none⟩) (sLen + n) (grownCap w (sLen + n) sCap elem))
      (w.drew.alloc (.cells (old ++ a ++ Builtin.zeroCells zv.cells (grownCap w (sLen + n) sCap elem - (sLen + n))) elem)) := by
  obtain ⟨t0, e0, u0⟩ := T.t0
  obtain ⟨t1, d, e1, u1, hd⟩ := T.t1
  have hmul : (sLen + n) * ie.bytes ≤ 140737488355328 := Nat.le_trans (Nat.mul_le_mul hneed hb') (by decide)
  have hfit := growslice_fits (need := sLen + n) (old := sCap) (bytes := ie.bytes) (by omega) hmul
  have h48 : ¬ (281474976710656 < Builtin.nextslicecap (sLen + n) sCap * ie.bytes) := by omega
  have hb0 : ¬ (ie.bytes = 0) := by omega
  simp [Builtin.append_, e0, e1, h0, h1, run_underlying u0, run_underlying u1, hlen, hroom, ha, hold, sizeOf, typeInfo, T.inf, hb0, h48, zeroValue, T.z, Question.forced, newRow, grownCap]

/-- The slack behind a block is the slice's own. -/
theorem append_slack (r : Rel m H.get w) (hk : HOk H) (hr : H.room = true) (hid : m H.nx = none) {b o sLen sCap c' n size : Nat} {cb : CB} {l old new : List AV} {us : List Value} (hb : m b = some cb)
    (hg : H.get b = some (.cells true size l)) (hsz : 0 < size) (hend : o + sCap * size = l.length) (hfit : o + c' * size ≤ cb.room) (hneed : sLen + n ≤ c')
    (hold : old = (l.drop o).take (sLen * size)) (hol : old.length = sLen * size) (hnl : new.length = n * size) (hu : LRel m new us) (h1 : ones new = true) :
    Res P (storeCells ⟨cb.blk, cb.base + o + sLen * size, none⟩ us) (fun m' _ => VRel m' (.slice H.nx 0 (sLen + n) (sLen + n)) (.slice (some ⟨cb.blk, cb.base + o, none⟩) (sLen + n) c')) m H w ((H.kill b).grown (.cells true size (old ++ new))) := by
  have hbd := r.dom b cb hb
  have hlt := AH.room_lt hr
  obtain ⟨ca, e, lo, hi, k5, k6, k7, k1, k2, k3, k4, k8⟩ := r.at_ hg hb
  have hlen := hu.length
  have hmul : (sLen + n) * size ≤ c' * size := Nat.mul_le_mul_right _ hneed
  have hmul' : (sLen + n) * size = sLen * size + n * size := Nat.add_mul _ _ _
  obtain ⟨c2, hrun, hz, hc2⟩ := run_stores (P := P) (B := cb.blk) (off := cb.base + o + sLen * size) us 0 w ca k5 (by omega) (fun j h2 h3 => by
    have := k7 (j - cb.base) (by omega)
    rw [show cb.base + (j - cb.base) = j from by omega] at this
    exact this) (hu.ones h1)
  obtain ⟨r', s'⟩ := Rel.regrow (h' := ((H.kill b).grown (.cells true size (old ++ new))).get) (b' := H.nx) (nx := H.nx) (o := o) (n' := (sLen + n) * size) (sz' := size) (l' := old ++ new) r hb hg k5 hz
    (by omega) (by simp [hol, hnl, hmul']) (fun i hi => by rw [hc2 i, if_neg (by omega)])
    (fun i v hv => by
      rw [hc2]
      by_cases h3 : i < old.length
      · rw [List.getElem?_append_left h3, hold, List.getElem?_take_of_lt (by omega), List.getElem?_drop] at hv
        rw [if_neg (by omega)]
        obtain ⟨_, _, _, _, c9, e9, lo9, hi9, q5, _, _, q8⟩ := r.live b _ cb hg hb
        rw [k5] at q5
        injection q5 with q5
        injection q5 with q5
        subst q5
        rw [Nat.add_assoc]
        exact q8 _ v hv
      · rw [List.getElem?_append_right (by omega)] at hv
        obtain ⟨u, hu', hru⟩ := hu.get hv
        have hi : i - old.length < us.length := by
          rcases Nat.lt_or_ge (i - old.length) us.length with h6 | h6
          · exact h6
          · rw [List.getElem?_eq_none h6] at hu'; cases hu'
        rw [if_pos (by omega)]
        exact ⟨u, by rw [show cb.base + o + i - (cb.base + o + sLen * size + 0) = i - old.length from by omega]; exact hu', hru⟩)
    hlt rfl hid (fun j hj => by
      have e1 := AH.get_grown (H.kill b) (.cells true size (old ++ new)) j hlt hj
      rw [e1]
      by_cases h3 : j = H.nx
      · rw [if_pos h3, if_pos (show j = (H.kill b).nx from h3)]
      · rw [if_neg h3, if_neg (show ¬ j = (H.kill b).nx from h3), AH.get_kill H b j hbd.1 hj])
  refine ⟨_, (), _, hrun, s', r', (hk.kill hbd.1).grown _ hlt, ?_⟩
  have := VRel.slice (n := sLen + n) (o := 0) (c := sLen + n) (c' := c') (BM.upd_same m H.nx ⟨cb.blk, cb.base + o, (sLen + n) * size, cb.room - o, size⟩) (by
    by_cases h4 : c' = sLen + n
    · exact .inl h4
    · exact .inr ⟨by omega, by simp, by simp; omega, hsz⟩)
  simpa using this

theorem zeroCells_toList (z : Array Value) (n : Nat) : (Builtin.zeroCells z n).toList.length = n * z.size := by rw [Array.length_toList, size_zeroCells]

theorem append_run (r : Rel m H.get w) (hk : HOk H) {ats : Array TypeId} {ty t xt : TypeId} {args : Array Value} {s x v : AV} {us ux : Value} {H' : AH} (h : appendA P t xt s x H = some (.val v H'))
    (hid : ∀ b, H.nx ≤ b → b < H'.nx → m b = none) (ht0 : ats[0]? = some t) (ht1 : ats[1]? = some xt) (h0 : args[0]? = some us) (h1 : args[1]? = some ux) (hs : VRel m s us) (hx : VRel m x ux) :
    Res P (Builtin.append_ ats ty args) (fun m' z => VRel m' v z) m H w H' := by
  unfold appendA at h
  split at h
  · cases h
  · rename_i hint
    split at h
    · rename_i elem hel
      have hel := isSl_some hel
      unfold append1 at h
      split at h
      · rename_i size hsz
        obtain ⟨ie, hie, rfl⟩ := sizeT_some hsz
        split at h
        · rename_i bytes hby
          simp only [bytesT, hie, Option.map_some, Option.some.injEq] at hby
          subst hby
          split at h
          · rename_i z hz
            obtain ⟨it, zv, hit, hzv, hzr⟩ := zeroT_some hz
            rw [hie] at hit
            injection hit with hit
            subst hit
            have T : AppT P ats elem ie zv := by
              refine ⟨⟨t, ht0, hel⟩, ?_, hie, hzv⟩
              unfold isInt at hint
              split at hint
              · cases hint
              · rename_i d hd he
                exact ⟨xt, d, ht1, he, fun k hk => hd k (by rw [hk])⟩
              · cases hint
            unfold append2 at h
            split at h
            · rename_i n hn
              have hlen : ∀ w, (Builtin.lenOf ux).run P w = .ok n w := fun w => lenOfA_run hn hx w
              have main : ∀ (sLen sCap c' : Nat) (base : Option Addr), us = .slice base sLen c' → lenOfA s = some sLen → sCap ≤ c' →
                  appendN H s sLen sCap n ie.size ie.bytes z (firstA H ie.size n x) = some (.val v H') →
                  (s = .snil ∧ base = none ∧ sCap = 0 ∧ sLen = 0 ∧ c' = 0 ∨ ∃ b o cb, s = .slice b o sLen sCap ∧ m b = some cb ∧ (base = some ⟨cb.blk, cb.base + o, none⟩ ∧ SlOk cb o sCap c' ∨ (sLen = 0 ∧ sCap = 0 ∧ c' = 0 ∧ ∃ a, base = some a))) →
                  Res P (Builtin.append_ ats ty args) (fun m' z => VRel m' v z) m H w H' := by
                intro sLen sCap c' base hus hsl hcap h hcase
                subst hus
                unfold appendN at h
                split at h
                · rename_i new hnew
                  obtain ⟨a, ha, hla⟩ := firstA_run (P := P) r hnew hx hn (Nat.le_refl _)
                  split at h
                  · rename_i hle
                    have hle : sLen + n ≤ sCap := Nat.le_of_ble_eq_true hle
                    have hrun := append_place (w := w) T (ty := ty) h0 h1 hlen (by omega) ha
                    rcases hcase with ⟨rfl, rfl, rfl, rfl, rfl⟩ | ⟨b, o, cb, rfl, hb, hcase⟩
                    · simp only [inPlace] at h
                      injection h with h
                      injection h with e1 e2
                      subst e1; subst e2
                      have hn0 : n = 0 := by omega
                      subst hn0
                      exact .pure r hk (by rw [hrun]; simp) .snil
                    · simp only [inPlace] at h
                      obtain ⟨hst, rfl⟩ := hA_some h
                      rcases hcase with ⟨rfl, hc⟩ | ⟨e1, e2, e3, a0, rfl⟩
                      · obtain ⟨m', _, w', hr', s', r', hk', rfl⟩ := storeA_run (P := P) r hk hst hb hla
                        refine ⟨_, _, w', ?_, s', r', hk', VRel.slice hb hc⟩
                        rw [hrun]
                        simp only [add_eq]
                        have e9 : cb.base + o + sLen * ie.size = cb.base + (Nat.add o (Nat.mul sLen ie.size)) := Nat.add_assoc _ _ _
                        rw [e9, hr']
                        rfl
                      · subst e1; subst e2; subst e3
                        have hn0 : n = 0 := by omega
                        subst hn0
                        obtain ⟨m', _, w', hr', s', r', hk', rfl⟩ := storeA_run (P := P) r hk hst hb hla
                        have hnil : new = [] := by
                          unfold firstA at hnew
                          split at hnew
                          · unfold loadA at hnew
                            split at hnew
                            · unfold inRange at hnew
                              split at hnew
                              · injection hnew with hnew
                                rw [← hnew, cut_eq]
                                show List.take (0 * ie.size) _ = []
                                simp
                              · cases hnew
                            · cases hnew
                          · injection hnew with hnew; exact hnew.symm
                          · injection hnew with hnew; rw [← hnew]; rfl
                          · cases hnew
                        subst hnil
                        simp only [storeA] at hst
                        injection hst with hst
                        subst hst
                        have ha0 : a.toList = [] := by cases hla' : a.toList with
                          | nil => rfl
                          | cons q qs => rw [hla'] at hla; cases hla
                        refine .pure r hk (a := .slice (some a0) 0 0) ?_ (.slice0 _ hb)
                        rw [hrun]
                        simp [ha0, storeCells]
                  · rename_i hle
                    have hgt := not_ble hle
                    have hgt : sCap < sLen + n := hgt
                    split at h
                    · rename_i hmay
                      have hmay' : (Nat.beq (len z.cells) ie.size && (Nat.ble 1 ie.size && (Nat.beq (len new) (Nat.mul n ie.size) && (ones new && (Nat.ble (Nat.add sLen n) 16777216 && (Nat.ble ie.bytes 1048576 && Nat.ble 1 ie.bytes)))))) = true := hmay
                      simp only [Bool.and_eq_true] at hmay'
                      obtain ⟨c1, c2, c3, c4, c5, c6, c7⟩ := hmay'
                      have c1 := Nat.eq_of_beq_eq_true c1
                      have c2 := Nat.le_of_ble_eq_true c2
                      have c3 := Nat.eq_of_beq_eq_true c3
                      have c5 : sLen + n ≤ 16777216 := Nat.le_of_ble_eq_true c5
                      have c6 := Nat.le_of_ble_eq_true c6
                      have c7 := Nat.le_of_ble_eq_true c7
                      rw [len_eq] at c1 c3
                      unfold grown1 at h
                      split at h
                      · rename_i old hold
                        unfold grown2 at h
                        split at h
                        · rename_i H1 hH1
                          obtain ⟨hr1, rfl, rfl⟩ := newA_some h
                          have hnx : H1.nx = H.nx ∧ (∀ b0, H1 = H ∨ H1 = H.kill b0 ∨ True) := by
                            refine ⟨?_, fun _ => .inr (.inr trivial)⟩
                            rcases killFor_some hH1 with ⟨_, rfl⟩ | ⟨b, o, n', c, sl, sz, l, _, _, h9⟩
                            · rfl
                            · rcases h9 with ⟨rfl, _⟩ | ⟨rfl, _⟩ <;> rfl
                          have hnx := hnx.1
                          have hidn : m H.nx = none := hid _ (Nat.le_refl _) (by rw [AH.nx_grown, hnx]; omega)
                          have hroomH : H.room = true := by unfold AH.room at hr1 ⊢; rw [hnx] at hr1; exact hr1
                          have hlt := AH.room_lt hroomH
                          obtain ⟨ao, hao, hlo⟩ := firstA_run (P := P) r hold hs hsl (Nat.le_refl _)
                          have r2 : Rel m H.get w.drew := r.of_heap rfl
                          obtain ⟨ao2, hao2, hlo2⟩ := firstA_run (P := P) r2 hold hs hsl (Nat.le_refl _)
                          obtain ⟨a2, ha2, hla2⟩ := firstA_run (P := P) r2 hnew hx hn (Nat.le_refl _)
                          by_cases hin : sLen + n ≤ c'
                          · -- the array has room that was not known
                            rcases hcase with ⟨_, _, _, _, rfl⟩ | ⟨b, o, cb, rfl, hb, hcase⟩
                            · omega
                            · rcases hcase with ⟨rfl, hc⟩ | ⟨_, _, e3, _⟩
                              · rcases hc with hc | ⟨q1, q2, q3, q4⟩
                                · omega
                                · rcases killFor_some hH1 with ⟨h9, _⟩ | ⟨b', o', n', c'', sl, sz, l, e1, hg, h9⟩
                                  · cases h9
                                  · injection e1 with e1 e2 e3 e4
                                    subst e1; subst e2; subst e3; subst e4
                                    obtain ⟨k1, k2, k3, k4, _⟩ := r.live b _ cb hg hb
                                    have hsl1 : sl = true := by
                                      cases sl with
                                      | true => rfl
                                      | false =>
                                        exfalso
                                        have := k4 rfl
                                        have h8 : sCap * cb.sz < c' * cb.sz := Nat.mul_lt_mul_of_pos_right q1 q4
                                        omega
                                    subst hsl1
                                    rcases h9 with ⟨_, h9⟩ | ⟨rfl, rfl⟩
                                    · rcases h9 with h9 | ⟨rfl, h9⟩
                                      · cases h9
                                      · exfalso
                                        rw [k3] at q2
                                        exact h9 (by rw [q2, k1])
                                    · rw [k3] at q2 q3 q4
                                      unfold firstA at hold
                                      simp only at hold
                                      have hlold := hold
                                      unfold loadA at hlold
                                      rw [hg] at hlold
                                      simp only [cellsOf] at hlold
                                      unfold inRange at hlold
                                      split at hlold
                                      · rename_i hle2
                                        have hle2 := Nat.le_of_ble_eq_true hle2
                                        rw [len_eq] at hle2
                                        have hle2' : o + sLen * ie.size ≤ l.length := hle2
                                        injection hlold with hlold
                                        rw [cut_eq] at hlold
                                        have hsl' : sLen ≤ sCap := by
                                          have h7 : sLen * ie.size ≤ sCap * ie.size := by omega
                                          exact Nat.le_of_mul_le_mul_right h7 (by omega)
                                        have hres := append_slack (P := P) r hk hroomH hidn (b := b) (o := o) (sLen := sLen) (sCap := sCap) (c' := c') (n := n) (size := ie.size) (old := old) (new := new) (us := a.toList) hb hg (by omega) (by omega) (by omega) hin hlold.symm
                                          (by rw [← hlold]; show (List.take (sLen * ie.size) _).length = _; simp; omega) c3 hla c4
                                        obtain ⟨m', _, w', hr', s', r', hk', hv'⟩ := hres
                                        have hrun := append_place (w := w) T (ty := ty) h0 h1 hlen hin ha
                                        rw [← app_eq] at s' r' hk'
                                        refine ⟨m', .slice (some ⟨cb.blk, cb.base + o, none⟩) (sLen + n) c', w', ?_, s', r', hk', hv'⟩
                                        rw [hrun]
                                        simp only [add_eq]
                                        rw [hr']
                                        rfl
                                      · cases hlold
                              · omega
                          · -- a new array
                            have hrun := append_new (w := w) T (ty := ty) h0 h1 hlen hin ha2 hao2 c5 c7 c6
                            have hdrop : Rel m H1.get w ∧ Step m H.get H.nx w m H1.get H1.nx w ∧ HOk H1 := by
                              rcases killFor_some hH1 with ⟨_, rfl⟩ | ⟨b', o', n', c'', sl, sz, l, e1, hg, h9⟩
                              · exact ⟨r, .refl _ _ _ _, hk⟩
                              · rcases h9 with ⟨rfl, _⟩ | ⟨rfl, _⟩
                                · exact ⟨r, .refl _ _ _ _, hk⟩
                                · have hbm : b' < mH := by
                                    rcases hcase with ⟨rfl, _⟩ | ⟨b, o, cb, rfl, hb, _⟩
                                    · cases e1
                                    · injection e1 with e1
                                      subst e1
                                      exact (r.dom b cb hb).1
                                  obtain ⟨r1, s1⟩ := Rel.drop (h' := (H.kill b').get) (b := b') (nx := H.nx) r (fun j hj => AH.get_kill H b' j hbm hj)
                                  exact ⟨r1, s1, hk.kill hbm⟩
                            obtain ⟨r1, s1, hk1⟩ := hdrop
                            have hidn1 : m H1.nx = none := by rw [hnx]; exact hidn
                            have hLR : LRel m (app old new) (ao2 ++ a2).toList := by
                              rw [app_eq, Array.toList_append]
                              exact hlo2.append hla2
                            obtain ⟨m', s', r', hk', hext, hm'⟩ := r1.row hk1 hr1 hidn1 (sl := true) (sz := ie.size) (lo := 0) (hi := 0) (e := elem) (c := ao2 ++ a2 ++ Builtin.zeroCells zv.cells (grownCap w (sLen + n) c' elem - (sLen + n)))
                              (rest := (Builtin.zeroCells zv.cells (grownCap w (sLen + n) c' elem - (sLen + n))).toList) hLR (by simp) (fun h => by cases h) (fun i hi => by omega) (w.drawn + 1)
                            refine ⟨m', _, _, hrun, s1.trans s', r', hk', ?_⟩
                            have hzs : zv.cells.size = ie.size := by rw [← c1, (hzr m).cells.length]; simp
                            have hol : old.length = sLen * ie.size := by
                              unfold firstA at hold
                              rcases hcase with ⟨rfl, _, _, rfl, _⟩ | ⟨b, o, cb, rfl, hb, _⟩
                              · simp only at hold
                                injection hold with hold
                                rw [← hold]; simp
                              · simp only at hold
                                obtain ⟨_, _, _, hll⟩ := loadA_run (P := P) r hold hb
                                exact hll
                            have hroom2 : (ao2 ++ a2).toList.length + (Builtin.zeroCells zv.cells (grownCap w (sLen + n) c' elem - (sLen + n))).toList.length = grownCap w (sLen + n) c' elem * ie.size := by
                              rw [zeroCells_toList, ← hLR.length, app_eq, List.length_append, hol, c3, hzs]
                              have hle : sLen + n ≤ grownCap w (sLen + n) c' elem := Nat.le_add_right _ _
                              obtain ⟨j, hj⟩ := Nat.exists_eq_add_of_le hle
                              rw [hj, Nat.add_sub_cancel_left, Nat.add_mul, Nat.add_mul]
                              rfl
                            have hn2 : (app old new).length = (sLen + n) * ie.size := by
                              rw [app_eq, List.length_append, hol, c3, Nat.add_mul]
                              rfl
                            rw [hroom2, hn2] at hm'
                            have := VRel.slice (n := sLen + n) (o := 0) (c := sLen + n) (c' := grownCap w (sLen + n) c' elem) hm' (by
                              by_cases h4 : grownCap w (sLen + n) c' elem = sLen + n
                              · exact .inl h4
                              · have hle : sLen + n ≤ grownCap w (sLen + n) c' elem := Nat.le_add_right _ _
                                exact .inr ⟨by omega, by simp, by simp, by simp; omega⟩)
                            simpa using this
                        · cases h
                      · cases h
                    · cases h
                · cases h
              split at h
              · rename_i b o sLen sCap
                cases hs with
                | slice hb hc =>
                  rename_i c' cb
                  exact main sLen sCap c' _ rfl rfl (by rcases hc with hc | hc <;> omega) h (.inr ⟨b, o, cb, rfl, hb, .inl ⟨rfl, hc⟩⟩)
                | slice0 a hb =>
                  rename_i cb
                  exact main 0 0 0 _ rfl rfl (Nat.le_refl _) h (.inr ⟨b, o, cb, rfl, hb, .inr ⟨rfl, rfl, rfl, a, rfl⟩⟩)
              · cases hs
                exact main 0 0 0 none rfl rfl (Nat.le_refl _) h (.inl ⟨rfl, rfl, rfl, rfl, rfl⟩)
              · cases h
            · cases h
          · cases h
        · cases h
      · cases h
    · cases h
end
end Go.Ev
