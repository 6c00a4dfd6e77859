/- New blocks, conversions, slicing. -/
import Derived.Test.YtginbifeinpciaaGreatEvS7
import Derived.Lib.ConvBytes
namespace Go.Ev
open Go

section
variable {P : Program} {m : BM} {H : AH} {w : World}
/-- A new block of cells, in a world that has it behind its old ones. -/
theorem Rel.row (r : Rel m H.get w) (hk : HOk H) (hr : H.room = true) (hid : m H.nx = none) {sl : Bool} {sz lo hi : Nat} {l : List AV} {e : TypeId} {c : Array Value} {us rest : List Value} (hl : LRel m l us)
    (hc : c.toList = us ++ rest) (hsl : sl = false → rest = []) (hfz : ∀ i, i < us.length + rest.length → ¬ (lo ≤ i ∧ i < hi)) (d : Nat) :
    ∃ m', Step m H.get H.nx w m' (H.grown (.cells sl sz l)).get (H.grown (.cells sl sz l)).nx (pushed w (.cells c e (lo, hi)) d) ∧
      Rel m' (H.grown (.cells sl sz l)).get (pushed w (.cells c e (lo, hi)) d) ∧ HOk (H.grown (.cells sl sz l)) ∧ Ext m m' ∧
      m' H.nx = some ⟨w.heap.size, 0, l.length, us.length + rest.length, sz⟩ := by
  have hlt := AH.room_lt hr
  have hlen := hl.length
  have hcs : c.size = us.length + rest.length := by rw [← Array.length_toList, hc]; simp
  refine ⟨m.upd H.nx ⟨w.heap.size, 0, l.length, us.length + rest.length, sz⟩, ?_⟩
  obtain ⟨r', s'⟩ := Rel.new (h' := (H.grown (.cells sl sz l)).get) (nx := H.nx) (x := .cells sl sz l) (cb := ⟨w.heap.size, 0, l.length, us.length + rest.length, sz⟩) (o := .cells c e (lo, hi)) (d := d)
    r hlt rfl hid rfl (fun j hj => AH.get_grown H _ j hlt hj)
    ⟨rfl, by show l.length ≤ us.length + rest.length; omega, rfl, (fun h => by show us.length + rest.length = l.length; rw [hsl h]; simp; omega), c, e, lo, hi, pushed_new, by show 0 + (us.length + rest.length) ≤ c.size; omega, (fun i hi => by show ¬ (lo ≤ 0 + i ∧ 0 + i < _); rw [Nat.zero_add]; exact hfz i hi), fun i v hv => by
      obtain ⟨u, hu, hru⟩ := hl.get hv
      refine ⟨u, ?_, hru.mono (BM.upd_ext hid)⟩
      have hi : i < us.length := by
        rcases Nat.lt_or_ge i us.length with h6 | h6
        · exact h6
        · rw [List.getElem?_eq_none h6] at hu; cases hu
      show c[0 + i]? = some u
      rw [← Array.getElem?_toList, hc, Nat.zero_add, List.getElem?_append_left hi, hu]⟩
  exact ⟨s', r', hk.grown _ hlt, BM.upd_ext hid, BM.upd_same _ _ _⟩

theorem newA_some {x : ABlk} {k : Nat → AV} {v : AV} {H' : AH} (h : newA H x k = some (.val v H')) : H.room = true ∧ v = k H.nx ∧ H' = H.grown x := by
  unfold newA at h
  split at h
  · rename_i hr
    injection h with h
    injection h with h1 h2
    exact ⟨hr, h1.symm, h2.symm⟩
  · cases h
theorem vA_some {x : Option AV} {v : AV} {H' : AH} (h : vA H x = some (.val v H')) : x = some v ∧ H' = H := by
  unfold vA at h
  split at h
  · injection h with h
    injection h with h1 h2
    exact ⟨by rw [h1], h2.symm⟩
  · cases h
theorem hA_some {x : Option AH} {v u : AV} {H' : AH} (h : hA u x = some (.val v H')) : x = some H' ∧ v = u := by
  unfold hA at h
  split at h
  · injection h with h
    injection h with h1 h2
    exact ⟨by rw [h2], h1.symm⟩
  · cases h

/-! Bytes -/
theorem u8A_rel (m : BM) (b : UInt8) : VRel m (u8A b) (.int .u8 b.toNat) := .int .u8 _
theorem u8s_rel (m : BM) : ∀ (s : List UInt8), LRel m (u8s s) (s.map fun b => Value.int .u8 b.toNat)
  | [] => .nil
  | b :: s => .cons (u8A_rel m b) (u8s_rel m s)
theorem u8s_length : ∀ (s : List UInt8), (u8s s).length = s.length
  | [] => rfl
  | _ :: s => by simp [u8s, u8s_length s]
theorem byteOf_some {v : AV} {b : UInt8} (h : byteOf v = some b) : ∃ n, v = .int .u8 n ∧ b = UInt8.ofNat n.toNat := by
  unfold byteOf at h
  split at h
  · injection h with h; exact ⟨_, rfl, h.symm⟩
  · cases h
theorem bytesLoop : ∀ (l : List AV) (s : List UInt8) (us : List Value), bytesA l = some s → LRel m l us → ∃ ns : List Int, us = ns.map (Value.int .u8) ∧ s = ns.map (fun n => UInt8.ofNat n.toNat)
  | [], s, us, h, hl => by
    cases hl
    simp only [bytesA] at h
    injection h with h
    exact ⟨[], rfl, h.symm⟩
  | a :: l, s, us, h, hl => by
    obtain ⟨b, s', hb, hs, rfl⟩ := consO_some h
    obtain ⟨n, rfl, rfl⟩ := byteOf_some hb
    cases hl with
    | cons hv hl =>
      cases hv
      obtain ⟨ns, rfl, rfl⟩ := bytesLoop l s' _ hs hl
      exact ⟨n :: ns, rfl, rfl⟩
theorem foldl_push : ∀ (ns : List Int) (r : ByteArray), ns.foldl (fun r n => r.push (UInt8.ofNat n.toNat)) r = ⟨r.data ++ (ns.map fun n => UInt8.ofNat n.toNat).toArray⟩
  | [], r => by simp
  | n :: ns, r => by
    simp only [List.foldl_cons, List.map_cons]
    rw [foldl_push ns]
    simp [ByteArray.push]

theorem bytesWorld_eq (w : World) (e : TypeId) (s : ByteArray) : Lib.bytesWorld w e s = pushed w (.cells (Lib.bytesCells w e s) e ((Lib.bytesCells w e s).size, (Lib.bytesCells w e s).size + 1)) (w.drawn + 1) := by
  have hm : ∀ (a : Array Obj) (x : Obj) (f : Obj → Obj), (a.push x).modify a.size f = a.push (f x) := by
    intro a x f
    apply Array.ext
    · simp
    · intro i h1 h2
      simp only [Array.getElem_modify, Array.getElem_push]
      by_cases h : a.size = i
      · subst h
        simp
      · have hi : i < a.size := by simp at h1; omega
        simp [h, hi]
  unfold Lib.bytesWorld World.freeze
  rw [if_neg (by decide)]
  show ({ w.drew.alloc (.cells (Lib.bytesCells w e s) e) with heap := (w.heap.push (.cells (Lib.bytesCells w e s) e)).modify w.heap.size _ } : World) = _
  rw [hm]
  rfl
theorem isU8_some {x : Option TypeDesc} (h : isU8 x = true) : x = some (.int .u8) := by
  unfold isU8 at h
  split at h
  · rfl
  · cases h
theorem isSl_some {x : Option TypeDesc} {e : TypeId} (h : isSl x = some e) : x = some (.slice e) := by
  unfold isSl at h
  split at h
  · injection h with h; rw [h]
  · cases h
theorem slOk_grown {e : TypeId} {need old : Nat} {B base room : Nat} (w : World) (hr : room = grownCap w need old e) : SlOk ⟨B, base, need, room, 1⟩ 0 need (grownCap w need old e) := by
  by_cases h : grownCap w need old e = need
  · exact .inl h
  · have : need ≤ grownCap w need old e := Nat.le_add_right _ _
    exact .inr ⟨by omega, by simp, by simp [hr], Nat.one_pos⟩

theorem toStr_run (r : Rel m H.get w) {x v : AV} {u : Value} (h : toStr H x = some v) (hx : VRel m x u) : ∃ z, (Conv.bytesToString u).run P w = .ok z w ∧ VRel m v z := by
  unfold toStr at h
  split at h
  · rename_i b o n c
    unfold bytesO at h
    split at h
    · rename_i l hl
      unfold strO at h
      split at h
      · rename_i s hs
        injection h with h
        subst h
        have key : ∀ (cb : CB), m b = some cb → ∀ c', ∃ z, (Conv.bytesToString (.slice (some ⟨cb.blk, cb.base + o, none⟩) n c')).run P w = .ok z w ∧ VRel m (.str s) z := by
          intro cb hb c'
          obtain ⟨a, ha, hla, hlen⟩ := loadA_run (P := P) r hl hb
          obtain ⟨ns, h1, h2⟩ := bytesLoop l s a.toList hs hla
          have hn : ns.length = n := by rw [← hlen, hla.length, h1]; simp
          have ha' : a = (ns.map (Value.int .u8)).toArray := by rw [← h1]
          refine ⟨.string ⟨⟨s⟩⟩, ?_, .str s⟩
          rw [run_bytesToString w ⟨cb.blk, cb.base + o, none⟩ n c' ns (by rw [ha, ha']), foldl_push, h2]
          have he0 : ByteArray.empty.data = #[] := rfl
          rw [he0]
          simp
        cases hx with
        | slice hm hc => exact key _ hm _
        | slice0 a hm =>
          obtain ⟨a', ha, hla, hlen⟩ := loadA_run (P := P) r hl hm
          have : l = [] := List.length_eq_zero_iff.1 hlen
          subst this
          simp only [bytesA] at hs
          injection hs with hs
          subst hs
          refine ⟨.string ⟨⟨[]⟩⟩, ?_, .str []⟩
          rw [run_bytesToString w a 0 0 [] (by simp [loadCells, loadCellsFrom])]
          rfl
      · cases h
    · cases h
  · cases hx
    injection h with h
    subst h
    exact ⟨.string .empty, by simp [Conv.bytesToString], .str []⟩
  · cases h

theorem convA_run (r : Rel m H.get w) (hk : HOk H) {src dst : TypeId} {x v : AV} {u : Value} {H' : AH} (h : convA P src dst x H = some (.val v H')) (hid : ∀ b, H.nx ≤ b → b < H'.nx → m b = none) (hx : VRel m x u) :
    Res P (convert src dst u) (fun m' z => VRel m' v z) m H w H' := by
  unfold convA at h
  split at h
  · rename_i d hs
    unfold convTo at h
    split at h
    · rename_i k hd
      split at h
      · cases hx
        injection h with h
        injection h with h1 h2
        subst h1; subst h2
        rw [wr_eq]
        exact .pure r hk (by simp [convert, run_underlying hs, run_underlying hd, Conv.intToInt]) (.int _ _)
      · cases h
    · rename_i hd
      split at h
      · cases hx
        injection h with h
        injection h with h1 h2
        subst h1; subst h2
        exact .pure r hk (by simp [convert, run_underlying hs, run_underlying hd]) (.str _)
      · rename_i hns
        split at h
        · rename_i hu8
          have hu8 := isU8_some hu8
          simp only [Option.bind_eq_some_iff] at hu8
          obtain ⟨e, he, hu8⟩ := hu8
          have he := isSl_some he
          obtain ⟨h, rfl⟩ := vA_some h
          obtain ⟨z, hz, hzr⟩ := toStr_run (P := P) r h hx
          refine .pure r hk ?_ hzr
          rw [← hz]
          unfold toStr at h
          split at h
          · cases hx <;> simp [convert, run_underlying he, run_underlying hd, run_underlying hu8]
          · cases hx; simp [convert, run_underlying he, run_underlying hd, run_underlying hu8]
          · cases h
        · cases h
    · rename_i e hd
      split at h
      · rename_i s
        split at h
        · rename_i hc
          have hc' : (isStr (P.underlying src) && (isU8 (P.underlying e) && is1 (sizeT P e))) = true := hc
          rw [Bool.and_eq_true, Bool.and_eq_true] at hc'
          have he := isU8_some hc'.2.1
          unfold newBytes at h
          obtain ⟨hr, rfl, rfl⟩ := newA_some h
          cases hx
          obtain ⟨m', s', r', hk', hext, hm'⟩ := r.row hk hr (hid _ (Nat.le_refl _) (Nat.lt_succ_self _)) (sl := true) (sz := 1) (lo := (Lib.bytesCells w e ⟨⟨s⟩⟩).size) (hi := (Lib.bytesCells w e ⟨⟨s⟩⟩).size + 1) (e := e) (c := Lib.bytesCells w e ⟨⟨s⟩⟩)
            (rest := List.replicate (grownCap w s.length 0 e - s.length) (.int .u8 0)) (u8s_rel m s)
            (by simp [Lib.bytesCells, size_mk]) (fun h => by cases h) (fun i hi => by simp [Lib.bytesCells, size_mk]; simp at hi; omega) (w.drawn + 1)
          refine ⟨m', _, _, Lib.run_convert_string_bytes w src dst e ⟨⟨s⟩⟩ hs hd he, ?_, ?_, hk', ?_⟩
          · rw [bytesWorld_eq]; exact s'
          · rw [bytesWorld_eq]; exact r'
          · rw [size_mk, len_eq]
            have hle : s.length ≤ grownCap w s.length 0 e := Nat.le_add_right _ _
            have hroom : (s.map fun b => Value.int .u8 b.toNat).length + (List.replicate (grownCap w s.length 0 e - s.length) (Value.int .u8 0)).length = grownCap w s.length 0 e := by simp; omega
            rw [hroom, u8s_length] at hm'
            have := VRel.slice (n := s.length) hm' (slOk_grown (base := 0) w rfl)
            simpa using this
        · cases h
      · cases h
    · cases h
  · cases h
end
end Go.Ev
