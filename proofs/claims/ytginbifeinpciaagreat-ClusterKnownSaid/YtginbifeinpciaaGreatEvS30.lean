/- Ranges over maps: what a loop over a map comes to, in whichever order the entries come up. -/
import Derived.Test.YtginbifeinpciaaGreatEvS31
import Derived.Test.YtginbifeinpciaaGreatEvPrim
import Derived.Maps.RangeRun
namespace Go.Ev
open Go Go.RowKit Go.ChangeMaps

/-! Frames by hand -/
def Fr.putT (f : Fr) (t : Nat) (v : AV) : Fr := ⟨f.tm.put t v, f.df, f.nt, f.rd, f.fn⟩
theorem Fr.put_some {f : Fr} {t : Nat} {v : AV} (h : t < f.nt) : f.put (some t) v = some (f.putT t v) := by
  have h1 : Nat.ble (Nat.succ t) f.nt = true := Nat.ble_eq_true_of_le h
  unfold Fr.put
  simp only [h1]
  rfl
theorem Fr.get_putT (f : Fr) (t : Nat) (v : AV) (j : Nat) (ht : t < 256) : (f.putT t v).get j = if j = t then v else f.get j := FT.get_put f.tm t v j ht
theorem Fr.nt_putT (f : Fr) (t : Nat) (v : AV) : (f.putT t v).nt = f.nt := rfl
theorem Fr.df_putT (f : Fr) (t : Nat) (v : AV) : (f.putT t v).df = f.df := rfl
theorem Fr.rd_putT (f : Fr) (t : Nat) (v : AV) : (f.putT t v).rd = f.rd := rfl

section
variable {P : Program}
/-! Operations that give values, one behind the other -/
noncomputable def seqA (P : Program) : List Oper → Fr → AH → Option (Fr × AH)
  | [], f, H => some (f, H)
  | o :: l, f, H => match o.guard with
    | some _ => none
    | none => match opA P f H o.op with
      | some (.val v H1) => match f.put o.dst v with
        | some f1 => seqA P l f1 H1
        | none => none
      | _ => none
theorem not_defer {op : Op} {f : Fr} {H H' : AH} {v : AV} (h : opA P f H op = some (.val v H')) : ∀ c, op ≠ .defer c := by
  intro c hc
  subst hc
  have h : opDefer f c.callee (aevs f c.args.toList) = some (.val v H') := h
  unfold opDefer at h
  split at h
  · split at h
    · unfold dfrA at h
      split at h
      · injection h with h; cases h
      · cases h
    · cases h
  · cases h
theorem wpOps_step {ops : Array Oper} {Q : Exit → Act → World → Prop} {i n : Nat} {o : Oper} {r : Option Nat} {a : Act} {w : World} (ho : ops[i]? = some o) (hg : o.guard = none)
    (h : o.wpIn (FW r) 0 P a w (wpOpsIn (FW r) 0 P ops Q (List.range' (i + 1) n)) Q) : wpOpsIn (FW r) 0 P ops Q (List.range' i (n + 1)) a w := by
  simp only [List.range'_succ, wpOpsIn, ho]
  rw [if_pos (by simp [Region.wanted, hg])]
  exact h
theorem wpOps_special {ops : Array Oper} {Q : Exit → Act → World → Prop} {i n : Nat} {o : Oper} {r : Option Nat} {a : Act} {w w1 : World} {u : Value} (ho : ops[i]? = some o) (hg : o.guard = none) (hd : ∀ c, o.op ≠ .defer c)
    (hrun : (execOp a.eval o).run P w = .ok (.value u) w1) (hk : wpOpsIn (FW r) 0 P ops Q (List.range' (i + 1) n) (a.put o.dst u) w1) : wpOpsIn (FW r) 0 P ops Q (List.range' i (n + 1)) a w := by
  refine wpOps_step ho hg ⟨fun _ _ => trivial, ?_⟩
  rw [Oper.semAt_eq _ _ _ hd, hrun]
  exact hk
theorem seqA_sound {ops : Array Oper} : ∀ (l : List Oper) {f : Fr} {H : AH} {f' : Fr} {H' : AH}, seqA P l f H = some (f', H') → H.nx ≤ H'.nx ∧ ∀ pre post, ops.toList = pre ++ (l ++ post) → ∀ N m w a r, H'.nx ≤ N → St N m H w → FrRel m r f a →
    ∀ Q : Exit → Act → World → Prop, (∀ m' a' w', Stp m H w m' H' w' → St N m' H' w' → FrRel m' r f' a' → wpOpsIn (FW r) 0 P ops Q (List.range' (pre.length + l.length) post.length) a' w') →
      wpOpsIn (FW r) 0 P ops Q (List.range' pre.length (l.length + post.length)) a w
  | [], f, H, f', H', h => by
    simp only [seqA] at h
    injection h with h
    injection h with h1 h2
    subst h1; subst h2
    refine ⟨Nat.le_refl _, fun pre post hp N m w a r hN st fr Q hQ => ?_⟩
    have := hQ m a w .refl st fr
    simpa using this
  | o :: l, f, H, f', H', h => by
    simp only [seqA] at h
    split at h
    · cases h
    · rename_i hg
      split at h
      · rename_i v H1 hop
        split at h
        · rename_i f1 hput
          obtain ⟨n1, g1⟩ := seqA_sound (ops := ops) l h
          have hs : OperS P o f H f1 H1 := operS_of (not_defer hop) hput (opS_val hop)
          refine ⟨Nat.le_trans hs.1 n1, fun pre post hp N m w a r hN st fr Q hQ => ?_⟩
          have ho : ops[pre.length]? = some o := by rw [← Array.getElem?_toList, hp]; simp
          rw [show (o :: l).length + post.length = (l.length + post.length) + 1 from by simp; omega]
          refine wpOps_step ho hg (hs.2 N m w a r (Nat.le_trans n1 hN) st fr _ Q fun m1 a1 w1 s1 st1 fr1 => ?_)
          have := g1 (pre ++ [o]) post (by simp [hp]) N m1 w1 a1 r hN st1 fr1 Q (fun m' a' w' s2 st2 fr2 => by
            have := hQ m' a' w' (s1.trans s2) st2 fr2
            rw [show (pre ++ [o]).length + l.length = pre.length + (o :: l).length from by simp; omega]
            exact this)
          simpa using this
        · cases h
      · cases h
theorem seqA_region {id : Nat} {ops : Array Oper} {f f' : Fr} {H H' : AH} (h : seqA P ops.toList f H = some (f', H')) : CodeS P (.region id ops false) f H .normal f' H' := by
  obtain ⟨n1, g1⟩ := seqA_sound (ops := ops) ops.toList h
  refine ⟨n1, fun N m w a r hN st fr Q hQ => wpIn_region ?_⟩
  have := g1 [] [] (by simp) N m w a r hN st fr Q (fun m' a' w' s st' fr' => by
    have := hQ m' a' w' s st' fr'
    simpa [wpOpsIn, exOf] using this)
  simpa [List.range_eq_range'] using this

/-! A number that is given to nothing the machine knows: an iterator's -/
theorem AH.nx_bump (H : AH) : H.bump.nx = H.nx + 1 := rfl
theorem AH.get_bump (H : AH) (b : Nat) : H.bump.get b = H.get b := rfl
theorem bump_st {N : Nat} {m : BM} {H : AH} {w : World} (st : St N m H w) (hroom : H.nx < mH) (hN : H.nx < N) (o : Obj) :
    Stp m H w (m.upd H.nx ⟨w.heap.size, 0, 0, 1, 0⟩) H.bump (w.alloc o) ∧ St N (m.upd H.nx ⟨w.heap.size, 0, 0, 1, 0⟩) H.bump (w.alloc o) := by
  obtain ⟨r, hk, hf⟩ := st
  have hm : m H.nx = none := hf _ (Nat.le_refl _) hN
  have hnone : H.get H.nx = none := hk.2 _ (Nat.le_refl _) hroom
  have hsz : (w.alloc o).heap.size = w.heap.size + 1 := by show (w.heap.push o).size = _; simp
  have hold : ∀ B, B < w.heap.size → (w.alloc o).heap[B]? = w.heap[B]? := fun B hB => by
    show (w.heap.push o)[B]? = _
    rw [Array.getElem?_push, if_neg (by omega)]
  have old : ∀ j x c, H.get j = some x → (m.upd H.nx ⟨w.heap.size, 0, 0, 1, 0⟩) j = some c → m j = some c := by
    intro j x c h1 h2
    unfold BM.upd at h2
    by_cases hj : j = H.nx
    · subst hj; rw [hnone] at h1; cases h1
    · rw [if_neg hj] at h2; exact h2
  refine ⟨⟨BM.upd_ext hm, fun j h1 h2 => ?_, Nat.le_succ _, by omega, rfl, rfl, rfl, fun B c e f h1 => ⟨c, (hold B (lt_of_get h1)).trans h1, rfl, fun _ _ => rfl⟩, fun B q h1 h2 h3 => (hold B (lt_of_get h1)).trans h1, fun B i ho => ?_⟩,
    ⟨⟨fun j c e => ?_, fun j x c h1 h2 => ?_, fun j j' x x' c c' h0 h1 h2 h3 h4 h5 => ?_⟩, ⟨?_, fun b h1 h2 => ?_⟩, fun b h1 h2 => ?_⟩⟩
  · unfold BM.upd at h2
    by_cases hj : j = H.nx
    · subst hj; exact ⟨Nat.le_refl _, Nat.lt_succ_self _⟩
    · rw [if_neg hj] at h2; exact absurd h1 h2
  · obtain ⟨j, x, c, h1, h2, h3⟩ := ho
    exact .inl ⟨j, x, c, h1, old j x c h1 h2, h3⟩
  · unfold BM.upd at e
    by_cases hj : j = H.nx
    · rw [if_pos hj] at e; injection e with e; subst e; exact ⟨by omega, by rw [hsz]; exact Nat.lt_succ_self _⟩
    · rw [if_neg hj] at e; have := r.dom j c e; exact ⟨this.1, by omega⟩
  · have hc := old j x c h1 h2
    exact (r.live j x c h1 hc).of_heap (BM.upd_ext hm) (hold _ (r.dom j c hc).2)
  · exact r.apart j j' x x' c c' h0 h1 h2 (old j x c h1 h3) (old j' x' c' h2 h4) h5
  · exact hroom
  · exact hk.2 b (Nat.le_of_succ_le h1) h2
  · have h1 : H.nx + 1 ≤ b := h1
    unfold BM.upd
    rw [if_neg (by omega)]
    exact hf b (by omega) h2
/-- No block that is known lies where an iterator lies. -/
theorem iter_other {m : BM} {h : HF} {w : World} (r : Rel m h w) {it : Nat} {x0 : Option Nat} {x1 : Nat} {x2 : Array Nat} {x3 : Nat} (hit : w.heap[it]? = some (.mapIter x0 x1 x2 x3)) {b : Nat} {x : ABlk} {cb : CB} (h1 : h b = some x) (h2 : m b = some cb) : cb.blk ≠ it := by
  intro e
  have := r.live b x cb h1 h2
  cases x with
  | cells sl sz l =>
    obtain ⟨_, _, _, _, c, e', lo, hi, h5, _⟩ := this
    rw [e, hit] at h5; cases h5
  | loop q =>
    obtain ⟨_, _, L, h5, _⟩ := this
    rw [e, hit] at h5; cases h5
  | deferred q =>
    obtain ⟨_, _, h5⟩ := this
    rw [e, hit] at h5; cases h5
  | map q =>
    obtain ⟨_, _, ces, k, h5, _⟩ := this
    rw [e, hit] at h5; cases h5
theorem iter_unowned {m : BM} {h : HF} {w : World} (r : Rel m h w) {it : Nat} {x0 : Option Nat} {x1 : Nat} {x2 : Array Nat} {x3 : Nat} (hit : w.heap[it]? = some (.mapIter x0 x1 x2 x3)) (i : Nat) : ¬ Owned m h it i := by
  rintro ⟨b, x, cb, h1, h2, h3, _⟩
  exact iter_other r hit h1 h2 h3
/-- An iterator is turned. -/
theorem touch {N : Nat} {m0 m : BM} {H0 H : AH} {w0 w w1 : World} (s : Stp m0 H0 w0 m H w) (st : St N m H w) {it : Nat} {x0 : Option Nat} {x1 : Nat} {x2 : Array Nat} {x3 : Nat} (hit : w.heap[it]? = some (.mapIter x0 x1 x2 x3))
    (hnew : w0.heap.size ≤ it) (hw : w1 = w ∨ w1 = w.drew) (o : Obj) : Stp m0 H0 w0 m H (setBlock w1 it o) ∧ St N m H (setBlock w1 it o) := by
  have hh : w1.heap = w.heap := by rcases hw with rfl | rfl <;> rfl
  have ht : w1.tape = w.tape := by rcases hw with rfl | rfl <;> rfl
  have hos : w1.os = w.os := by rcases hw with rfl | rfl <;> rfl
  have hou : w1.output = w.output := by rcases hw with rfl | rfl <;> rfl
  have hne : ∀ B, B ≠ it → (setBlock w1 it o).heap[B]? = w.heap[B]? := fun B hB => by
    show (w1.heap.setIfInBounds it o)[B]? = _
    rw [Array.getElem?_setIfInBounds_ne (Ne.symm hB), hh]
  have hsz : (setBlock w1 it o).heap.size = w.heap.size := by show (w1.heap.setIfInBounds it o).size = _; simp [hh]
  refine ⟨⟨s.ext, s.ids, s.mono, by rw [hsz]; exact s.size, ht.trans s.tape, hos.trans s.os, hou.trans s.output, fun B c e f h1 => ?_, fun B q h1 h2 h3 => ?_, s.grow⟩, ⟨⟨fun j c e => ?_, fun j x c h1 h2 => ?_, st.rel.apart⟩, st.ok, st.free⟩⟩
  · obtain ⟨c', k1, k2⟩ := s.cells B c e f h1
    have := lt_of_get h1
    exact ⟨c', (hne B (by omega)).trans k1, k2⟩
  · have := lt_of_get h1
    exact (hne B (by omega)).trans (s.objs B q h1 h2 h3)
  · rw [hsz]; exact st.rel.dom j c e
  · exact (st.rel.live j x c h1 h2).of_heap (.refl m) (hne _ (iter_other st.rel hit h1 h2))

/-! A loop over a map -/
abbrev Pr := (AV × AV) × MapEntry
structure RangeAt (N : Nat) (m0 : BM) (H0 : AH) (w0 : World) (r : Option Nat) (b0 it bk clock : Nat) (ces : Array MapEntry) (ps : List Pr) (seen : Array Nat) (m : BM) (H : AH) (w : World) (f : Fr) (a : Act) : Prop where
  stp : Stp m0 H0 w0 m H w
  st : St N m H w
  fr : FrRel m r f a
  itm : m b0 = some ⟨it, 0, 0, 1, 0⟩
  iter : w.heap[it]? = some (.mapIter (some bk) clock seen clock)
  map : w.heap[bk]? = some (.map ces clock)
  hid : ¬ Owned m H.get bk 0
  new : w0.heap.size ≤ it
  prs : ∀ p ∈ ps, VRel m p.1.1 p.2.key ∧ VRel m p.1.2 p.2.val
theorem RangeAt.step {N : Nat} {m0 m m' : BM} {H0 H H' : AH} {w0 w w' : World} {r : Option Nat} {b0 it bk clock : Nat} {ces : Array MapEntry} {ps : List Pr} {seen : Array Nat} {f f' : Fr} {a a' : Act} (h : RangeAt N m0 H0 w0 r b0 it bk clock ces ps seen m H w f a)
    (s : Stp m H w m' H' w') (st : St N m' H' w') (fr : FrRel m' r f' a') : RangeAt N m0 H0 w0 r b0 it bk clock ces ps seen m' H' w' f' a' where
  stp := h.stp.trans s
  st := st
  fr := fr
  itm := s.ext _ _ h.itm
  iter := s.objs it _ h.iter (fun _ _ _ e => by cases e) (iter_unowned h.st.rel h.iter 0)
  map := s.objs bk _ h.map (fun _ _ _ e => by cases e) h.hid
  hid := by
    intro ho
    rcases s.grow bk 0 ho with h1 | h1
    · exact h.hid h1
    · have := lt_of_get h.map; omega
  new := h.new
  prs := fun p hp => ⟨(h.prs p hp).1.mono s.ext, (h.prs p hp).2.mono s.ext⟩
theorem mem_of_born {ces : Array MapEntry} {clock : Nat} (hb : BornOk ces clock) {x y : MapEntry} (hx : x ∈ ces.toList) (hy : y ∈ ces.toList) (h : x.born = y.born) : x = y := by
  have hn := hb.2
  generalize ces.toList = l at hx hy hn
  induction l with
  | nil => cases hx
  | cons z l ih =>
    simp only [List.map_cons, List.nodup_cons, List.mem_map, not_exists, not_and] at hn
    rcases List.mem_cons.1 hx with rfl | hx'
    · rcases List.mem_cons.1 hy with rfl | hy'
      · rfl
      · exact absurd h.symm (hn.1 y hy')
    · rcases List.mem_cons.1 hy with rfl | hy'
      · exact absurd h (hn.1 x hx')
      · exact ih hx' hy' hn.2
theorem range_loop {N : Nat} {m0 : BM} {H0 : AH} {w0 : World} {r : Option Nat} {b0 it bk clock : Nat} {ces : Array MapEntry} {ps : List Pr} {id bid ti tn tk : Nat} {o1 o2 : Oper} {body : Code}
    (hb : BornOk ces clock) (hps : (ps.map (·.2)).Perm ces.toList)
    (ho1 : o1.op = .next (.tmp ti) false) (hd1 : o1.dst = some tn) (hg1 : o1.guard = none) (ho2 : o2.op = .extract (.tmp tn) 0) (hd2 : o2.dst = some tk) (hg2 : o2.guard = none) (_hne : tk ≠ tn) (Inv : List Pr → Fr → AH → Prop)
    (hI : ∀ dn f H, Inv dn f H → f.get ti = .ptr b0 0 ∧ tn < f.nt ∧ tk < f.nt ∧ H.nx ≤ N ∧ ∀ u1 u2, Inv dn ((f.putT tn u1).putT tk u2) H)
    (hbody : ∀ dn p seen f H m w a, RangeAt N m0 H0 w0 r b0 it bk clock ces ps seen m H w f a → Inv dn f H → (∃ lp, (dn ++ p :: lp).Perm ps) → (Instr.entry (.pointer (some ⟨it, 0, none⟩))).run P w = .ok (.tuple #[p.2.key, p.2.val]) w → ∀ Q : Exit → Act → World → Prop,
      (∀ m' a' w' f' H', Stp m H w m' H' w' → St N m' H' w' → FrRel m' r f' a' → Inv (dn ++ [p]) f' H' → Q .normal a' w') → body.wpIn (FW r) 0 P Q a w) :
    ∀ (n : Nat) (lp dn : List Pr) (seen : Array Nat) (m : BM) (H : AH) (w : World) (f : Fr) (a : Act), lp.length = n → RangeAt N m0 H0 w0 r b0 it bk clock ces ps seen m H w f a → Inv dn f H → (dn ++ lp).Perm ps → seen.toList = dn.map (·.2.born) →
      ∀ Q : Exit → Act → World → Prop, (∀ dn' m' H' w' f' a' seen', dn'.Perm ps → RangeAt N m0 H0 w0 r b0 it bk clock ces ps seen' m' H' w' f' a' → Inv dn' f' H' → Q (.exit bid) a' w') →
        LoopN (FW r) P (.seq (.region id #[o1, o2] false) (.seq (.cond (.tmp tk) .skip (.exit bid)) body)) Q (n + 1) a w := by
  have round : ∀ (lp dn : List Pr) (seen : Array Nat) (m : BM) (H : AH) (w : World) (f : Fr) (a : Act), RangeAt N m0 H0 w0 r b0 it bk clock ces ps seen m H w f a → Inv dn f H → (dn ++ lp).Perm ps → seen.toList = dn.map (·.2.born) →
      ∀ (Q : Exit → Act → World → Prop) (K : Act → World → Prop), (lp = [] → ∀ dn' m' H' w' f' a' seen', dn'.Perm ps → RangeAt N m0 H0 w0 r b0 it bk clock ces ps seen' m' H' w' f' a' → Inv dn' f' H' → Q (.exit bid) a' w') →
        (∀ p l1 l2 m' H' w' f' a', lp = l1 ++ p :: l2 → RangeAt N m0 H0 w0 r b0 it bk clock ces ps (seen.push p.2.born) m' H' w' f' a' → Inv (dn ++ [p]) f' H' → K a' w') →
        (Code.seq (.region id #[o1, o2] false) (.seq (.cond (.tmp tk) .skip (.exit bid)) body)).wpIn (FW r) 0 P (Exit.then K Q) a w := by
    intro lp dn seen m H w f a ra inv hperm hseen Q K hQ hK
    obtain ⟨ht, hn1, hn2, hnN, hput⟩ := hI dn f H inv
    have hit := ra.iter
    have hn256 : f.nt ≤ 256 := ra.fr.tm.2.1
    have hev : a.eval (.tmp ti) = .pointer (some ⟨it, 0, none⟩) := by
      have := aev_rel ra.fr.ev (x := .tmp ti) rfl
      rw [ht] at this
      generalize a.eval (.tmp ti) = u at this
      cases this with
      | ptr h =>
        rw [ra.itm] at h
        injection h with h
        rw [← h]
    -- the region behind the step
    have region : ∀ (u : Value) (v : AV) (w1 : World) (k : Bool) (l : List AV), v = .tup (.bool k :: l) → VRel m v u → (Instr.next (.pointer (some ⟨it, 0, none⟩)) false o1.type).run P w = .ok u w1 → Stp m0 H0 w0 m H w1 → St N m H w1 →
        (∀ m' a' w', Stp m H w1 m' H w' → St N m' H w' → FrRel m' r ((f.putT tn v).putT tk (.bool k)) a' → (Code.seq (.cond (.tmp tk) .skip (.exit bid)) body).wpIn (FW r) 0 P (Exit.then K Q) a' w') →
        (Code.seq (.region id #[o1, o2] false) (.seq (.cond (.tmp tk) .skip (.exit bid)) body)).wpIn (FW r) 0 P (Exit.then K Q) a w := by
      intro u v w1 k l hv hvr hrun hs1 hst1 hnext
      refine wpIn_seq (wpIn_region ?_)
      have hrng : List.range #[o1, o2].size = List.range' 0 (1 + 1) := by simp [List.range_eq_range']
      rw [hrng]
      refine wpOps_special (o := o1) (u := u) (w1 := w1) (by rfl) hg1 (by rw [ho1]; intro c h; cases h) ?_ ?_
      · simp [execOp, ho1, hev, hrun]
      · have hp : f.put o1.dst v = some (f.putT tn v) := by rw [hd1]; exact Fr.put_some hn1
        have fr1 := ra.fr.put hp hvr
        have hget : (f.putT tn v).get tn = v := by rw [Fr.get_putT _ _ _ _ (by omega), if_pos rfl]
        have hop : opA P (f.putT tn v) H o2.op = some (.val (.bool k) H) := by
          rw [ho2]
          show opExtract H 0 (some ((f.putT tn v).get tn)) = _
          rw [hget, hv]
          rfl
        have hseq : seqA P [o2] (f.putT tn v) H = some ((f.putT tn v).putT tk (.bool k), H) := by
          simp only [seqA, hg2, hop, hd2]
          rw [Fr.put_some (by rw [Fr.nt_putT]; exact hn2)]
        have := (seqA_sound (P := P) (ops := #[o1, o2]) [o2] hseq).2 [o1] [] (by simp) N m w1 (a.put o1.dst u) r hnN hst1 fr1 (Exit.then (fun a' w' => (Code.seq (.cond (.tmp tk) .skip (.exit bid)) body).wpIn (FW r) 0 P (Exit.then K Q) a' w') (Exit.then K Q)) (fun m' a' w' s2 st2 fr2 => by
          have := hnext m' a' w' s2 st2 fr2
          simpa [wpOpsIn, Exit.then] using this)
        simpa using this
    have hnod : (ps.map fun p => p.2.born).Nodup := by
      have := hb.2
      have hp := (hps.map (·.born)).symm.nodup this
      simpa [Function.comp_def] using hp
    have hnod2 : ((dn ++ lp).map fun p => p.2.born).Nodup := (hperm.map _).symm.nodup hnod
    rcases run_next_at (P := P) w o1.type it bk clock clock seen ces clock hit ra.map hb.1 (Nat.le_refl _) with ⟨h0, hrun⟩ | ⟨e, he, w1, hw1, hrun⟩
    · have hlp : lp = [] := by
        cases lp with
        | nil => rfl
        | cons p l =>
          exfalso
          have hp : p ∈ ps := hperm.subset (by simp)
          have hc : p.2 ∈ ces.toList := hps.subset (List.mem_map.2 ⟨p, hp, rfl⟩)
          have := all_seen ces seen h0 p.2 hc
          have hm : p.2.born ∈ seen.toList := by simpa using this
          rw [hseen] at hm
          rw [List.map_append, List.nodup_append] at hnod2
          exact hnod2.2.2 _ hm _ (by simp) rfl
      refine region _ (.tup [.bool false]) w false [] rfl (.tup (.cons (.bool _) .nil)) hrun ra.stp ra.st fun m' a' w' s2 st2 fr2 => ?_
      have hc : a'.eval (.tmp tk) = .bool false := by
        have := aev_rel fr2.ev (x := .tmp tk) rfl
        rw [Fr.get_putT _ _ _ _ (by omega), if_pos rfl] at this
        generalize a'.eval (.tmp tk) = u at this
        cases this
        rfl
      refine wpIn_seq (wpIn_cond_false hc (wpIn_exit ?_))
      exact hQ hlp dn m' H w' _ a' seen (by rw [hlp, List.append_nil] at hperm; exact hperm) (ra.step s2 st2 fr2) (hput _ _)
    · obtain ⟨hem, hes⟩ := mem_left he
      obtain ⟨p, hp, rfl⟩ := List.mem_map.1 (hps.symm.subset hem)
      have hpl : p ∈ lp := by
        rcases List.mem_append.1 (hperm.symm.subset hp) with h | h
        · exfalso
          have : p.2.born ∈ seen.toList := by rw [hseen]; exact List.mem_map.2 ⟨p, h, rfl⟩
          have : seen.contains p.2.born = true := by simpa using this
          rw [this] at hes; cases hes
        · exact h
      obtain ⟨l1, l2, rfl⟩ := List.append_of_mem hpl
      obtain ⟨s1, st1⟩ := touch ra.stp ra.st hit ra.new hw1 (.mapIter (some bk) clock (seen.push p.2.born) clock)
      have hbk : bk ≠ it := fun h => by have := ra.map; rw [h, hit] at this; cases this
      have hh : w1.heap = w.heap := by rcases hw1 with rfl | rfl <;> rfl
      have ra1 : RangeAt N m0 H0 w0 r b0 it bk clock ces ps (seen.push p.2.born) m H (setBlock w1 it (.mapIter (some bk) clock (seen.push p.2.born) clock)) f a :=
        ⟨s1, st1, ra.fr, ra.itm, by
          show (w1.heap.setIfInBounds it _)[it]? = _
          rw [Array.getElem?_setIfInBounds_self_of_lt (by rw [hh]; exact lt_of_get hit)], by
          show (w1.heap.setIfInBounds it _)[bk]? = _
          rw [Array.getElem?_setIfInBounds_ne (Ne.symm hbk), hh]
          exact ra.map, ra.hid, ra.new, ra.prs⟩
      obtain ⟨vr1, vr2⟩ := ra.prs p hp
      refine region _ (.tup [.bool true, p.1.1, p.1.2]) _ true _ rfl (.tup (.cons (.bool _) (.cons vr1 (.cons vr2 .nil)))) hrun s1 st1 fun m' a' w' s2 st2 fr2 => ?_
      have hc : a'.eval (.tmp tk) = .bool true := by
        have := aev_rel fr2.ev (x := .tmp tk) rfl
        rw [Fr.get_putT _ _ _ _ (by omega), if_pos rfl] at this
        generalize a'.eval (.tmp tk) = u at this
        cases this
        rfl
      refine wpIn_seq (wpIn_cond_true hc (wpIn_skip ?_))
      have ra2 := ra1.step s2 st2 fr2
      refine hbody dn p (seen.push p.2.born) _ H m' w' a' ra2 (hput _ _) ⟨l1 ++ l2, (List.Perm.append_left dn List.perm_middle.symm).trans hperm⟩ (run_entry_at w' it bk clock seen ces clock p.2 ra2.iter ra2.map hem hb.2) _ fun m2 a2 w2 f2 H2 s3 st3 fr3 inv3 => ?_
      exact hK p l1 l2 m2 H2 w2 f2 a2 rfl (ra2.step s3 st3 fr3) inv3
  intro n
  induction n with
  | zero =>
    intro lp dn seen m H w f a hl ra inv hperm hseen Q hQ
    refine round lp dn seen m H w f a ra inv hperm hseen Q _ (fun _ => hQ) fun p l1 l2 m' H' w' f' a' he => ?_
    have : lp = [] := List.eq_nil_of_length_eq_zero hl
    rw [this] at he
    simp at he
  | succ n ih =>
    intro lp dn seen m H w f a hl ra inv hperm hseen Q hQ
    refine round lp dn seen m H w f a ra inv hperm hseen Q _ (fun _ => hQ) fun p l1 l2 m' H' w' f' a' he ra' inv' => ?_
    subst he
    refine ih (l1 ++ l2) (dn ++ [p]) _ m' H' w' f' a' (by simp at hl ⊢; omega) ra' inv' ?_ (by simp [hseen]) Q hQ
    refine List.Perm.trans ?_ hperm
    rw [List.append_assoc]
    exact List.Perm.append_left dn (by simpa using (List.perm_middle (a := p) (l₁ := l1) (l₂ := l2)).symm)
end
end Go.Ev
