/- An abstract machine for the model's code, and its soundness: part F. -/
import Derived.Test.YtginbifeinpciaaGreatEvE
import Derived.Below
import Derived.Test.YtginbifeinpciaaGreatEvA
import Derived.Maps.RangeRun
/- A closed run of the machine, from nothing: the call does what the run came to, and leaves all that was there as it was. -/
namespace Go.Ev
open Go Go.RowKit

section
variable {P : Program}
theorem st_empty (N : Nat) (w : World) : St N (fun _ => none) AH.empty w :=
  ⟨⟨fun _ _ h => (by cases h), fun _ _ _ _ h => (by cases h), fun _ _ _ _ _ _ _ _ _ h => (by cases h)⟩, HOk.empty, fun _ _ _ => rfl⟩
theorem below_of_step {H H' : AH} {w w' : World} {m' : BM} (s : Stp (fun _ => none) H w m' H' w') : Below w.heap.size w w' := by
  refine ⟨s.os, s.tape, s.output, s.size, fun k hk => ?_⟩
  have hno : ∀ i, ¬ Owned (fun _ => none) H.get k i := by
    rintro i ⟨b, x, cb, _, h, _⟩
    cases h
  have hg : w.heap[k]? = some w.heap[k] := Array.getElem?_eq_getElem hk
  cases hx : w.heap[k] with
  | cells c e f =>
    rw [hx] at hg
    obtain ⟨c', h1, h2, h3⟩ := s.cells k c e f hg
    rw [h1, hg]
    have : c' = c := by
      apply Array.ext_getElem?
      intro i
      exact h3 i (hno i)
    rw [this]
  | _ =>
    rw [hx] at hg
    rw [hg]
    exact s.objs k _ hg (by intro c e f h; cases h) (hno 0)
def boolR : AV → AH → Option Bool := fun v _ => match v with
  | .bool b => some b
  | _ => none
/-- A closed run. -/
theorem closed_run (hp : Plain P) (hm : P.follows .mixedOrders = true) {prim : FuncId → Option Prim} (hpr : PrimOk P prim) {m n : Nat} {f : FuncId} {fn : Func} (hf : P.funcs[f]? = some fn) {c : Code} (hb : fn.body = some c) {b : Bool} (h : ev P prim m n (.call f [] AH.empty) boolR = some b) (W : World) :
    Calls P f #[] W fun e w' => e = .returned (.bool b) ∧ Below W.heap.size W w' := by
  obtain ⟨v, H', h1, h2, h3⟩ := ev_sound (R := Bool) hp hm hpr m n _ _ _ h
  have hv : v = .bool b := by
    unfold boolR at h1
    split at h1
    · injection h1 with h1; rw [h1]
    · cases h1
  subst hv
  obtain ⟨nx, w1, h4, h5⟩ := h3 H'.nx (fun _ => none) W #[] (Nat.le_refl _) (st_empty _ W) .nil
  rw [callFunc_enter hp hf hb] at h4
  injection h4 with h6 h7
  subst h6; subst h7
  have h5 : CallsIn Fence.wide 0 P f #[] W fun e w' => ∃ v, e = .returned v ∧ Post H'.nx (fun _ => none) AH.empty W (.bool b) H' v w' := h5
  refine (callsIn_wide.1 h5).mono ?_
  rintro e w' ⟨v, rfl, m', hs, _, hr⟩
  cases hr
  exact ⟨rfl, below_of_step hs⟩
end
end Go.Ev
/- Ranges over maps: what a loop over a map comes to, in whichever order the entries come up. -/
namespace Go.Ev
open Go Go.RowKit Go.ChangeMaps

/-! Frames by hand -/
def Fr.putT (f : Fr) (t : Nat) (v : AV) : Fr := ⟨f.tm.put t v, f.df, f.nt, f.rd, f.fn⟩
theorem Fr.put_some {f : Fr} {t : Nat} {v : AV} (h : t < f.nt) : f.put (some t) v = some (f.putT t v) := by
  have h1 : Nat.ble (Nat.succ t) f.nt = true := Nat.ble_eq_true_of_le h
  unfold Fr.put
  simp only [h1]
  rfl
theorem Fr.get_putT (f : Fr) (t : Nat) (v : AV) (j : Nat) (ht : t < 256) : (f.putT t v).get j = if j = t then v else f.get j := FT.get_put f.tm t v j ht
theorem Fr.nt_putT (f : Fr) (t : Nat) (v : AV) : (f.putT t v).nt = f.nt := rfl
theorem Fr.df_putT (f : Fr) (t : Nat) (v : AV) : (f.putT t v).df = f.df := rfl
theorem Fr.rd_putT (f : Fr) (t : Nat) (v : AV) : (f.putT t v).rd = f.rd := rfl

section
variable {P : Program}
/-! Operations that give values, one behind the other -/
noncomputable def seqA (P : Program) : List Oper → Fr → AH → Option (Fr × AH)
  | [], f, H => some (f, H)
  | o :: l, f, H => match o.guard with
    | some _ => none
    | none => match opA P f H o.op with
      | some (.val v H1) => match f.put o.dst v with
        | some f1 => seqA P l f1 H1
        | none => none
      | _ => none
theorem not_defer {op : Op} {f : Fr} {H H' : AH} {v : AV} (h : opA P f H op = some (.val v H')) : ∀ c, op ≠ .defer c := by
  intro c hc
  subst hc
  have h : opDefer f c.callee (aevs f c.args.toList) = some (.val v H') := h
  unfold opDefer at h
  split at h
  · split at h
    · unfold dfrA at h
      split at h
      · injection h with h; cases h
      · cases h
    · cases h
  · cases h
theorem wpOps_step {ops : Array Oper} {Q : Exit → Act → World → Prop} {i n : Nat} {o : Oper} {r : Option Nat} {a : Act} {w : World} (ho : ops[i]? = some o) (hg : o.guard = none)
    (h : o.wpIn (FW r) 0 P a w (wpOpsIn (FW r) 0 P ops Q (List.range' (i + 1) n)) Q) : wpOpsIn (FW r) 0 P ops Q (List.range' i (n + 1)) a w := by
  simp only [List.range'_succ, wpOpsIn, ho]
  rw [if_pos (by simp [Region.wanted, hg])]
  exact h
theorem wpOps_special {ops : Array Oper} {Q : Exit → Act → World → Prop} {i n : Nat} {o : Oper} {r : Option Nat} {a : Act} {w w1 : World} {u : Value} (ho : ops[i]? = some o) (hg : o.guard = none) (hd : ∀ c, o.op ≠ .defer c)
    (hrun : (execOp a.eval o).run P w = .ok (.value u) w1) (hk : wpOpsIn (FW r) 0 P ops Q (List.range' (i + 1) n) (a.put o.dst u) w1) : wpOpsIn (FW r) 0 P ops Q (List.range' i (n + 1)) a w := by
  refine wpOps_step ho hg ⟨fun _ _ => trivial, ?_⟩
  rw [Oper.semAt_eq _ _ _ hd, hrun]
  exact hk
theorem seqA_sound {ops : Array Oper} : ∀ (l : List Oper) {f : Fr} {H : AH} {f' : Fr} {H' : AH}, seqA P l f H = some (f', H') → H.nx ≤ H'.nx ∧ ∀ pre post, ops.toList = pre ++ (l ++ post) → ∀ N m w a r, H'.nx ≤ N → St N m H w → FrRel m r f a →
    ∀ Q : Exit → Act → World → Prop, (∀ m' a' w', Stp m H w m' H' w' → St N m' H' w' → FrRel m' r f' a' → wpOpsIn (FW r) 0 P ops Q (List.range' (pre.length + l.length) post.length) a' w') →
      wpOpsIn (FW r) 0 P ops Q (List.range' pre.length (l.length + post.length)) a w
  | [], f, H, f', H', h => by
    simp only [seqA] at h
    injection h with h
    injection h with h1 h2
    subst h1; subst h2
    refine ⟨Nat.le_refl _, fun pre post hp N m w a r hN st fr Q hQ => ?_⟩
    have := hQ m a w .refl st fr
    simpa using this
  | o :: l, f, H, f', H', h => by
    simp only [seqA] at h
    split at h
    · cases h
    · rename_i hg
      split at h
      · rename_i v H1 hop
        split at h
        · rename_i f1 hput
          obtain ⟨n1, g1⟩ := seqA_sound (ops := ops) l h
          have hs : OperS P o f H f1 H1 := operS_of (not_defer hop) hput (opS_val hop)
          refine ⟨Nat.le_trans hs.1 n1, fun pre post hp N m w a r hN st fr Q hQ => ?_⟩
          have ho : ops[pre.length]? = some o := by rw [← Array.getElem?_toList, hp]; simp
          rw [show (o :: l).length + post.length = (l.length + post.length) + 1 from by simp; omega]
          refine wpOps_step ho hg (hs.2 N m w a r (Nat.le_trans n1 hN) st fr _ Q fun m1 a1 w1 s1 st1 fr1 => ?_)
          have := g1 (pre ++ [o]) post (by simp [hp]) N m1 w1 a1 r hN st1 fr1 Q (fun m' a' w' s2 st2 fr2 => by
            have := hQ m' a' w' (s1.trans s2) st2 fr2
            rw [show (pre ++ [o]).length + l.length = pre.length + (o :: l).length from by simp; omega]
            exact this)
          simpa using this
        · cases h
      · cases h
theorem seqA_region {id : Nat} {ops : Array Oper} {f f' : Fr} {H H' : AH} (h : seqA P ops.toList f H = some (f', H')) : CodeS P (.region id ops false) f H .normal f' H' := by
  obtain ⟨n1, g1⟩ := seqA_sound (ops := ops) ops.toList h
  refine ⟨n1, fun N m w a r hN st fr Q hQ => wpIn_region ?_⟩
  have := g1 [] [] (by simp) N m w a r hN st fr Q (fun m' a' w' s st' fr' => by
    have := hQ m' a' w' s st' fr'
    simpa [wpOpsIn, exOf] using this)
  simpa [List.range_eq_range'] using this

/-! A number that is given to nothing the machine knows: an iterator's -/
theorem AH.nx_bump (H : AH) : H.bump.nx = H.nx + 1 := rfl
theorem AH.get_bump (H : AH) (b : Nat) : H.bump.get b = H.get b := rfl
theorem bump_st {N : Nat} {m : BM} {H : AH} {w : World} (st : St N m H w) (hroom : H.nx < mH) (hN : H.nx < N) (o : Obj) :
    Stp m H w (m.upd H.nx ⟨w.heap.size, 0, 0, 1, 0⟩) H.bump (w.alloc o) ∧ St N (m.upd H.nx ⟨w.heap.size, 0, 0, 1, 0⟩) H.bump (w.alloc o) := by
  obtain ⟨r, hk, hf⟩ := st
  have hm : m H.nx = none := hf _ (Nat.le_refl _) hN
  have hnone : H.get H.nx = none := hk.2 _ (Nat.le_refl _) hroom
  have hsz : (w.alloc o).heap.size = w.heap.size + 1 := by show (w.heap.push o).size = _; simp
  have hold : ∀ B, B < w.heap.size → (w.alloc o).heap[B]? = w.heap[B]? := fun B hB => by
    show (w.heap.push o)[B]? = _
    rw [Array.getElem?_push, if_neg (by omega)]
  have old : ∀ j x c, H.get j = some x → (m.upd H.nx ⟨w.heap.size, 0, 0, 1, 0⟩) j = some c → m j = some c := by
    intro j x c h1 h2
    unfold BM.upd at h2
    by_cases hj : j = H.nx
    · subst hj; rw [hnone] at h1; cases h1
    · rw [if_neg hj] at h2; exact h2
  refine ⟨⟨BM.upd_ext hm, fun j h1 h2 => ?_, Nat.le_succ _, by omega, rfl, rfl, rfl, fun B c e f h1 => ⟨c, (hold B (lt_of_get h1)).trans h1, rfl, fun _ _ => rfl⟩, fun B q h1 h2 h3 => (hold B (lt_of_get h1)).trans h1, fun B i ho => ?_⟩,
    ⟨⟨fun j c e => ?_, fun j x c h1 h2 => ?_, fun j j' x x' c c' h0 h1 h2 h3 h4 h5 => ?_⟩, ⟨?_, fun b h1 h2 => ?_⟩, fun b h1 h2 => ?_⟩⟩
  · unfold BM.upd at h2
    by_cases hj : j = H.nx
    · subst hj; exact ⟨Nat.le_refl _, Nat.lt_succ_self _⟩
    · rw [if_neg hj] at h2; exact absurd h1 h2
  · obtain ⟨j, x, c, h1, h2, h3⟩ := ho
    exact .inl ⟨j, x, c, h1, old j x c h1 h2, h3⟩
  · unfold BM.upd at e
    by_cases hj : j = H.nx
    · rw [if_pos hj] at e; injection e with e; subst e; exact ⟨by omega, by rw [hsz]; exact Nat.lt_succ_self _⟩
    · rw [if_neg hj] at e; have := r.dom j c e; exact ⟨this.1, by omega⟩
  · have hc := old j x c h1 h2
    exact (r.live j x c h1 hc).of_heap (BM.upd_ext hm) (hold _ (r.dom j c hc).2)
  · exact r.apart j j' x x' c c' h0 h1 h2 (old j x c h1 h3) (old j' x' c' h2 h4) h5
  · exact hroom
  · exact hk.2 b (Nat.le_of_succ_le h1) h2
  · have h1 : H.nx + 1 ≤ b := h1
    unfold BM.upd
    rw [if_neg (by omega)]
    exact hf b (by omega) h2
/-- No block that is known lies where an iterator lies. -/
theorem iter_other {m : BM} {h : HF} {w : World} (r : Rel m h w) {it : Nat} {x0 : Option Nat} {x1 : Nat} {x2 : Array Nat} {x3 : Nat} (hit : w.heap[it]? = some (.mapIter x0 x1 x2 x3)) {b : Nat} {x : ABlk} {cb : CB} (h1 : h b = some x) (h2 : m b = some cb) : cb.blk ≠ it := by
  intro e
  have := r.live b x cb h1 h2
  cases x with
  | cells sl sz l =>
    obtain ⟨_, _, _, _, c, e', lo, hi, h5, _⟩ := this
    rw [e, hit] at h5; cases h5
  | loop q =>
    obtain ⟨_, _, L, h5, _⟩ := this
    rw [e, hit] at h5; cases h5
  | deferred q =>
    obtain ⟨_, _, h5⟩ := this
    rw [e, hit] at h5; cases h5
  | map q =>
    obtain ⟨_, _, ces, k, h5, _⟩ := this
    rw [e, hit] at h5; cases h5
theorem iter_unowned {m : BM} {h : HF} {w : World} (r : Rel m h w) {it : Nat} {x0 : Option Nat} {x1 : Nat} {x2 : Array Nat} {x3 : Nat} (hit : w.heap[it]? = some (.mapIter x0 x1 x2 x3)) (i : Nat) : ¬ Owned m h it i := by
  rintro ⟨b, x, cb, h1, h2, h3, _⟩
  exact iter_other r hit h1 h2 h3
/-- An iterator is turned. -/
theorem touch {N : Nat} {m0 m : BM} {H0 H : AH} {w0 w w1 : World} (s : Stp m0 H0 w0 m H w) (st : St N m H w) {it : Nat} {x0 : Option Nat} {x1 : Nat} {x2 : Array Nat} {x3 : Nat} (hit : w.heap[it]? = some (.mapIter x0 x1 x2 x3))
    (hnew : w0.heap.size ≤ it) (hw : w1 = w ∨ w1 = w.drew) (o : Obj) : Stp m0 H0 w0 m H (setBlock w1 it o) ∧ St N m H (setBlock w1 it o) := by
  have hh : w1.heap = w.heap := by rcases hw with rfl | rfl <;> rfl
  have ht : w1.tape = w.tape := by rcases hw with rfl | rfl <;> rfl
  have hos : w1.os = w.os := by rcases hw with rfl | rfl <;> rfl
  have hou : w1.output = w.output := by rcases hw with rfl | rfl <;> rfl
  have hne : ∀ B, B ≠ it → (setBlock w1 it o).heap[B]? = w.heap[B]? := fun B hB => by
    show (w1.heap.setIfInBounds it o)[B]? = _
    rw [Array.getElem?_setIfInBounds_ne (Ne.symm hB), hh]
  have hsz : (setBlock w1 it o).heap.size = w.heap.size := by show (w1.heap.setIfInBounds it o).size = _; simp [hh]
  refine ⟨⟨s.ext, s.ids, s.mono, by rw [hsz]; exact s.size, ht.trans s.tape, hos.trans s.os, hou.trans s.output, fun B c e f h1 => ?_, fun B q h1 h2 h3 => ?_, s.grow⟩, ⟨⟨fun j c e => ?_, fun j x c h1 h2 => ?_, st.rel.apart⟩, st.ok, st.free⟩⟩
  · obtain ⟨c', k1, k2⟩ := s.cells B c e f h1
    have := lt_of_get h1
    exact ⟨c', (hne B (by omega)).trans k1, k2⟩
  · have := lt_of_get h1
    exact (hne B (by omega)).trans (s.objs B q h1 h2 h3)
  · rw [hsz]; exact st.rel.dom j c e
  · exact (st.rel.live j x c h1 h2).of_heap (.refl m) (hne _ (iter_other st.rel hit h1 h2))

/-! A loop over a map -/
abbrev Pr := (AV × AV) × MapEntry
structure RangeAt (N : Nat) (m0 : BM) (H0 : AH) (w0 : World) (r : Option Nat) (b0 it bk clock : Nat) (ces : Array MapEntry) (ps : List Pr) (seen : Array Nat) (m : BM) (H : AH) (w : World) (f : Fr) (a : Act) : Prop where
  stp : Stp m0 H0 w0 m H w
  st : St N m H w
  fr : FrRel m r f a
  itm : m b0 = some ⟨it, 0, 0, 1, 0⟩
  iter : w.heap[it]? = some (.mapIter (some bk) clock seen clock)
  map : w.heap[bk]? = some (.map ces clock)
  hid : ¬ Owned m H.get bk 0
  new : w0.heap.size ≤ it
  prs : ∀ p ∈ ps, VRel m p.1.1 p.2.key ∧ VRel m p.1.2 p.2.val
theorem RangeAt.step {N : Nat} {m0 m m' : BM} {H0 H H' : AH} {w0 w w' : World} {r : Option Nat} {b0 it bk clock : Nat} {ces : Array MapEntry} {ps : List Pr} {seen : Array Nat} {f f' : Fr} {a a' : Act} (h : RangeAt N m0 H0 w0 r b0 it bk clock ces ps seen m H w f a)
    (s : Stp m H w m' H' w') (st : St N m' H' w') (fr : FrRel m' r f' a') : RangeAt N m0 H0 w0 r b0 it bk clock ces ps seen m' H' w' f' a' where
  stp := h.stp.trans s
  st := st
  fr := fr
  itm := s.ext _ _ h.itm
  iter := s.objs it _ h.iter (fun _ _ _ e => by cases e) (iter_unowned h.st.rel h.iter 0)
  map := s.objs bk _ h.map (fun _ _ _ e => by cases e) h.hid
  hid := by
    intro ho
    rcases s.grow bk 0 ho with h1 | h1
    · exact h.hid h1
    · have := lt_of_get h.map; omega
  new := h.new
  prs := fun p hp => ⟨(h.prs p hp).1.mono s.ext, (h.prs p hp).2.mono s.ext⟩
theorem mem_of_born {ces : Array MapEntry} {clock : Nat} (hb : BornOk ces clock) {x y : MapEntry} (hx : x ∈ ces.toList) (hy : y ∈ ces.toList) (h : x.born = y.born) : x = y := by
  have hn := hb.2
  generalize ces.toList = l at hx hy hn
  induction l with
  | nil => cases hx
  | cons z l ih =>
    simp only [List.map_cons, List.nodup_cons, List.mem_map, not_exists, not_and] at hn
    rcases List.mem_cons.1 hx with rfl | hx'
    · rcases List.mem_cons.1 hy with rfl | hy'
      · rfl
      · exact absurd h.symm (hn.1 y hy')
    · rcases List.mem_cons.1 hy with rfl | hy'
      · exact absurd h (hn.1 x hx')
      · exact ih hx' hy' hn.2
theorem range_loop {N : Nat} {m0 : BM} {H0 : AH} {w0 : World} {r : Option Nat} {b0 it bk clock : Nat} {ces : Array MapEntry} {ps : List Pr} {id bid ti tn tk : Nat} {o1 o2 : Oper} {body : Code}
    (hb : BornOk ces clock) (hps : (ps.map (·.2)).Perm ces.toList)
    (ho1 : o1.op = .next (.tmp ti) false) (hd1 : o1.dst = some tn) (hg1 : o1.guard = none) (ho2 : o2.op = .extract (.tmp tn) 0) (hd2 : o2.dst = some tk) (hg2 : o2.guard = none) (_hne : tk ≠ tn) (Inv : List Pr → Fr → AH → Prop)
    (hI : ∀ dn f H, Inv dn f H → f.get ti = .ptr b0 0 ∧ tn < f.nt ∧ tk < f.nt ∧ H.nx ≤ N ∧ ∀ u1 u2, Inv dn ((f.putT tn u1).putT tk u2) H)
    (hbody : ∀ dn p seen f H m w a, RangeAt N m0 H0 w0 r b0 it bk clock ces ps seen m H w f a → Inv dn f H → (∃ lp, (dn ++ p :: lp).Perm ps) → (Instr.entry (.pointer (some ⟨it, 0, none⟩))).run P w = .ok (.tuple #[p.2.key, p.2.val]) w → ∀ Q : Exit → Act → World → Prop,
      (∀ m' a' w' f' H', Stp m H w m' H' w' → St N m' H' w' → FrRel m' r f' a' → Inv (dn ++ [p]) f' H' → Q .normal a' w') → body.wpIn (FW r) 0 P Q a w) :
    ∀ (n : Nat) (lp dn : List Pr) (seen : Array Nat) (m : BM) (H : AH) (w : World) (f : Fr) (a : Act), lp.length = n → RangeAt N m0 H0 w0 r b0 it bk clock ces ps seen m H w f a → Inv dn f H → (dn ++ lp).Perm ps → seen.toList = dn.map (·.2.born) →
      ∀ Q : Exit → Act → World → Prop, (∀ dn' m' H' w' f' a' seen', dn'.Perm ps → RangeAt N m0 H0 w0 r b0 it bk clock ces ps seen' m' H' w' f' a' → Inv dn' f' H' → Q (.exit bid) a' w') →
        LoopN (FW r) P (.seq (.region id #[o1, o2] false) (.seq (.cond (.tmp tk) .skip (.exit bid)) body)) Q (n + 1) a w := by
  have round : ∀ (lp dn : List Pr) (seen : Array Nat) (m : BM) (H : AH) (w : World) (f : Fr) (a : Act), RangeAt N m0 H0 w0 r b0 it bk clock ces ps seen m H w f a → Inv dn f H → (dn ++ lp).Perm ps → seen.toList = dn.map (·.2.born) →
      ∀ (Q : Exit → Act → World → Prop) (K : Act → World → Prop), (lp = [] → ∀ dn' m' H' w' f' a' seen', dn'.Perm ps → RangeAt N m0 H0 w0 r b0 it bk clock ces ps seen' m' H' w' f' a' → Inv dn' f' H' → Q (.exit bid) a' w') →
        (∀ p l1 l2 m' H' w' f' a', lp = l1 ++ p :: l2 → RangeAt N m0 H0 w0 r b0 it bk clock ces ps (seen.push p.2.born) m' H' w' f' a' → Inv (dn ++ [p]) f' H' → K a' w') →
        (Code.seq (.region id #[o1, o2] false) (.seq (.cond (.tmp tk) .skip (.exit bid)) body)).wpIn (FW r) 0 P (Exit.then K Q) a w := by
    intro lp dn seen m H w f a ra inv hperm hseen Q K hQ hK
    obtain ⟨ht, hn1, hn2, hnN, hput⟩ := hI dn f H inv
    have hit := ra.iter
    have hn256 : f.nt ≤ 256 := ra.fr.tm.2.1
    have hev : a.eval (.tmp ti) = .pointer (some ⟨it, 0, none⟩) := by
      have := aev_rel ra.fr.ev (x := .tmp ti) rfl
      rw [ht] at this
      generalize a.eval (.tmp ti) = u at this
      cases this with
      | ptr h =>
        rw [ra.itm] at h
        injection h with h
        rw [← h]
    -- the region behind the step
    have region : ∀ (u : Value) (v : AV) (w1 : World) (k : Bool) (l : List AV), v = .tup (.bool k :: l) → VRel m v u → (Instr.next (.pointer (some ⟨it, 0, none⟩)) false o1.type).run P w = .ok u w1 → Stp m0 H0 w0 m H w1 → St N m H w1 →
        (∀ m' a' w', Stp m H w1 m' H w' → St N m' H w' → FrRel m' r ((f.putT tn v).putT tk (.bool k)) a' → (Code.seq (.cond (.tmp tk) .skip (.exit bid)) body).wpIn (FW r) 0 P (Exit.then K Q) a' w') →
        (Code.seq (.region id #[o1, o2] false) (.seq (.cond (.tmp tk) .skip (.exit bid)) body)).wpIn (FW r) 0 P (Exit.then K Q) a w := by
      intro u v w1 k l hv hvr hrun hs1 hst1 hnext
      refine wpIn_seq (wpIn_region ?_)
      have hrng : List.range #[o1, o2].size = List.range' 0 (1 + 1) := by simp [List.range_eq_range']
      rw [hrng]
      refine wpOps_special (o := o1) (u := u) (w1 := w1) (by rfl) hg1 (by rw [ho1]; intro c h; cases h) ?_ ?_
      · simp [execOp, ho1, hev, hrun]
      · have hp : f.put o1.dst v = some (f.putT tn v) := by rw [hd1]; exact Fr.put_some hn1
        have fr1 := ra.fr.put hp hvr
        have hget : (f.putT tn v).get tn = v := by rw [Fr.get_putT _ _ _ _ (by omega), if_pos rfl]
        have hop : opA P (f.putT tn v) H o2.op = some (.val (.bool k) H) := by
          rw [ho2]
          show opExtract H 0 (some ((f.putT tn v).get tn)) = _
          rw [hget, hv]
          rfl
        have hseq : seqA P [o2] (f.putT tn v) H = some ((f.putT tn v).putT tk (.bool k), H) := by
          simp only [seqA, hg2, hop, hd2]
          rw [Fr.put_some (by rw [Fr.nt_putT]; exact hn2)]
        have := (seqA_sound (P := P) (ops := #[o1, o2]) [o2] hseq).2 [o1] [] (by simp) N m w1 (a.put o1.dst u) r hnN hst1 fr1 (Exit.then (fun a' w' => (Code.seq (.cond (.tmp tk) .skip (.exit bid)) body).wpIn (FW r) 0 P (Exit.then K Q) a' w') (Exit.then K Q)) (fun m' a' w' s2 st2 fr2 => by
          have := hnext m' a' w' s2 st2 fr2
          simpa [wpOpsIn, Exit.then] using this)
        simpa using this
    have hnod : (ps.map fun p => p.2.born).Nodup := by
      have := hb.2
      have hp := (hps.map (·.born)).symm.nodup this
      simpa [Function.comp_def] using hp
    have hnod2 : ((dn ++ lp).map fun p => p.2.born).Nodup := (hperm.map _).symm.nodup hnod
    rcases run_next_at (P := P) w o1.type it bk clock clock seen ces clock hit ra.map hb.1 (Nat.le_refl _) with ⟨h0, hrun⟩ | ⟨e, he, w1, hw1, hrun⟩
    · have hlp : lp = [] := by
        cases lp with
        | nil => rfl
        | cons p l =>
          exfalso
          have hp : p ∈ ps := hperm.subset (by simp)
          have hc : p.2 ∈ ces.toList := hps.subset (List.mem_map.2 ⟨p, hp, rfl⟩)
          have := all_seen ces seen h0 p.2 hc
          have hm : p.2.born ∈ seen.toList := by simpa using this
          rw [hseen] at hm
          rw [List.map_append, List.nodup_append] at hnod2
          exact hnod2.2.2 _ hm _ (by simp) rfl
      refine region _ (.tup [.bool false]) w false [] rfl (.tup (.cons (.bool _) .nil)) hrun ra.stp ra.st fun m' a' w' s2 st2 fr2 => ?_
      have hc : a'.eval (.tmp tk) = .bool false := by
        have := aev_rel fr2.ev (x := .tmp tk) rfl
        rw [Fr.get_putT _ _ _ _ (by omega), if_pos rfl] at this
        generalize a'.eval (.tmp tk) = u at this
        cases this
        rfl
      refine wpIn_seq (wpIn_cond_false hc (wpIn_exit ?_))
      exact hQ hlp dn m' H w' _ a' seen (by rw [hlp, List.append_nil] at hperm; exact hperm) (ra.step s2 st2 fr2) (hput _ _)
    · obtain ⟨hem, hes⟩ := mem_left he
      obtain ⟨p, hp, rfl⟩ := List.mem_map.1 (hps.symm.subset hem)
      have hpl : p ∈ lp := by
        rcases List.mem_append.1 (hperm.symm.subset hp) with h | h
        · exfalso
          have : p.2.born ∈ seen.toList := by rw [hseen]; exact List.mem_map.2 ⟨p, h, rfl⟩
          have : seen.contains p.2.born = true := by simpa using this
          rw [this] at hes; cases hes
        · exact h
      obtain ⟨l1, l2, rfl⟩ := List.append_of_mem hpl
      obtain ⟨s1, st1⟩ := touch ra.stp ra.st hit ra.new hw1 (.mapIter (some bk) clock (seen.push p.2.born) clock)
      have hbk : bk ≠ it := fun h => by have := ra.map; rw [h, hit] at this; cases this
      have hh : w1.heap = w.heap := by rcases hw1 with rfl | rfl <;> rfl
      have ra1 : RangeAt N m0 H0 w0 r b0 it bk clock ces ps (seen.push p.2.born) m H (setBlock w1 it (.mapIter (some bk) clock (seen.push p.2.born) clock)) f a :=
        ⟨s1, st1, ra.fr, ra.itm, by
          show (w1.heap.setIfInBounds it _)[it]? = _
          rw [Array.getElem?_setIfInBounds_self_of_lt (by rw [hh]; exact lt_of_get hit)], by
          show (w1.heap.setIfInBounds it _)[bk]? = _
          rw [Array.getElem?_setIfInBounds_ne (Ne.symm hbk), hh]
          exact ra.map, ra.hid, ra.new, ra.prs⟩
      obtain ⟨vr1, vr2⟩ := ra.prs p hp
      refine region _ (.tup [.bool true, p.1.1, p.1.2]) _ true _ rfl (.tup (.cons (.bool _) (.cons vr1 (.cons vr2 .nil)))) hrun s1 st1 fun m' a' w' s2 st2 fr2 => ?_
      have hc : a'.eval (.tmp tk) = .bool true := by
        have := aev_rel fr2.ev (x := .tmp tk) rfl
        rw [Fr.get_putT _ _ _ _ (by omega), if_pos rfl] at this
        generalize a'.eval (.tmp tk) = u at this
        cases this
        rfl
      refine wpIn_seq (wpIn_cond_true hc (wpIn_skip ?_))
      have ra2 := ra1.step s2 st2 fr2
      refine hbody dn p (seen.push p.2.born) _ H m' w' a' ra2 (hput _ _) ⟨l1 ++ l2, (List.Perm.append_left dn List.perm_middle.symm).trans hperm⟩ (run_entry_at w' it bk clock seen ces clock p.2 ra2.iter ra2.map hem hb.2) _ fun m2 a2 w2 f2 H2 s3 st3 fr3 inv3 => ?_
      exact hK p l1 l2 m2 H2 w2 f2 a2 rfl (ra2.step s3 st3 fr3) inv3
  intro n
  induction n with
  | zero =>
    intro lp dn seen m H w f a hl ra inv hperm hseen Q hQ
    refine round lp dn seen m H w f a ra inv hperm hseen Q _ (fun _ => hQ) fun p l1 l2 m' H' w' f' a' he => ?_
    have : lp = [] := List.eq_nil_of_length_eq_zero hl
    rw [this] at he
    simp at he
  | succ n ih =>
    intro lp dn seen m H w f a hl ra inv hperm hseen Q hQ
    refine round lp dn seen m H w f a ra inv hperm hseen Q _ (fun _ => hQ) fun p l1 l2 m' H' w' f' a' he ra' inv' => ?_
    subst he
    refine ih (l1 ++ l2) (dn ++ [p]) _ m' H' w' f' a' (by simp at hl ⊢; omega) ra' inv' ?_ (by simp [hseen]) Q hQ
    refine List.Perm.trans ?_ hperm
    rw [List.append_assoc]
    exact List.Perm.append_left dn (by simpa using (List.perm_middle (a := p) (l₁ := l1) (l₂ := l2)).symm)
end
end Go.Ev
/- Functions by hand: the frame at the start, a range's beginning, the map that is ranged over hidden and shown again. -/
namespace Go.Ev
open Go Go.RowKit Go.ChangeMaps

section
variable {P : Program}
theorem walk_fn (hp : Plain P) {g : FuncId} {fn : Func} {c : Code} (hg : P.funcs[g]? = some fn) (hb : fn.body = some c) {args : List AV} {H H' : AH} {v : AV} (hn : fn.ntmps ≤ 256) (hal : args.length ≤ fn.ntmps)
    (hw : ∀ N m w a f, H'.nx ≤ N → St N m H w → FrRel m none f a → f.df = [] → f.rd = none → f.nt = fn.ntmps → (∀ t, f.get t = (args[t]?).getD Ev.und) →
      c.wpIn (FW none) 0 P (fun e a1 w1 => (e = .normal ∨ e = .ret) ∧ ∃ m1 f1 vs, Stp m H w m1 H' w1 ∧ St N m1 H' w1 ∧ FrRel m1 none f1 a1 ∧ f1.df = [] ∧ resA P H' f1 fn.results.toList = some vs ∧ packA vs = v) a w) : CallS P g args H v H' := by
  intro N m w us hN st hla
  refine ⟨.enter g us, w, callFunc_enter hp hg hb us w, ?_⟩
  have hle : Nat.ble (Nat.add (len args) (Nat.sub fn.ntmps (len args))) mT = true := Nat.ble_eq_true_of_le (by rw [len_eq]; show args.length + (fn.ntmps - args.length) ≤ 256; omega)
  have hfr : frK (R := Fr) g fn.ntmps args some = some ⟨putArgs args 0 .und, [], Nat.add (len args) (Nat.sub fn.ntmps (len args)), none, g⟩ := by
    unfold frK
    rw [hle]
  obtain ⟨f, h1, h2, h3, h4⟩ := frK_some hfr
  injection h1 with h1
  subst h1
  refine callsIn_of_wp_marks hg hb trivial (wpIn_mono (hw N m w _ _ hN st (h4 m us hla) rfl rfl ?_ fun (t : Nat) => ?_) fun e a1 w1 hq => ?_) rfl
  · show Nat.add (len args) (Nat.sub fn.ntmps (len args)) = _
    rw [len_eq]
    show args.length + (fn.ntmps - args.length) = _
    omega
  · show (putArgs args 0 FT.und).get t = _
    rw [putArgs_get args 0 FT.und (by omega) t, FT.und_get]
    by_cases ht : t < args.length
    · rw [if_pos ⟨Nat.zero_le _, by omega⟩]; rfl
    · rw [if_neg (by omega), List.getElem?_eq_none (by omega)]; rfl
  · obtain ⟨he, m1, f1, vs, s1, st1, fr1, hdf, hres, hv⟩ := hq
    subst hv
    obtain ⟨u, hu, hr⟩ := results_run st1.rel fr1.ev hres
    have hd : a1.defers = [] := by
      have := fr1.df
      rw [hdf] at this
      generalize a1.defers = ds at this ⊢
      cases this
      rfl
    have key : LeavesInM Fence.wide 0 P fn a1.tmps (fun e w' => ∃ v, e = .returned v ∧ Post N m H w (packA vs) H' v w') a1.defers .returning w1 := by
      rw [hd]
      exact ⟨u, hu, u, rfl, m1, s1, st1, hr⟩
    rcases he with rfl | rfl
    · exact key
    · exact key

/-! Heaps that look alike -/
theorem mapOk_prs {m : BM} {es : List (AV × AV)} {ces : Array MapEntry} : MapOk m es ces ↔ ∃ ps : List Pr, ps.map (·.1) = es ∧ (ps.map (·.2)).Perm ces.toList ∧ (∀ p ∈ ps, VRel m p.1.1 p.2.key ∧ VRel m p.1.2 p.2.val) ∧ (∃ κ, ∀ e ∈ es, KeyK κ e.1) ∧ es.Pairwise (fun a b => a.1 ≠ b.1) := by
  have key : ∀ (es : List (AV × AV)) (l : List MapEntry), LRel m (es.map (·.1)) (l.map (·.key)) → LRel m (es.map (·.2)) (l.map (·.val)) → ∃ ps : List Pr, ps.map (·.1) = es ∧ ps.map (·.2) = l ∧ ∀ p ∈ ps, VRel m p.1.1 p.2.key ∧ VRel m p.1.2 p.2.val := by
    intro es
    induction es with
    | nil =>
      intro l h1 h2
      cases l with
      | nil => exact ⟨[], rfl, rfl, fun p hp => by cases hp⟩
      | cons x l => cases h1
    | cons e es ih =>
      intro l h1 h2
      cases l with
      | nil => cases h1
      | cons x l =>
        cases h1 with
        | cons a1 t1 =>
          cases h2 with
          | cons a2 t2 =>
            obtain ⟨ps, q1, q2, q3⟩ := ih l t1 t2
            refine ⟨(e, x) :: ps, by simp [q1], by simp [q2], fun p hp => ?_⟩
            rcases List.mem_cons.1 hp with rfl | hp
            · exact ⟨a1, a2⟩
            · exact q3 p hp
  have back : ∀ ps : List Pr, (∀ p ∈ ps, VRel m p.1.1 p.2.key ∧ VRel m p.1.2 p.2.val) → LRel m ((ps.map (·.1)).map (·.1)) ((ps.map (·.2)).map (·.key)) ∧ LRel m ((ps.map (·.1)).map (·.2)) ((ps.map (·.2)).map (·.val)) := by
    intro ps
    induction ps with
    | nil => intro _; exact ⟨.nil, .nil⟩
    | cons p ps ih =>
      intro h
      obtain ⟨h1, h2⟩ := ih fun q hq => h q (List.mem_cons_of_mem _ hq)
      obtain ⟨k1, k2⟩ := h p List.mem_cons_self
      exact ⟨.cons k1 h1, .cons k2 h2⟩
  constructor
  · rintro ⟨l, h1, h2, h3, h4, h5⟩
    obtain ⟨ps, q1, q2, q3⟩ := key es l h3 h4
    exact ⟨ps, q1, by rw [q2]; exact h1, q3, h2, h5⟩
  · rintro ⟨ps, rfl, h1, h2, h3, h4⟩
    obtain ⟨k1, k2⟩ := back ps h2
    exact ⟨ps.map (·.2), h1, h3, k1, k2, h4⟩
theorem perm_lift {α β : Type} {f : α → β} {l1 l2 : List β} (h : l1.Perm l2) : ∀ ps : List α, ps.map f = l1 → ∃ qs : List α, qs.map f = l2 ∧ ps.Perm qs := by
  induction h with
  | nil => intro ps h; exact ⟨ps, h, .refl _⟩
  | cons x h ih =>
    intro ps hp
    cases ps with
    | nil => cases hp
    | cons p ps =>
      simp only [List.map_cons] at hp
      injection hp with h1 h2
      obtain ⟨qs, q1, q2⟩ := ih ps h2
      exact ⟨p :: qs, by simp [h1, q1], q2.cons p⟩
  | swap x y l =>
    intro ps hp
    match ps, hp with
    | p :: q :: ps, hp =>
      simp only [List.map_cons] at hp
      injection hp with h1 hp
      injection hp with h2 h3
      exact ⟨q :: p :: ps, by simp [h1, h2, h3], .swap q p ps⟩
  | trans h1 h2 ih1 ih2 =>
    intro ps hp
    obtain ⟨qs, q1, q2⟩ := ih1 ps hp
    obtain ⟨rs, r1, r2⟩ := ih2 qs q1
    exact ⟨rs, r1, q2.trans r2⟩
theorem mapOk_perm {m : BM} {es es2 : List (AV × AV)} {ces : Array MapEntry} (h : MapOk m es ces) (hp : es.Perm es2) : MapOk m es2 ces := by
  obtain ⟨ps, h1, h2, h3, ⟨κ, h4⟩, h5⟩ := mapOk_prs.1 h
  obtain ⟨qs, q1, q2⟩ := perm_lift hp ps h1
  exact mapOk_prs.2 ⟨qs, q1, (q2.symm.map _).trans h2, fun p hp => h3 p (q2.symm.subset hp), ⟨κ, fun e he => h4 e (hp.symm.subset he)⟩, (hp.pairwise_iff (fun {_ _} hne => Ne.symm hne)).1 h5⟩
/-- Two heaps alike, but for the order of a map's entries. -/
def HSim (H H2 : AH) : Prop := H2.nx = H.nx ∧ ∀ b, b < mH → H2.get b = H.get b ∨ ∃ es es2, H.get b = some (.map es) ∧ H2.get b = some (.map es2) ∧ es.Perm es2
theorem same_heap {N : Nat} {m0 m : BM} {H0 H H2 : AH} {w0 w : World} (s : Stp m0 H0 w0 m H w) (st : St N m H w) (hs : HSim H H2) : Stp m0 H0 w0 m H2 w ∧ St N m H2 w := by
  have back : ∀ b x cb, H2.get b = some x → m b = some cb → ∃ y, H.get b = some y ∧ (BlkOk m y cb w → BlkOk m x cb w) := by
    intro b x cb h1 h2
    rcases hs.2 b (st.rel.dom b cb h2).1 with h | ⟨es, es2, h3, h4, h5⟩
    · rw [h] at h1; exact ⟨x, h1, id⟩
    · rw [h4] at h1
      injection h1 with h1
      subst h1
      refine ⟨_, h3, fun ⟨k1, k2, ces, k, k3, k4, k5⟩ => ⟨k1, k2, ces, k, k3, mapOk_perm k4 h5, k5⟩⟩
  refine ⟨⟨s.ext, fun b h1 h2 => ?_, ?_, s.size, s.tape, s.os, s.output, s.cells, s.objs, fun B i ho => ?_⟩, ⟨⟨st.rel.dom, fun b x cb h1 h2 => ?_, fun b b' x x' cb cb' h0 h1 h2 h3 h4 h5 => ?_⟩, ⟨?_, fun b h1 h2 => ?_⟩, fun b h1 h2 => ?_⟩⟩
  · rw [hs.1]; exact s.ids b h1 h2
  · rw [hs.1]; exact s.mono
  · obtain ⟨b, x, cb, h1, h2, h3⟩ := ho
    obtain ⟨y, hy, _⟩ := back b x cb h1 h2
    exact s.grow B i ⟨b, y, cb, hy, h2, h3⟩
  · obtain ⟨y, hy, hk⟩ := back b x cb h1 h2
    exact hk (st.rel.live b y cb hy h2)
  · obtain ⟨y, hy, _⟩ := back b x cb h1 h3
    obtain ⟨y', hy', _⟩ := back b' x' cb' h2 h4
    exact st.rel.apart b b' y y' cb cb' h0 hy hy' h3 h4 h5
  · rw [hs.1]; exact st.ok.1
  · rw [hs.1] at h1
    have := st.ok.2 b h1 h2
    rcases hs.2 b h2 with h | ⟨es, es2, h3, h4, h5⟩
    · rw [h]; exact this
    · rw [this] at h3; cases h3
  · rw [hs.1] at h1; exact st.free b h1 h2

/-! A block hidden, and shown again -/
theorem hide {N : Nat} {m : BM} {H : AH} {w : World} (st : St N m H w) {b : Nat} (hb : b < mH) : St N m (H.kill b) w :=
  ⟨st.rel.sub fun j x h1 h2 => by
      obtain ⟨cb, hcb⟩ := Option.ne_none_iff_exists'.1 h2
      rw [AH.get_kill H b j hb (st.rel.dom j cb hcb).1] at h1
      split at h1
      · cases h1
      · exact h1, st.ok.kill hb, st.free⟩
theorem hidden {N : Nat} {m : BM} {H : AH} {w : World} (st : St N m H w) {b : Nat} {x : ABlk} {cb : CB} (hg : H.get b = some x) (hm : m b = some cb) (hbase : cb.base = 0) (hroom : cb.room = 1) : ¬ Owned m (H.kill b).get cb.blk 0 := by
  rintro ⟨j, y, c, h1, h2, h3, h4, h5⟩
  have hb := (st.rel.dom b cb hm).1
  rw [AH.get_kill H b j hb (st.rel.dom j c h2).1] at h1
  split at h1
  · cases h1
  · rename_i hj
    exact st.rel.apart j b y x c cb hj h1 hg h2 hm h3 0 ⟨h4, h5, by omega, by omega⟩
theorem unhide {N : Nat} {m m' : BM} {H H' : AH} {w w' : World} (st : St N m H w) {b : Nat} {x : ABlk} {cb : CB} (hg : H.get b = some x) (hm : m b = some cb) (s : Stp m (H.kill b) w m' H' w') (st' : St N m' H' w') :
    Stp m H w m' (H'.put b x) w' ∧ St N m' (H'.put b x) w' := by
  have hb := (st.rel.dom b cb hm).1
  have hlt : b < H.nx := st.ok.lt hb hg
  obtain ⟨r, s2⟩ := Rel.merge (NA := H.nx) (NB := H'.nx) (hh' := (H'.put b x).get) st.rel (fun j y h1 h2 => by
      obtain ⟨c, hc⟩ := Option.ne_none_iff_exists'.1 h2
      rw [AH.get_kill H b j hb (st.rel.dom j c hc).1] at h1
      split at h1
      · cases h1
      · exact h1) s st'.rel (fun j y h1 h2 => by
      obtain ⟨c, hc⟩ := Option.ne_none_iff_exists'.1 h2
      rw [AH.get_put H' b x j hb (st'.rel.dom j c hc).1] at h1
      split at h1
      · rename_i hj
        subst hj
        right
        refine ⟨by rw [hm]; exact Option.some_ne_none _, ?_, ?_⟩
        · rw [AH.get_kill H j j hb hb, if_pos rfl]
        · rw [hg]; exact h1
      · exact .inl h1) s.ids s.mono
  exact ⟨s2, r, st'.ok.put _ (Nat.lt_of_lt_of_le hlt s.mono), st'.free⟩

/-! A range's beginning -/
theorem range_region {id : Nat} {ops : Array Oper} {l : List Oper} {o : Oper} {t k e : TypeId} {x : Operand} {ti bm : Nat} {es : List (AV × AV)} {f f1 : Fr} {H H1 : AH} (hops : ops.toList = l ++ [o]) (ho : o.op = .range t x) (hg : o.guard = none) (hd : o.dst = some ti)
    (hseq : seqA P l f H = some (f1, H1)) (hx : aev f1 x = some (.map bm)) (hbm : H1.get bm = some (.map es)) (ht : P.underlying t = some (.map k e)) (hroom : H1.nx < mH) (hti : ti < f1.nt)
    {N : Nat} {m : BM} {w : World} {a : Act} {r : Option Nat} (hN : H1.nx < N) (st : St N m H w) (fr : FrRel m r f a) (Q : Exit → Act → World → Prop)
    (hQ : ∀ m1 w1 m' a' w' it cb clock ces ps, Stp m H w m1 H1 w1 → St N m1 H1 w1 → m1 bm = some cb → ps.map (·.1) = es → (ps.map (·.2)).Perm ces.toList → BornOk ces clock → RangeAt N m1 (H1.kill bm) w1 r H1.nx it cb.blk clock ces ps #[] m' (H1.kill bm).bump w' (f1.putT ti (.ptr H1.nx 0)) a' → Q .normal a' w') :
    (Code.region id ops false).wpIn (FW r) 0 P Q a w := by
  obtain ⟨n1, g1⟩ := seqA_sound (P := P) (ops := ops) l hseq
  refine wpIn_region ?_
  have hlen : List.range ops.size = List.range' 0 (l.length + [o].length) := by
    rw [List.range_eq_range', ← Array.length_toList, hops, List.length_append]
  rw [hlen]
  refine g1 [] [o] (by simp [hops]) N m w a r (by omega) st fr Q fun m1 a1 w1 s1 st1 fr1 => ?_
  have hvx := aev_rel fr1.ev hx
  generalize hu : a1.eval x = u at hvx
  cases hvx with
  | map hb =>
    rename_i cb
    obtain ⟨hbase, hrm, ces, clock, hw, hmo, hbn⟩ := st1.rel.mapAt hbm hb
    obtain ⟨ps, q1, q2, q3, _, _⟩ := mapOk_prs.1 hmo
    have hbd := (st1.rel.dom bm cb hb).1
    have hrun := run_range_map (P := P) w1 t k e cb.blk ces clock ht hw
    obtain ⟨s2, st2⟩ := bump_st (hide st1 hbd) hroom hN (.mapIter (some cb.blk) clock #[] clock)
    refine wpOps_special (o := o) (u := .pointer (some ⟨w1.heap.size, 0, none⟩)) (w1 := w1.alloc (.mapIter (some cb.blk) clock #[] clock)) (by rw [← Array.getElem?_toList, hops]; simp) hg (by rw [ho]; intro c h; cases h) (by simp [execOp, ho, hu, hrun]) ?_
    have hfr2 : FrRel (m1.upd H1.nx ⟨w1.heap.size, 0, 0, 1, 0⟩) r (f1.putT ti (.ptr H1.nx 0)) (a1.put o.dst (.pointer (some ⟨w1.heap.size, 0, none⟩))) :=
      (fr1.mono s2.ext).put (d := o.dst) (v := .ptr H1.nx 0) (by rw [hd]; exact Fr.put_some hti) (.ptr (BM.upd_same m1 H1.nx _))
    refine hQ m1 w1 _ _ _ w1.heap.size cb clock ces ps s1 st1 hb q1 q2 hbn ⟨s2, st2, hfr2, BM.upd_same m1 H1.nx _, heap_alloc_new w1 _, ?_, ?_, Nat.le_refl _, fun p hp => ⟨(q3 p hp).1.mono s2.ext, (q3 p hp).2.mono s2.ext⟩⟩
    · show (w1.heap.push _)[cb.blk]? = _
      have := lt_of_get hw
      rw [Array.getElem?_push, if_neg (by omega)]
      exact hw
    · intro hown
      rcases s2.grow cb.blk 0 hown with h1 | h1
      · exact hidden st1 hbm hb hbase hrm h1
      · have := lt_of_get hw; omega
end
end Go.Ev
/- Regions by what their operations are; Disk.Used. -/
namespace Go.Ev
open Go Go.RowKit Go.ChangeMaps

section
variable {P : Program}
abbrev S3 := Option Tmp × Op × Option (Nat × Bool)
def strip (o : Oper) : S3 := (o.dst, o.op, o.guard)
noncomputable def seqS (P : Program) : List S3 → Fr → AH → Option (Fr × AH)
  | [], f, H => some (f, H)
  | o :: l, f, H => match o.2.2 with
    | some _ => none
    | none => match opA P f H o.2.1 with
      | some (.val v H1) => match f.put o.1 v with
        | some f1 => seqS P l f1 H1
        | none => none
      | _ => none
theorem seqA_strip : ∀ (l : List Oper) (f : Fr) (H : AH), seqA P l f H = seqS P (l.map strip) f H
  | [], f, H => rfl
  | o :: l, f, H => by
    simp only [seqA, List.map_cons, seqS, strip]
    cases o.guard with
    | some g => rfl
    | none =>
      cases opA P f H o.op with
      | none => rfl
      | some ar =>
        cases ar with
        | val v H1 =>
          dsimp only
          cases f.put o.dst v with
          | none => rfl
          | some f1 => exact seqA_strip l f1 H1
        | enter _ _ => rfl
        | round _ _ => rfl
        | dfr _ _ _ => rfl
theorem seqS_region {id : Nat} {ops : Array Oper} {l : List S3} (hl : ops.toList.map strip = l) {f f' : Fr} {H H' : AH} (h : seqS P l f H = some (f', H')) : CodeS P (.region id ops false) f H .normal f' H' :=
  seqA_region (by rw [seqA_strip, hl]; exact h)
theorem range_regionS {id : Nat} {ops : Array Oper} {l : List S3} {t k e : TypeId} {x : Operand} {ti bm : Nat} {es : List (AV × AV)} {f f1 : Fr} {H H1 : AH} (hops : ops.toList.map strip = l ++ [(some ti, .range t x, none)])
    (hseq : seqS P l f H = some (f1, H1)) (hx : aev f1 x = some (.map bm)) (hbm : H1.get bm = some (.map es)) (ht : P.underlying t = some (.map k e)) (hroom : H1.nx < mH) (hti : ti < f1.nt)
    {N : Nat} {m : BM} {w : World} {a : Act} {r : Option Nat} (hN : H1.nx < N) (st : St N m H w) (fr : FrRel m r f a) (Q : Exit → Act → World → Prop)
    (hQ : ∀ m1 w1 m' a' w' it cb clock ces ps, Stp m H w m1 H1 w1 → St N m1 H1 w1 → m1 bm = some cb → ps.map (·.1) = es → (ps.map (·.2)).Perm ces.toList → BornOk ces clock → RangeAt N m1 (H1.kill bm) w1 r H1.nx it cb.blk clock ces ps #[] m' (H1.kill bm).bump w' (f1.putT ti (.ptr H1.nx 0)) a' → Q .normal a' w') :
    (Code.region id ops false).wpIn (FW r) 0 P Q a w := by
  obtain ⟨l1, l2, h1, h2, h3⟩ := List.map_eq_append_iff.1 hops
  obtain ⟨o, h4, h5⟩ := List.map_eq_singleton_iff.1 h3
  subst h4
  have e1 : o.op = .range t x := congrArg (fun s : S3 => s.2.1) h5
  have e2 : o.guard = none := congrArg (fun s : S3 => s.2.2) h5
  have e3 : o.dst = some ti := congrArg (fun s : S3 => s.1) h5
  exact range_region h1 e1 e2 e3 (by rw [seqA_strip, h2]; exact hseq) hx hbm ht hroom hti hN st fr Q hQ
/-- A region that begins with the entry that the step has brought. -/
theorem entry_region {id : Nat} {ops : Array Oper} {l : List S3} {tt ti b0 it : Nat} {f f' : Fr} {H H' : AH} {k v : AV} {key val : Value} (hops : ops.toList.map strip = (some tt, .entry (.tmp ti), none) :: l) (hseq : seqS P l (f.putT tt (.tup [k, v])) H = some (f', H'))
    {N : Nat} {m : BM} {w : World} {a : Act} {r : Option Nat} (hN : H'.nx ≤ N) (hti : f.get ti = .ptr b0 0) (itm : m b0 = some ⟨it, 0, 0, 1, 0⟩) (htt : tt < f.nt) (hrun : (Instr.entry (.pointer (some ⟨it, 0, none⟩))).run P w = .ok (.tuple #[key, val]) w)
    (hk : VRel m k key) (hv : VRel m v val) (st : St N m H w) (fr : FrRel m r f a) (Q : Exit → Act → World → Prop) (hQ : ∀ m' a' w', Stp m H w m' H' w' → St N m' H' w' → FrRel m' r f' a' → Q .normal a' w') : (Code.region id ops false).wpIn (FW r) 0 P Q a w := by
  obtain ⟨o, l', h1, h2, h3⟩ := List.map_eq_cons_iff.1 hops
  have e1 : o.op = .entry (.tmp ti) := congrArg (fun s : S3 => s.2.1) h2
  have e2 : o.guard = none := congrArg (fun s : S3 => s.2.2) h2
  have e3 : o.dst = some tt := congrArg (fun s : S3 => s.1) h2
  have hev : a.eval (.tmp ti) = .pointer (some ⟨it, 0, none⟩) := by
    have := aev_rel fr.ev (x := .tmp ti) rfl
    rw [hti] at this
    generalize a.eval (.tmp ti) = u at this
    cases this with
    | ptr h =>
      rw [itm] at h
      injection h with h
      rw [← h]
  refine wpIn_region ?_
  have hlen : List.range ops.size = List.range' 0 (l'.length + 1) := by
    rw [List.range_eq_range', ← Array.length_toList, h1, List.length_cons]
  rw [hlen]
  refine wpOps_special (o := o) (u := .tuple #[key, val]) (w1 := w) (by rw [← Array.getElem?_toList, h1]; rfl) e2 (by rw [e1]; intro c h; cases h) (by simp [execOp, e1, hev, hrun]) ?_
  have fr1 := fr.put (d := o.dst) (v := .tup [k, v]) (u := .tuple #[key, val]) (by rw [e3]; exact Fr.put_some htt) (.tup (.cons hk (.cons hv .nil)))
  have := (seqA_sound (P := P) (ops := ops) l' (by rw [seqA_strip, h3]; exact hseq)).2 [o] [] (by simp [h1]) N m w _ r hN st fr1 Q fun m' a' w' s st' fr' => by
    simpa [wpOpsIn] using hQ m' a' w' s st' fr'
  simpa using this

/-! Used -/
structure UsedShape (P : Program) (fn : Func) (tD tM tB tI tS tK tE tL : TypeId) : Prop where
  nt : fn.ntmps = 25
  res : fn.results.toList = [.tmp 2]
  code : ∃ i0 i1 i2 i3 i4 i5 i6 i7 id0 id1 r0 r1 r2 o1 o2 r4 r5 r6 r7, fn.body = some (.seq (.region i0 r0 false) (.seq (.region i1 r1 false) (.seq (.seq (.region i2 r2 false) (.block id0 (.loop (.seq (.region i3 #[o1, o2] false) (.seq (.cond (.tmp 12) .skip (.exit id0)) (.block id1
      (.seq (.region i4 r4 false) (.seq (.region i5 r5 false) (.cond (.tmp 19) (.region i6 r6 false) .skip))))))))) (.seq (.region i7 r7 false) .ret)))) ∧
    r0.toList.map strip = [(some 2, .assign (.const (goInt 0)), none)] ∧ r1.toList.map strip = [(some 3, .assign (.const (goInt 0)), none)] ∧
    r2.toList.map strip = [(some 6, .move (.tmp 0), none), (some 7, .nilCheck (.tmp 6), none), (some 8, .fieldAddr tD (.tmp 7) 2, none), (some 9, .load tM (.tmp 8), none)] ++ [(some 10, .range tM (.tmp 9), none)] ∧
    strip o1 = (some 11, .next (.tmp 10) false, none) ∧ strip o2 = (some 12, .extract (.tmp 11) 0, none) ∧
    r4.toList.map strip = (some 13, .entry (.tmp 10), none) :: [(some 14, .extract (.tmp 13) 1, none), (some 5, .assign (.tmp 14), none)] ∧
    r5.toList.map strip = [(some 15, .move (.tmp 0), none), (some 16, .nilCheck (.tmp 15), none), (some 17, .fieldAddr tD (.tmp 16) 5, none), (some 18, .load tB (.tmp 17), none), (some 19, .unOp .not tB (.tmp 18), none)] ∧
    r6.toList.map strip = [(some 20, .move (.tmp 3), none), (some 21, .move (.tmp 5), none), (some 22, .call ⟨.builtin .len, #[.tmp 21], #[tS]⟩, none), (some 23, .binOp .add tI (.tmp 20) (.tmp 22) tI, none), (some 3, .assign (.tmp 23), none)] ∧
    r7.toList.map strip = [(some 24, .move (.tmp 3), none), (some 2, .assign (.tmp 24), none)]
  fld2 : fieldOff P (fieldOf 2 (P.underlying tD)) = some 2
  fld5 : fieldOff P (fieldOf 5 (P.underlying tD)) = some 5
  aggM : aggT P tM = some false
  aggB : aggT P tB = some false
  mapM : P.underlying tM = some (.map tK tE)
  slS : P.underlying tS = some (.slice tL)
theorem diskOf_some {H : AH} {args : List AV} {d : DiskA} (h : diskOf H args = some d) : args = [.ptr d.b d.o] ∧ (∃ c1 c3, loadA H d.b d.o 6 = some [d.c0, c1, .map d.now, c3, d.c4, .bool d.down]) ∧ d.c5 = .bool d.down ∧ H.get d.now = some (.map d.es) := by
  unfold diskOf at h
  split at h
  · unfold diskC at h
    split at h
    · rename_i hl
      unfold diskE at h
      split at h
      · rename_i he
        injection h with h
        subst h
        exact ⟨rfl, ⟨_, _, hl⟩, rfl, entriesOf_some he⟩
      · cases h
    · cases h
  · cases h
theorem load_nth {H : AH} {b o n i : Nat} {l : List AV} {v : AV} (h : loadA H b o n = some l) (hi : l[i]? = some v) : load1 H b (o + i) = some v := by
  unfold loadA at h
  split at h
  · rename_i c hc
    unfold load1
    rw [hc]
    unfold inRange at h
    split at h
    · injection h with h
      subst h
      rw [cut_eq] at hi
      show nth c (o + i) = _
      rw [nth_eq]
      have hlt : i < n := by
        rcases Nat.lt_or_ge i n with h1 | h1
        · exact h1
        · rw [List.getElem?_take, if_neg (by omega)] at hi
          cases hi
      rw [List.getElem?_take_of_lt hlt, List.getElem?_drop] at hi
      exact hi
    · cases h
  · cases h
theorem load1_same {H H' : AH} {b o : Nat} (h : H'.get b = H.get b) : load1 H' b o = load1 H b o := by unfold load1; rw [h]
theorem stepL_some {v : AV} {o : Option Nat} {n : Nat} (h : stepL v o = some n) : ∃ k x, o = some x ∧ n = k + x ∧ ∀ y, stepL v (some y) = some (k + y) := by
  unfold stepL at h
  split at h
  · cases o with
    | none => cases h
    | some x =>
      simp only [addO] at h
      injection h with h
      exact ⟨_, x, rfl, h.symm, fun y => rfl⟩
  · exact ⟨0, n, h, by omega, fun y => by rw [Nat.zero_add]; rfl⟩
  · cases h
theorem lens_append : ∀ {l1 l2 : List (AV × AV)} {n : Nat}, lens (l1 ++ l2) = some n → ∃ a b, lens l1 = some a ∧ lens l2 = some b ∧ n = a + b
  | [], l2, n, h => ⟨0, n, rfl, h, by omega⟩
  | e :: l1, l2, n, h => by
    have h : stepL e.2 (lens (l1 ++ l2)) = some n := h
    obtain ⟨k, x, h1, h2, h3⟩ := stepL_some h
    obtain ⟨a, b, h4, h5, h6⟩ := lens_append h1
    refine ⟨k + a, b, ?_, h5, by omega⟩
    show stepL e.2 (lens l1) = _
    rw [h4]; exact h3 a
theorem lens_join : ∀ {l1 l2 : List (AV × AV)} {a b : Nat}, lens l1 = some a → lens l2 = some b → lens (l1 ++ l2) = some (a + b)
  | [], l2, a, b, h1, h2 => by
    have h1 : some 0 = some a := h1
    injection h1 with h1
    subst h1
    rw [Nat.zero_add]; exact h2
  | e :: l1, l2, a, b, h1, h2 => by
    have h1 : stepL e.2 (lens l1) = some a := h1
    obtain ⟨k, x, h3, h4, h5⟩ := stepL_some h1
    show stepL e.2 (lens (l1 ++ l2)) = _
    rw [lens_join h3 h2, h5, h4]
    congr 1
    omega
theorem lens_perm {l1 l2 : List (AV × AV)} (h : l1.Perm l2) : ∀ {n : Nat}, lens l1 = some n → lens l2 = some n := by
  induction h with
  | nil => intro n h; exact h
  | cons x h ih =>
    intro n hn
    obtain ⟨a, b, h1, h2, h3⟩ := lens_append (l1 := [x]) (l2 := _) hn
    subst h3
    exact lens_join (l1 := [x]) h1 (ih h2)
  | swap x y l =>
    intro n hn
    obtain ⟨a, b, h1, h2, h3⟩ := lens_append (l1 := [y]) (l2 := x :: l) hn
    obtain ⟨a', b', h1', h2', h3'⟩ := lens_append (l1 := [x]) (l2 := l) h2
    subst h3; subst h3'
    have := lens_join (l1 := [x]) h1' (lens_join (l1 := [y]) h1 h2')
    rw [show a + (a' + b') = a' + (a + b') from by omega]
    exact this
  | trans h1 h2 ih1 ih2 => intro n hn; exact ih2 (ih1 hn)
def tot (down : Bool) (l : List (AV × AV)) : Option Nat := match down with
  | true => some 0
  | false => lens l
theorem used_some {args : List AV} {H H' : AH} {v : AV} (h : usedP args H = some (v, H')) : ∃ d n, diskOf H args = some d ∧ tot d.down d.es = some n ∧ n < 9223372036854775808 ∧ H.nx < mH ∧ v = nA n ∧ H' = H.bump := by
  unfold usedP usedD at h
  split at h
  · rename_i d hd
    have key : ∀ o : Option Nat, usedN H o = some (v, H') → ∃ n, o = some n ∧ n < 9223372036854775808 ∧ H.nx < mH ∧ v = nA n ∧ H' = H.bump := by
      intro o ho
      unfold usedN at ho
      split at ho
      · rename_i n
        split at ho
        · rename_i hn
          unfold usedR at ho
          split at ho
          · rename_i hroom
            injection ho with ho
            injection ho with h1 h2
            refine ⟨n, rfl, ?_, AH.room_lt hroom, h1.symm, h2.symm⟩
            rcases Nat.lt_or_ge n 9223372036854775808 with h3 | h3
            · exact h3
            · have : Nat.ble (top .i64) n = true := Nat.ble_eq_true_of_le h3
              rw [this] at hn; cases hn
          · cases ho
        · cases ho
      · cases ho
    split at h
    · rename_i hdn
      obtain ⟨n, h1, h2⟩ := key _ h
      refine ⟨d, n, hd, ?_, h2⟩
      rw [hdn]; exact h1
    · rename_i hdn
      obtain ⟨n, h1, h2⟩ := key _ h
      refine ⟨d, n, hd, ?_, h2⟩
      rw [hdn]; exact h1
  · cases h
end
end Go.Ev
/- Disk.Used, by its code. -/
namespace Go.Ev
open Go Go.RowKit Go.ChangeMaps

section
variable {P : Program}
theorem used_sound (hp : Plain P) {g : FuncId} {fn : Func} (hg : P.funcs[g]? = some fn) {tD tM tB tI tS tK tE tL : TypeId} (sh : UsedShape P fn tD tM tB tI tS tK tE tL) {args : List AV} {H H' : AH} {v : AV} (h : usedP args H = some (v, H')) :
    H.nx ≤ H'.nx ∧ CallS P g args H v H' := by
  obtain ⟨d, n, hd, htot, hn, hroom, rfl, rfl⟩ := used_some h
  obtain ⟨hargs, ⟨c1, c3, hload⟩, hc5, hnow⟩ := diskOf_some hd
  obtain ⟨i0, i1, i2, i3, i4, i5, i6, i7, id0, id1, r0, r1, r2, o1, o2, r4, r5, r6, r7, hbody, e0, e1, e2, q1, q2, e4, e5, e6, e7⟩ := sh.code
  refine ⟨by rw [AH.nx_bump]; omega, walk_fn hp hg hbody (by rw [sh.nt]; omega) (by rw [hargs, sh.nt]; simp) fun N m w a f hN st fr hdf hrd hnt hget => ?_⟩
  rw [AH.nx_bump] at hN
  have hnt : f.nt = 25 := hnt.trans sh.nt
  have hg0 : f.get 0 = .ptr d.b d.o := by rw [hget, hargs]; rfl
  -- the beginning
  have s0 : seqS P [(some 2, .assign (.const (goInt 0)), none)] f H = some (f.putT 2 (nA 0), H) := by
    simp [seqS, opA, aev, convZ, conv, goInt, vA, nA, Fr.put_some, hnt]
  refine wpIn_seq ((seqS_region e0 s0).2 N m w a none (by omega) st fr _ fun m1 a1 w1 s1 st1 fr1 => ?_)
  have s1' : seqS P [(some 3, .assign (.const (goInt 0)), none)] (f.putT 2 (nA 0)) H = some ((f.putT 2 (nA 0)).putT 3 (nA 0), H) := by
    simp [seqS, opA, aev, convZ, conv, goInt, vA, nA, Fr.put_some, hnt, Fr.nt_putT]
  refine wpIn_seq ((seqS_region e1 s1').2 N m1 w1 a1 none (by omega) st1 fr1 _ fun m2 a2 w2 s2 st2 fr2 => ?_)
  have ld2 : load1 H d.b (d.o + 2) = some (.map d.now) := load_nth hload rfl
  have ld5 : load1 H d.b (d.o + 5) = some (.bool d.down) := load_nth hload rfl
  obtain ⟨f2, hf2⟩ : ∃ f2, f2 = (f.putT 2 (nA 0)).putT 3 (nA 0) := ⟨_, rfl⟩
  have g20 : f2.get 0 = .ptr d.b d.o := by rw [hf2]; simp [Fr.get_putT, hg0]
  have g23 : f2.get 3 = nA 0 := by rw [hf2]; simp [Fr.get_putT]
  have nt2 : f2.nt = 25 := by rw [hf2]; simp [Fr.nt_putT, hnt]
  have df2 : f2.df = [] := by rw [hf2]; exact hdf
  rw [← hf2] at fr2
  have s2' : seqS P [(some 6, .move (.tmp 0), none), (some 7, .nilCheck (.tmp 6), none), (some 8, .fieldAddr tD (.tmp 7) 2, none), (some 9, .load tM (.tmp 8), none)] f2 H =
      some ((((f2.putT 6 (.ptr d.b d.o)).putT 7 (.ptr d.b d.o)).putT 8 (.ptr d.b (d.o + 2))).putT 9 (.map d.now), H) := by
    simp [seqS, opA, aev, vA, Fr.put_some, nt2, Fr.nt_putT, g20, Fr.get_putT, opNilCheck, opFieldAddr, sh.fld2, ptrAdd, opLoad, loadVarA, sh.aggM, ld2]
  refine wpIn_seq (wpIn_seq ?_)
  refine range_regionS e2 s2' (es := d.es) (bm := d.now) (by simp [aev, Fr.get_putT]) hnow sh.mapM hroom (by simp [Fr.nt_putT, nt2]) (by omega) st2 fr2 _ ?_
  intro m3 w3 m4 a4 w4 it cb clock ces ps s3 st3 hcb hps hperm hbn ra
  -- the loop
  have hbnow : d.b ≠ d.now := by
    intro e
    have hl := hload
    unfold loadA at hl
    rw [e, hnow] at hl
    cases hl
  have hvd : ∃ cd, m3 d.b = some cd := by
    have := fr2.ev 0
    rw [g20] at this
    generalize a2.tmps.getD 0 undef = u at this
    cases this with
    | ptr hh => exact ⟨_, s3.ext _ _ hh⟩
  obtain ⟨cd, hcd⟩ := hvd
  have hbm := (st3.rel.dom _ _ hcd).1
  have hnowm := (st3.rel.dom _ _ hcb).1
  have hkill : (H.kill d.now).bump.get d.b = H.get d.b := by
    rw [AH.get_bump, AH.get_kill H d.now d.b hnowm hbm, if_neg hbnow]
  have ld5' : load1 (H.kill d.now).bump d.b (d.o + 5) = some (.bool d.down) := by rw [load1_same hkill]; exact ld5
  have hpt : tot d.down (ps.map (·.1)) = some n := by rw [hps]; exact htot
  refine wpIn_block (wpIn_loopN (range_loop (id := i3) (o1 := o1) (o2 := o2) (ti := 10) (tn := 11) (tk := 12) (bid := id0) hbn hperm (congrArg (fun s : S3 => s.2.1) q1) (congrArg (fun s : S3 => s.1) q1) (congrArg (fun s : S3 => s.2.2) q1)
    (congrArg (fun s : S3 => s.2.1) q2) (congrArg (fun s : S3 => s.1) q2) (congrArg (fun s : S3 => s.2.2) q2) (by decide)
    (fun dn f' H' => H' = (H.kill d.now).bump ∧ f'.get 0 = .ptr d.b d.o ∧ f'.get 10 = .ptr H.nx 0 ∧ (∃ k, tot d.down (dn.map (·.1)) = some k ∧ f'.get 3 = nA k) ∧ f'.nt = 25 ∧ f'.df = [])
    ?hI ?hB ps.length ps [] #[] m4 _ w4 _ a4 rfl ra ?hInv (by simp) (by simp) _ ?hEnd))
  case hI =>
    rintro dn f' H' ⟨rfl, g0, g10, ⟨k, hk, g3⟩, hnt', hdf'⟩
    refine ⟨g10, by rw [hnt']; omega, by rw [hnt']; omega, ?_, fun u1 u2 => ⟨rfl, by simp [Fr.get_putT, g0], by simp [Fr.get_putT, g10], ⟨k, hk, by simp [Fr.get_putT, g3]⟩, by simp [Fr.nt_putT, hnt'], by simp [Fr.df_putT, hdf']⟩⟩
    show H.nx + 1 ≤ N
    exact hN
  case hInv =>
    refine ⟨rfl, by simp [Fr.get_putT, g20], by simp [Fr.get_putT], ⟨0, ?_, by simp [Fr.get_putT, g23]⟩, by simp [Fr.nt_putT, nt2], by simp [Fr.df_putT, df2]⟩
    cases d.down <;> rfl
  case hB =>
    rintro dn p seen f' H' m' w' a' ra' ⟨rfl, g0, g10, ⟨k, hk, g3⟩, hnt', hdf'⟩ ⟨lp, hlp⟩ hent Q hQ
    have hN' : (H.kill d.now).bump.nx ≤ N := hN
    refine wpIn_block (wpIn_seq ?_)
    have hr4 : seqS P [(some 14, .extract (.tmp 13) 1, none), (some 5, .assign (.tmp 14), none)] (f'.putT 13 (.tup [p.1.1, p.1.2])) (H.kill d.now).bump = some ((((f'.putT 13 (.tup [p.1.1, p.1.2])).putT 14 p.1.2).putT 5 p.1.2), (H.kill d.now).bump) := by
      simp [seqS, opA, aev, vA, Fr.put_some, hnt', Fr.nt_putT, Fr.get_putT, opExtract, nth]
    have hp : p ∈ ps := hlp.subset (by simp)
    refine entry_region e4 hr4 hN' g10 ra'.itm (by rw [hnt']; omega) hent (ra'.prs p hp).1 (ra'.prs p hp).2 ra'.st ra'.fr _ fun m5 a5 w5 s5 st5 fr5 => ?_
    obtain ⟨f5, hf5⟩ : ∃ f5, f5 = (((f'.putT 13 (.tup [p.1.1, p.1.2])).putT 14 p.1.2).putT 5 p.1.2) := ⟨_, rfl⟩
    rw [← hf5] at fr5
    have g50 : f5.get 0 = .ptr d.b d.o := by rw [hf5]; simp [Fr.get_putT, g0]
    have g53 : f5.get 3 = nA k := by rw [hf5]; simp [Fr.get_putT, g3]
    have g55 : f5.get 5 = p.1.2 := by rw [hf5]; simp [Fr.get_putT]
    have g510 : f5.get 10 = .ptr H.nx 0 := by rw [hf5]; simp [Fr.get_putT, g10]
    have nt5 : f5.nt = 25 := by rw [hf5]; simp [Fr.nt_putT, hnt']
    have df5 : f5.df = [] := by rw [hf5]; simp [Fr.df_putT, hdf']
    have hr5 : seqS P [(some 15, .move (.tmp 0), none), (some 16, .nilCheck (.tmp 15), none), (some 17, .fieldAddr tD (.tmp 16) 5, none), (some 18, .load tB (.tmp 17), none), (some 19, .unOp .not tB (.tmp 18), none)] f5 (H.kill d.now).bump =
        some (((((f5.putT 15 (.ptr d.b d.o)).putT 16 (.ptr d.b d.o)).putT 17 (.ptr d.b (d.o + 5))).putT 18 (.bool d.down)).putT 19 (.bool (!d.down)), (H.kill d.now).bump) := by
      simp [seqS, opA, aev, vA, Fr.put_some, nt5, Fr.nt_putT, g50, Fr.get_putT, opNilCheck, opFieldAddr, sh.fld5, ptrAdd, opLoad, loadVarA, sh.aggB, ld5', opUn, unA]
    refine wpIn_seq ((seqS_region e5 hr5).2 N m5 w5 a5 none hN' st5 fr5 _ fun m6 a6 w6 s6 st6 fr6 => ?_)
    obtain ⟨f6, hf6⟩ : ∃ f6, f6 = ((((f5.putT 15 (.ptr d.b d.o)).putT 16 (.ptr d.b d.o)).putT 17 (.ptr d.b (d.o + 5))).putT 18 (.bool d.down)).putT 19 (.bool (!d.down)) := ⟨_, rfl⟩
    rw [← hf6] at fr6
    have g60 : f6.get 0 = .ptr d.b d.o := by rw [hf6]; simp [Fr.get_putT, g50]
    have g63 : f6.get 3 = nA k := by rw [hf6]; simp [Fr.get_putT, g53]
    have g65 : f6.get 5 = p.1.2 := by rw [hf6]; simp [Fr.get_putT, g55]
    have g610 : f6.get 10 = .ptr H.nx 0 := by rw [hf6]; simp [Fr.get_putT, g510]
    have g619 : f6.get 19 = .bool (!d.down) := by rw [hf6]; simp [Fr.get_putT]
    have nt6 : f6.nt = 25 := by rw [hf6]; simp [Fr.nt_putT, nt5]
    have df6 : f6.df = [] := by rw [hf6]; simp [Fr.df_putT, df5]
    have hc : a6.eval (.tmp 19) = .bool (!d.down) := by
      have := aev_rel fr6.ev (x := .tmp 19) rfl
      rw [g619] at this
      generalize a6.eval (.tmp 19) = u at this
      cases this
      rfl
    cases hdown : d.down with
    | true =>
      rw [hdown] at hc hk
      refine wpIn_cond_false hc (wpIn_skip (hQ m6 a6 w6 f6 _ (s5.trans s6) st6 fr6 ⟨rfl, g60, g610, ⟨0, by rw [hdown]; rfl, ?_⟩, nt6, df6⟩))
      have hk : some 0 = some k := hk
      injection hk with hk
      rw [hk]; exact g63
    | false =>
      rw [hdown] at hc hk hpt
      have hall := lens_perm (hlp.symm.map (·.1)) (show lens (ps.map (·.1)) = some n from hpt)
      rw [List.map_append, List.map_cons] at hall
      obtain ⟨x, y, hx, hy, hxy⟩ := lens_append hall
      have hx' : some k = some x := hk.symm.trans hx
      injection hx' with hx'
      subst hx'
      obtain ⟨x2, y2, hx2, hy2, hxy2⟩ := lens_append (l1 := [p.1]) (l2 := lp.map (·.1)) (show lens ([p.1] ++ lp.map (·.1)) = some y from hy)
      have hlen : lenA P p.1.2 (H.kill d.now).bump (P.underlying tS) = some (nA x2) := by
        rw [sh.slS]
        have hx2 : stepL p.1.2 (some 0) = some x2 := hx2
        unfold stepL at hx2
        split at hx2
        · rename_i hv
          simp only [addO] at hx2
          injection hx2 with hx2
          rw [hv]
          show some (nA _) = _
          rw [← hx2]
          rfl
        · rename_i hv
          injection hx2 with hx2
          rw [hv, ← hx2]
          rfl
        · cases hx2
      have hadd : binA P .add tI (nA k) (nA x2) = some (nA (k + x2)) := by
        show some (AV.int .i64 (wr .i64 (Int.add (.ofNat k) (.ofNat x2)))) = _
        have : Int.add (.ofNat k) (.ofNat x2) = .ofNat (k + x2) := rfl
        rw [this]
        unfold wr
        have h3 : Nat.ble (top .i64) (k + x2) = false := by
          cases hb : Nat.ble (top .i64) (k + x2) with
          | false => rfl
          | true =>
            have : 9223372036854775808 ≤ k + x2 := Nat.le_of_ble_eq_true hb
            omega
        simp only [h3]
        rfl
      have hr6 : seqS P [(some 20, .move (.tmp 3), none), (some 21, .move (.tmp 5), none), (some 22, .call ⟨.builtin .len, #[.tmp 21], #[tS]⟩, none), (some 23, .binOp .add tI (.tmp 20) (.tmp 22) tI, none), (some 3, .assign (.tmp 23), none)] f6 (H.kill d.now).bump =
          some (((((f6.putT 20 (nA k)).putT 21 p.1.2).putT 22 (nA x2)).putT 23 (nA (k + x2))).putT 3 (nA (k + x2)), (H.kill d.now).bump) := by
        simp [seqS, opA, aev, aevs, consO, vA, Fr.put_some, nt6, Fr.nt_putT, g63, g65, Fr.get_putT, opCall, opCallee, builtinA, builtinR, builtin1, hlen, opBin, hadd]
      refine wpIn_cond_true hc ((seqS_region e6 hr6).2 N m6 w6 a6 none hN' st6 fr6 _ fun m7 a7 w7 s7 st7 fr7 => ?_)
      refine hQ m7 a7 w7 _ _ ((s5.trans s6).trans s7) st7 fr7 ⟨rfl, by simp [Fr.get_putT, g60], by simp [Fr.get_putT, g610], ⟨k + x2, ?_, by simp [Fr.get_putT]⟩, by simp [Fr.nt_putT, nt6], by simp [Fr.df_putT, df6]⟩
      rw [hdown, List.map_append]
      exact lens_join hx hx2
  case hEnd =>
    rintro dn' m5 H5 w5 f5 a5 seen5 hp5 ra5 ⟨rfl, g0, g10, ⟨k, hk, g3⟩, nt5, df5⟩
    have hkn : k = n := by
      have h1 : tot d.down (dn'.map (·.1)) = some n := by
        cases hdown : d.down with
        | true => rw [hdown] at hpt; exact hpt
        | false => rw [hdown] at hpt; exact lens_perm (hp5.symm.map (·.1)) (show lens (ps.map (·.1)) = some n from hpt)
      rw [hk] at h1
      injection h1
    subst hkn
    show Exit.inBlock id0 _ (.exit id0) a5 w5
    simp only [Exit.inBlock, if_true]
    obtain ⟨s6, st6⟩ := unhide st3 hnow hcb ra5.stp ra5.st
    have hsim : HSim ((H.kill d.now).bump.put d.now (.map d.es)) H.bump := by
      refine ⟨rfl, fun b hb => .inl ?_⟩
      rw [AH.get_put _ _ _ _ hnowm hb, AH.get_bump, AH.get_bump, AH.get_kill H _ _ hnowm hb]
      split
      · rename_i hbn; rw [hbn]; exact hnow
      · rfl
    obtain ⟨s7, st7⟩ := same_heap s6 st6 hsim
    have hr7 : seqS P [(some 24, .move (.tmp 3), none), (some 2, .assign (.tmp 24), none)] f5 H.bump = some ((f5.putT 24 (nA k)).putT 2 (nA k), H.bump) := by
      simp [seqS, opA, aev, vA, Fr.put_some, nt5, Fr.nt_putT, g3, Fr.get_putT]
    refine wpIn_seq ((seqS_region e7 hr7).2 N m5 w5 a5 none hN st7 ra5.fr _ fun m8 a8 w8 s8 st8 fr8 => wpIn_ret ⟨.inr rfl, m8, _, [nA k], ((s1.trans s2).trans s3).trans (s7.trans s8), st8, fr8, by simp [Fr.df_putT, df5], ?_, rfl⟩)
    rw [sh.res]
    simp [resA, res1, consO, Fr.get_putT]
end
end Go.Ev
/- Disk.settle, by its code. -/
namespace Go.Ev
open Go Go.RowKit Go.ChangeMaps

section
variable {P : Program}
theorem splice_some {α : Type} : ∀ (o : Nat) (vs l : List α), o + vs.length ≤ l.length → ∃ r, splice vs o l = some r
  | 0, vs, l, h => by
    have : ∀ (vs l : List α), vs.length ≤ l.length → ∃ r, over vs l = some r := by
      intro vs
      induction vs with
      | nil => intro l _; exact ⟨l, rfl⟩
      | cons v vs ih =>
        intro l h
        cases l with
        | nil => simp at h
        | cons a l =>
          obtain ⟨r, hr⟩ := ih l (by simpa using h)
          exact ⟨v :: r, by simp [over, hr]⟩
    exact this vs l (by simpa using h)
  | o + 1, vs, [], h => by simp at h
  | o + 1, vs, a :: l, h => by
    obtain ⟨r, hr⟩ := splice_some o vs l (by simp at h; omega)
    exact ⟨a :: r, by simp [splice, hr]⟩
theorem store1 {H : AH} {b o : Nat} {sl : Bool} {sz : Nat} {c : List AV} {v : AV} (hg : H.get b = some (.cells sl sz c)) (ho : o < c.length) (hv : v.one = true) :
    ∃ c', storeA H b o [v] = some (H.put b (.cells sl sz c')) ∧ c'.length = c.length ∧ ∀ i, c'[i]? = if i = o then some v else c[i]? := by
  obtain ⟨c', hc⟩ := splice_some o [v] c (by simp; omega)
  refine ⟨c', ?_, splice_length hc, fun i => ?_⟩
  · simp [storeA, ones, hv, hg, storeAt, hc, putCells]
  · rw [splice_get hc i]
    by_cases h : i = o
    · subst h; simp
    · rw [if_neg (by simp; omega), if_neg h]
theorem storeA_some {H H' : AH} {b o : Nat} {v : AV} {vs : List AV} (h : storeA H b o (v :: vs) = some H') : ∃ sl sz c c', H.get b = some (.cells sl sz c) ∧ splice (v :: vs) o c = some c' ∧ H' = H.put b (.cells sl sz c') ∧ ones (v :: vs) = true := by
  unfold storeA at h
  dsimp only at h
  split at h
  · rename_i ho
    unfold storeAt at h
    split at h
    · rename_i sl sz c hc
      unfold putCells at h
      split at h
      · rename_i c' hs
        injection h with h
        exact ⟨sl, sz, c, c', hc, hs, h.symm, ho⟩
      · cases h
    · cases h
  · cases h
theorem putM_new {k v : AV} {s : List UInt8} (hk : k = .str s) : ∀ {l : List (AV × AV)}, (∀ e ∈ l, e.1 ≠ k) → putM k v l = l ++ [(k, v)]
  | [], _ => rfl
  | e :: l, h => by
    have h1 : sbeq k e.1 = false := by
      cases hb : sbeq k e.1 with
      | false => rfl
      | true => exact absurd (sbeq_eq hb).symm (h e List.mem_cons_self)
    simp only [putM, h1]
    rw [putM_new hk fun x hx => h x (List.mem_cons_of_mem _ hx)]
    rfl
theorem allStr_mem : ∀ {l : List (AV × AV)}, allStr l = true → ∀ e ∈ l, ∃ s, e.1 = .str s
  | [], _, e, he => by cases he
  | x :: l, h, e, he => by
    obtain ⟨k, v⟩ := x
    unfold allStr at h
    split at h
    · rename_i s hs
      rcases List.mem_cons.1 he with rfl | he
      · exact ⟨s, hs⟩
      · exact allStr_mem h e he
    · cases h
theorem kdOk_str {k : AV} {s : List UInt8} (hk : k = .str s) {l : List (AV × AV)} (h : ∀ e ∈ l, ∃ s, e.1 = .str s) : kdOk k l = true := by
  cases l with
  | nil => rfl
  | cons e l =>
    obtain ⟨s', h1⟩ := h e List.mem_cons_self
    show sameKd k e.1 = true
    rw [hk, h1]
    rfl
theorem settle_some {args : List AV} {H H' : AH} {v : AV} (h : settleP args H = some (v, H')) : ∃ d, diskOf H args = some d ∧ allStr d.es = true ∧ H.nx + 1 < mH ∧
    storeA (H.grown (.map d.es)).bump d.b d.o [d.c0, .map H.nx, .map d.now, .snil, d.c4, d.c5] = some H' ∧ v = .tup [] := by
  unfold settleP settleD at h
  split at h
  · rename_i d hd
    split at h
    · rename_i hs
      unfold settleR at h
      split at h
      · split at h
        · rename_i hroom
          unfold settleH at h
          split at h
          · rename_i H2 hst
            injection h with h
            injection h with h1 h2
            subst h2
            exact ⟨d, hd, hs, AH.room_lt hroom, hst, h1.symm⟩
          · cases h
        · cases h
      · cases h
    · cases h
  · cases h
structure SettleShape (P : Program) (fn : Func) (tD tM tK tE tP : TypeId) : Prop where
  nt : fn.ntmps = 27
  res : fn.results.toList = []
  code : ∃ i0 i1 i2 i3 i4 i5 id0 id1 r0 r1 o1 o2 r3 r4 r5 zs, fn.body = some (.seq (.region i0 r0 false) (.seq (.seq (.region i1 r1 false) (.block id0 (.loop (.seq (.region i2 #[o1, o2] false) (.seq (.cond (.tmp 14) .skip (.exit id0)) (.block id1
      (.seq (.region i3 r3 false) (.region i4 r4 false)))))))) (.region i5 r5 false))) ∧
    r0.toList.map strip = [(some 4, .move (.tmp 0), none), (some 5, .makeMap tM zs, none), (some 6, .nilCheck (.tmp 4), none), (some 7, .fieldAddr tD (.tmp 6) 1, none), (none, .store tM (.tmp 7) (.tmp 5), none)] ∧
    zs = none ∧
    r1.toList.map strip = [(some 8, .move (.tmp 0), none), (some 9, .nilCheck (.tmp 8), none), (some 10, .fieldAddr tD (.tmp 9) 2, none), (some 11, .load tM (.tmp 10), none)] ++ [(some 12, .range tM (.tmp 11), none)] ∧
    strip o1 = (some 13, .next (.tmp 12) false, none) ∧ strip o2 = (some 14, .extract (.tmp 13) 0, none) ∧
    r3.toList.map strip = (some 15, .entry (.tmp 12), none) :: [(some 16, .extract (.tmp 15) 0, none), (some 17, .extract (.tmp 15) 1, none), (some 2, .assign (.tmp 16), none), (some 3, .assign (.tmp 17), none)] ∧
    r4.toList.map strip = [(some 18, .move (.tmp 0), none), (some 19, .nilCheck (.tmp 18), none), (some 20, .fieldAddr tD (.tmp 19) 1, none), (some 21, .load tM (.tmp 20), none), (some 22, .move (.tmp 2), none), (some 23, .move (.tmp 3), none), (none, .mapUpdate tM (.tmp 21) (.tmp 22) (.tmp 23), none)] ∧
    r5.toList.map strip = [(some 24, .move (.tmp 0), none), (some 25, .nilCheck (.tmp 24), none), (some 26, .fieldAddr tD (.tmp 25) 3, none), (none, .store tP (.tmp 26) (.const (.slice none 0 0)), none)]
  fld1 : fieldOff P (fieldOf 1 (P.underlying tD)) = some 1
  fld2 : fieldOff P (fieldOf 2 (P.underlying tD)) = some 2
  fld3 : fieldOff P (fieldOf 3 (P.underlying tD)) = some 3
  aggM : aggT P tM = some false
  mapM : P.underlying tM = some (.map tK tE)
  strK : P.underlying tK = some .string
  szM : sizeT P tM = some 1
  szP : sizeT P tP = some 1
theorem room_of {H : AH} (h : H.nx < mH) : H.room = true := Nat.ble_eq_true_of_le h
theorem settle_sound (hp : Plain P) {g : FuncId} {fn : Func} (hg : P.funcs[g]? = some fn) {tD tM tK tE tP : TypeId} (sh : SettleShape P fn tD tM tK tE tP) {args : List AV} {H H' : AH} {v : AV} (h : settleP args H = some (v, H')) :
    H.nx ≤ H'.nx ∧ CallS P g args H v H' := by
  obtain ⟨d, hd, hstr, hroom, hst, rfl⟩ := settle_some h
  obtain ⟨hargs, ⟨x1, x3, hload⟩, hc5, hnow⟩ := diskOf_some hd
  obtain ⟨i0, i1, i2, i3, i4, i5, id0, id1, r0, r1, o1, o2, r3, r4, r5, zs, hbody, e0, rfl, e1, q1, q2, e3, e4, e5⟩ := sh.code
  obtain ⟨sl, sz, c, c', hgb', hsp, hH', _⟩ := storeA_some hst
  have hnx' : H'.nx = H.nx + 2 := by rw [hH']; rfl
  refine ⟨by omega, walk_fn hp hg hbody (by rw [sh.nt]; omega) (by rw [hargs, sh.nt]; simp) fun N m w a f hN st fr hdf hrd hnt hget => ?_⟩
  have hnt : f.nt = 27 := hnt.trans sh.nt
  have hg0 : f.get 0 = .ptr d.b d.o := by rw [hget, hargs]; rfl
  have hvd : ∃ cd, m d.b = some cd := by
    have := fr.ev 0
    rw [hg0] at this
    generalize a.tmps.getD 0 undef = u at this
    cases this with
    | ptr hh => exact ⟨_, hh⟩
  obtain ⟨cd, hcd⟩ := hvd
  have hbm := (st.rel.dom _ _ hcd).1
  -- the block of the disk
  have hloadU := hload
  unfold loadA at hloadU
  split at hloadU
  · rename_i c0 hc0
    obtain ⟨sl0, sz0, hgb0⟩ := cellsOf_some hc0
    have hblt : d.b < H.nx := st.ok.lt hbm hgb0
    have hgrown : ∀ x j, j < mH → (H.grown x).get j = if j = H.nx then some x else H.get j := fun x j hj => AH.get_grown H x j (by omega) hj
    have hgb : H.get d.b = some (.cells sl sz c) := by
      rw [AH.get_bump, hgrown _ _ hbm, if_neg (by omega)] at hgb'
      exact hgb'
    have hcc : c0 = c := by
      rw [hgb0] at hgb
      injection hgb with hgb
      injection hgb
    subst hcc
    unfold inRange at hloadU
    split at hloadU
    · rename_i hle
      have hle : d.o + 6 ≤ c0.length := by have := Nat.le_of_ble_eq_true hle; rw [len_eq] at this; exact this
      injection hloadU with hcut
      rw [cut_eq] at hcut
      have hat : ∀ i, i < 6 → c0[d.o + i]? = [d.c0, x1, .map d.now, x3, d.c4, .bool d.down][i]? := fun i hi => by
        rw [← hcut, List.getElem?_take_of_lt hi, List.getElem?_drop]
      have hbnow : d.b ≠ d.now := by intro e; rw [e, hnow] at hgb; cases hgb
      -- the beginning
      obtain ⟨c1, hs1, hl1, hc1⟩ := store1 (H := H.grown (.map [])) (b := d.b) (o := d.o + 1) (v := .map H.nx) (by rw [hgrown _ _ hbm, if_neg (by omega)]; exact hgb) (by omega) rfl
      obtain ⟨H1, hH1⟩ : ∃ H1, H1 = (H.grown (.map [])).put d.b (.cells sl sz c1) := ⟨_, rfl⟩
      rw [← hH1] at hs1
      have nx1 : H1.nx = H.nx + 1 := by rw [hH1]; rfl
      have get1 : ∀ j, j < mH → H1.get j = if j = d.b then some (.cells sl sz c1) else if j = H.nx then some (.map []) else H.get j := fun j hj => by
        rw [hH1, AH.get_put _ _ _ _ hbm hj, hgrown _ _ hj]
      have hmk : opMakeMap H (optA f none) (P.underlying tM) = some (.val (.map H.nx) (H.grown (.map []))) := by
        rw [sh.mapM]
        show newA H (.map []) (fun b => .map b) = _
        unfold newA
        rw [room_of (by omega)]
      have hst1 : opStore P (H.grown (.map [])) tM (some (.map H.nx)) (some (.ptr d.b (d.o + 1))) = some (.val Ev.und H1) := by
        show storeN (H.grown (.map [])) d.b (d.o + 1) [.map H.nx] (sizeT P tM) = _
        rw [sh.szM]
        show hA Ev.und (storeA (H.grown (.map [])) d.b (d.o + 1) [.map H.nx]) = _
        rw [hs1]
        rfl
      have s0 : seqS P [(some 4, .move (.tmp 0), none), (some 5, .makeMap tM none, none), (some 6, .nilCheck (.tmp 4), none), (some 7, .fieldAddr tD (.tmp 6) 1, none), (none, .store tM (.tmp 7) (.tmp 5), none)] f H =
          some ((((f.putT 4 (.ptr d.b d.o)).putT 5 (.map H.nx)).putT 6 (.ptr d.b d.o)).putT 7 (.ptr d.b (d.o + 1)), H1) := by
        have hmk' : opMakeMap H (optA (f.putT 4 (.ptr d.b d.o)) none) (P.underlying tM) = some (.val (.map H.nx) (H.grown (.map []))) := hmk
        simp [seqS, opA, aev, vA, Fr.put_some, hnt, Fr.nt_putT, hg0, Fr.get_putT, opNilCheck, opFieldAddr, sh.fld1, ptrAdd, hmk', hst1]
        rfl
      refine wpIn_seq ((seqS_region e0 s0).2 N m w a none (by omega) st fr _ fun m2 a2 w2 s2 st2 fr2 => ?_)
      obtain ⟨f2, hf2⟩ : ∃ f2, f2 = (((f.putT 4 (.ptr d.b d.o)).putT 5 (.map H.nx)).putT 6 (.ptr d.b d.o)).putT 7 (.ptr d.b (d.o + 1)) := ⟨_, rfl⟩
      rw [← hf2] at fr2
      have g20 : f2.get 0 = .ptr d.b d.o := by rw [hf2]; simp [Fr.get_putT, hg0]
      have nt2 : f2.nt = 27 := by rw [hf2]; simp [Fr.nt_putT, hnt]
      have df2 : f2.df = [] := by rw [hf2]; exact hdf
      have hnowlt : d.now < mH := by
        rcases Nat.lt_or_ge d.now mH with h1 | h1
        · exact h1
        · exfalso
          obtain ⟨_, _, _, _, cs, e, lo, hi, _, _, _, hcells⟩ := st.rel.live d.b _ cd hgb hcd
          obtain ⟨u, _, hu⟩ := hcells (d.o + 2) (.map d.now) (hat 2 (by omega))
          cases hu with
          | map hh => have := (st.rel.dom _ _ hh).1; omega
      have hnowlt2 : d.now < H.nx := st.ok.lt hnowlt hnow
      have hnow1 : H1.get d.now = some (.map d.es) := by rw [get1 _ hnowlt, if_neg (Ne.symm hbnow), if_neg (by omega)]; exact hnow
      have ld2 : load1 H1 d.b (d.o + 2) = some (.map d.now) := by
        unfold load1
        rw [get1 _ hbm, if_pos rfl]
        show nth c1 (d.o + 2) = _
        rw [nth_eq, hc1, if_neg (by omega), hat 2 (by omega)]
        rfl
      have s1' : seqS P [(some 8, .move (.tmp 0), none), (some 9, .nilCheck (.tmp 8), none), (some 10, .fieldAddr tD (.tmp 9) 2, none), (some 11, .load tM (.tmp 10), none)] f2 H1 =
          some ((((f2.putT 8 (.ptr d.b d.o)).putT 9 (.ptr d.b d.o)).putT 10 (.ptr d.b (d.o + 2))).putT 11 (.map d.now), H1) := by
        simp [seqS, opA, aev, vA, Fr.put_some, nt2, Fr.nt_putT, g20, Fr.get_putT, opNilCheck, opFieldAddr, sh.fld2, ptrAdd, opLoad, loadVarA, sh.aggM, ld2]
      refine wpIn_seq (wpIn_seq ?_)
      refine range_regionS e1 s1' (es := d.es) (bm := d.now) (by simp [aev, Fr.get_putT]) hnow1 sh.mapM (by omega) (by simp [Fr.nt_putT, nt2]) (by omega) st2 fr2 _ ?_
      intro m3 w3 m4 a4 w4 it cb clock ces ps s3 st3 hcb hps hperm hbn ra
      have hdist : d.es.Pairwise (fun a b => a.1 ≠ b.1) := by
        obtain ⟨_, _, ces', _, _, hmo, _⟩ := st3.rel.mapAt hnow1 hcb
        obtain ⟨_, _, _, _, _, h5⟩ := mapOk_prs.1 hmo
        exact h5
      have nxk : (H1.kill d.now).bump.nx = H.nx + 2 := by rw [AH.nx_bump]; show H1.nx + 1 = _; omega
      have getk : ∀ j, j < mH → (H1.kill d.now).bump.get j = if j = d.now then none else H1.get j := fun j hj => by
        rw [AH.get_bump, AH.get_kill H1 d.now j hnowlt hj]
      have hnxm : H.nx < mH := by omega
      refine wpIn_block (wpIn_loopN (range_loop (id := i2) (o1 := o1) (o2 := o2) (ti := 12) (tn := 13) (tk := 14) (bid := id0) hbn hperm (congrArg (fun s : S3 => s.2.1) q1) (congrArg (fun s : S3 => s.1) q1) (congrArg (fun s : S3 => s.2.2) q1)
        (congrArg (fun s : S3 => s.2.1) q2) (congrArg (fun s : S3 => s.1) q2) (congrArg (fun s : S3 => s.2.2) q2) (by decide)
        (fun dn f' H' => H'.nx = H.nx + 2 ∧ (∀ j, j < mH → H'.get j = if j = H.nx then some (.map (dn.map (·.1))) else (H1.kill d.now).bump.get j) ∧ f'.get 0 = .ptr d.b d.o ∧ f'.get 12 = .ptr H1.nx 0 ∧ f'.nt = 27 ∧ f'.df = [])
        ?hI ?hB ps.length ps [] #[] m4 _ w4 _ a4 rfl ra ?hInv (by simp) (by simp) _ ?hEnd))
      case hI =>
        rintro dn f' H' ⟨hn', hgt, g0, g12, hnt', hdf'⟩
        exact ⟨g12, by rw [hnt']; omega, by rw [hnt']; omega, by omega, fun u1 u2 => ⟨hn', hgt, by simp [Fr.get_putT, g0], by simp [Fr.get_putT, g12], by simp [Fr.nt_putT, hnt'], by simp [Fr.df_putT, hdf']⟩⟩
      case hInv =>
        refine ⟨nxk, fun j hj => ?_, by simp [Fr.get_putT, g20], by simp [Fr.get_putT], by simp [Fr.nt_putT, nt2], by simp [Fr.df_putT, df2]⟩
        split
        · rename_i hj2
          subst hj2
          rw [getk _ hj, if_neg (by omega), get1 _ hj, if_neg (by omega), if_pos rfl]
          rfl
        · rfl
      case hB =>
        rintro dn p seen f' H' m' w' a' ra' ⟨hn', hgt, g0, g12, hnt', hdf'⟩ ⟨lp, hlp⟩ hent Q hQ
        refine wpIn_block (wpIn_seq ?_)
        have hr3 : seqS P [(some 16, .extract (.tmp 15) 0, none), (some 17, .extract (.tmp 15) 1, none), (some 2, .assign (.tmp 16), none), (some 3, .assign (.tmp 17), none)] (f'.putT 15 (.tup [p.1.1, p.1.2])) H' =
            some ((((((f'.putT 15 (.tup [p.1.1, p.1.2])).putT 16 p.1.1).putT 17 p.1.2).putT 2 p.1.1).putT 3 p.1.2), H') := by
          simp [seqS, opA, aev, vA, Fr.put_some, hnt', Fr.nt_putT, Fr.get_putT, opExtract, nth]
        have hp : p ∈ ps := hlp.subset (by simp)
        refine entry_region e3 hr3 (by omega) g12 ra'.itm (by rw [hnt']; omega) hent (ra'.prs p hp).1 (ra'.prs p hp).2 ra'.st ra'.fr _ fun m5 a5 w5 s5 st5 fr5 => ?_
        obtain ⟨f5, hf5⟩ : ∃ f5, f5 = ((((f'.putT 15 (.tup [p.1.1, p.1.2])).putT 16 p.1.1).putT 17 p.1.2).putT 2 p.1.1).putT 3 p.1.2 := ⟨_, rfl⟩
        rw [← hf5] at fr5
        have g50 : f5.get 0 = .ptr d.b d.o := by rw [hf5]; simp [Fr.get_putT, g0]
        have g52 : f5.get 2 = p.1.1 := by rw [hf5]; simp [Fr.get_putT]
        have g53 : f5.get 3 = p.1.2 := by rw [hf5]; simp [Fr.get_putT]
        have g512 : f5.get 12 = .ptr H1.nx 0 := by rw [hf5]; simp [Fr.get_putT, g12]
        have nt5 : f5.nt = 27 := by rw [hf5]; simp [Fr.nt_putT, hnt']
        have df5 : f5.df = [] := by rw [hf5]; simp [Fr.df_putT, hdf']
        have ld1 : load1 H' d.b (d.o + 1) = some (.map H.nx) := by
          unfold load1
          rw [hgt _ hbm, if_neg (by omega), getk _ hbm, if_neg hbnow, get1 _ hbm, if_pos rfl]
          show nth c1 (d.o + 1) = _
          rw [nth_eq, hc1, if_pos rfl]
        have hmem : ∀ e ∈ d.es, ∃ s, e.1 = .str s := allStr_mem hstr
        have hpe : p.1 ∈ d.es := by rw [← hps]; exact List.mem_map.2 ⟨p, hp, rfl⟩
        obtain ⟨s, hs⟩ := hmem _ hpe
        have hdn : ∀ e ∈ dn.map (·.1), e ∈ d.es := fun e he => by
          rw [← hps]
          obtain ⟨q, hq, rfl⟩ := List.mem_map.1 he
          exact List.mem_map.2 ⟨q, hlp.subset (by simp [hq]), rfl⟩
        have hd2 : ((dn ++ p :: lp).map (·.1)).Pairwise (fun a b => a.1 ≠ b.1) := by
          have := (hlp.map (·.1)).symm
          rw [hps] at this
          exact (this.pairwise_iff (fun {_ _} hne => Ne.symm hne)).1 hdist
        have hnew : ∀ e ∈ dn.map (·.1), e.1 ≠ p.1.1 := fun e he => by
          rw [List.map_append, List.pairwise_append] at hd2
          exact hd2.2.2 e he p.1 (by simp)
        have hup : opUpdate P H' tM (some p.1.2) (some (.map H.nx)) (some p.1.1) = some (.val Ev.und (H'.put H.nx (.map ((dn ++ [p]).map (·.1))))) := by
          show hA Ev.und (updateA P tM (.map H.nx) p.1.1 p.1.2 H') = _
          unfold updateA mapDo
          rw [sh.mapM]
          have hkey : keyA p.1.1 (P.underlying tK) = true := by rw [sh.strK, hs]; rfl
          show hA Ev.und (match keyA p.1.1 (P.underlying tK) with
            | true => mapPut H' H.nx p.1.1 (putM p.1.1 p.1.2) (entriesOf (H'.get H.nx))
            | false => none) = _
          rw [hkey, hgt _ hnxm, if_pos rfl]
          show hA Ev.und (match kdOk p.1.1 (dn.map (·.1)) with
            | true => some (H'.put H.nx (.map (putM p.1.1 p.1.2 (dn.map (·.1)))))
            | false => none) = _
          rw [kdOk_str hs fun e he => hmem e (hdn e he), putM_new hs hnew, List.map_append]
          rfl
        have hr4 : seqS P [(some 18, .move (.tmp 0), none), (some 19, .nilCheck (.tmp 18), none), (some 20, .fieldAddr tD (.tmp 19) 1, none), (some 21, .load tM (.tmp 20), none), (some 22, .move (.tmp 2), none), (some 23, .move (.tmp 3), none), (none, .mapUpdate tM (.tmp 21) (.tmp 22) (.tmp 23), none)] f5 H' =
            some ((((((f5.putT 18 (.ptr d.b d.o)).putT 19 (.ptr d.b d.o)).putT 20 (.ptr d.b (d.o + 1))).putT 21 (.map H.nx)).putT 22 p.1.1).putT 23 p.1.2, H'.put H.nx (.map ((dn ++ [p]).map (·.1)))) := by
          simp only [seqS, opA, aev, vA, Fr.put_some, nt5, Fr.nt_putT, g50, g52, g53, Fr.get_putT, opNilCheck, opFieldAddr, sh.fld1, ptrAdd, opLoad, loadVarA, sh.aggM, ld1, hup, Nat.reduceLT, Nat.reduceEqDiff, if_true, if_false, Nat.add_eq]
          simp [Fr.put]
        refine (seqS_region e4 hr4).2 N m5 w5 a5 none (by show H'.nx ≤ N; omega) st5 fr5 _ fun m6 a6 w6 s6 st6 fr6 => ?_
        refine hQ m6 a6 w6 _ _ (s5.trans s6) st6 fr6 ⟨hn', fun j hj => ?_, by simp [Fr.get_putT, g50], by simp [Fr.get_putT, g512], by simp [Fr.nt_putT, nt5], by simp [Fr.df_putT, df5]⟩
        rw [AH.get_put _ _ _ _ hnxm hj]
        split
        · rfl
        · rename_i hj2
          rw [hgt _ hj, if_neg hj2]
      case hEnd =>
        rintro dn' m5 H5 w5 f5 a5 seen5 hp5 ra5 ⟨hn5, hgt, g0, g12, nt5, df5⟩
        show Exit.inBlock id0 _ (.exit id0) a5 w5
        simp only [Exit.inBlock, if_true]
        obtain ⟨s6, st6⟩ := unhide st3 hnow1 hcb ra5.stp ra5.st
        have get6 : ∀ j, j < mH → (H5.put d.now (.map d.es)).get j = if j = d.now then some (.map d.es) else if j = H.nx then some (.map (dn'.map (·.1))) else H1.get j := fun j hj => by
          rw [AH.get_put _ _ _ _ hnowlt hj, hgt _ hj, getk _ hj]
          split
          · rfl
          · split
            · rfl
            · rfl
        have hb6 : (H5.put d.now (.map d.es)).get d.b = some (.cells sl sz c1) := by
          rw [get6 _ hbm, if_neg hbnow, if_neg (by omega), get1 _ hbm, if_pos rfl]
        obtain ⟨c2, hs2, hl2, hc2⟩ := store1 (o := d.o + 3) (v := .snil) hb6 (by omega) rfl
        have hst3 : opStore P (H5.put d.now (.map d.es)) tP (some .snil) (some (.ptr d.b (d.o + 3))) = some (.val Ev.und ((H5.put d.now (.map d.es)).put d.b (.cells sl sz c2))) := by
          show storeN (H5.put d.now (.map d.es)) d.b (d.o + 3) [.snil] (sizeT P tP) = _
          rw [sh.szP]
          show hA Ev.und (storeA (H5.put d.now (.map d.es)) d.b (d.o + 3) [.snil]) = _
          rw [hs2]
          rfl
        have hr5 : seqS P [(some 24, .move (.tmp 0), none), (some 25, .nilCheck (.tmp 24), none), (some 26, .fieldAddr tD (.tmp 25) 3, none), (none, .store tP (.tmp 26) (.const (.slice none 0 0)), none)] f5 (H5.put d.now (.map d.es)) =
            some (((f5.putT 24 (.ptr d.b d.o)).putT 25 (.ptr d.b d.o)).putT 26 (.ptr d.b (d.o + 3)), (H5.put d.now (.map d.es)).put d.b (.cells sl sz c2)) := by
          simp [seqS, opA, aev, vA, convZ, conv, Fr.put_some, nt5, Fr.nt_putT, g0, Fr.get_putT, opNilCheck, opFieldAddr, sh.fld3, ptrAdd, hst3]
          rfl
        refine (seqS_region e5 hr5).2 N m5 w5 a5 none (by show H5.nx ≤ N; omega) st6 ra5.fr _ fun m8 a8 w8 s8 st8 fr8 => ?_
        have hcc' : c' = c2 := by
          apply List.ext_getElem?
          intro i
          rw [splice_get hsp i, hc2 i, hc1 i]
          by_cases hi : d.o ≤ i ∧ i < d.o + 6
          · rw [if_pos (by simpa using hi)]
            obtain ⟨k, rfl⟩ : ∃ k, i = d.o + k := ⟨i - d.o, by omega⟩
            have hk : k < 6 := by omega
            rw [Nat.add_sub_cancel_left, hat k hk]
            match k, hk with
            | 0, _ => rw [if_neg (by omega), if_neg (by omega)]; rfl
            | 1, _ => rw [if_neg (by omega), if_pos rfl]; rfl
            | 2, _ => rw [if_neg (by omega), if_neg (by omega)]; rfl
            | 3, _ => rw [if_pos rfl]; rfl
            | 4, _ => rw [if_neg (by omega), if_neg (by omega)]; rfl
            | 5, _ => rw [if_neg (by omega), if_neg (by omega)]; simp [hc5]
          · rw [if_neg (by simpa using hi), if_neg (by omega), if_neg (by omega)]
        have hsim : HSim ((H5.put d.now (.map d.es)).put d.b (.cells sl sz c2)) H' := by
          refine ⟨by rw [hnx']; exact hn5.symm, fun j hj => ?_⟩
          rw [AH.get_put _ _ _ _ hbm hj, get6 _ hj, hH', AH.get_put _ _ _ _ hbm hj, AH.get_bump, hgrown _ _ hj, hcc']
          by_cases h1 : j = d.b
          · left; rw [if_pos h1, if_pos h1]
          · rw [if_neg h1, if_neg h1]
            by_cases h2 : j = d.now
            · left; rw [if_pos h2, if_neg (by omega), h2]; exact hnow
            · rw [if_neg h2]
              by_cases h3 : j = H.nx
              · right
                rw [if_pos h3, if_pos h3]
                exact ⟨_, _, rfl, rfl, by rw [← hps]; exact hp5.map _⟩
              · left
                rw [if_neg h3, if_neg h3, get1 _ hj, if_neg h1, if_neg h3]
        obtain ⟨s9, st9⟩ := same_heap ((s2.trans s3).trans (s6.trans s8)) st8 hsim
        exact ⟨.inl rfl, m8, _, [], s9, st9, fr8, by simp [Fr.df_putT, df5], by rw [sh.res]; rfl, rfl⟩
    · cases hloadU
  · cases hloadU
end
end Go.Ev
