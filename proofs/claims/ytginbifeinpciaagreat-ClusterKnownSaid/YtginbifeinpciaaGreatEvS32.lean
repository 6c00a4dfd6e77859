/- Functions by hand: the frame at the start, a range's beginning, the map that is ranged over hidden and shown again. -/
import Derived.Test.YtginbifeinpciaaGreatEvS30
namespace Go.Ev
open Go Go.RowKit Go.ChangeMaps

section
variable {P : Program}
theorem walk_fn (hp : Plain P) {g : FuncId} {fn : Func} {c : Code} (hg : P.funcs[g]? = some fn) (hb : fn.body = some c) {args : List AV} {H H' : AH} {v : AV} (hn : fn.ntmps ≤ 256) (hal : args.length ≤ fn.ntmps)
    (hw : ∀ N m w a f, H'.nx ≤ N → St N m H w → FrRel m none f a → f.df = [] → f.rd = none → f.nt = fn.ntmps → (∀ t, f.get t = (args[t]?).getD Ev.und) →
      c.wpIn (FW none) 0 P (fun e a1 w1 => (e = .normal ∨ e = .ret) ∧ ∃ m1 f1 vs, Stp m H w m1 H' w1 ∧ St N m1 H' w1 ∧ FrRel m1 none f1 a1 ∧ f1.df = [] ∧ resA P H' f1 fn.results.toList = some vs ∧ packA vs = v) a w) : CallS P g args H v H' := by
  intro N m w us hN st hla
  refine ⟨.enter g us, w, callFunc_enter hp hg hb us w, ?_⟩
  have hle : Nat.ble (Nat.add (len args) (Nat.sub fn.ntmps (len args))) mT = true := Nat.ble_eq_true_of_le (by rw [len_eq]; show args.length + (fn.ntmps - args.length) ≤ 256; omega)
  have hfr : frK (R := Fr) g fn.ntmps args some = some ⟨putArgs args 0 .und, [], Nat.add (len args) (Nat.sub fn.ntmps (len args)), none, g⟩ := by
    unfold frK
    rw [hle]
  obtain ⟨f, h1, h2, h3, h4⟩ := frK_some hfr
  injection h1 with h1
  subst h1
  refine callsIn_of_wp_marks hg hb trivial (wpIn_mono (hw N m w _ _ hN st (h4 m us hla) rfl rfl ?_ fun (t : Nat) => ?_) fun e a1 w1 hq => ?_) rfl
  · show Nat.add (len args) (Nat.sub fn.ntmps (len args)) = _
    rw [len_eq]
    show args.length + (fn.ntmps - args.length) = _
    omega
  · show (putArgs args 0 FT.und).get t = _
    rw [putArgs_get args 0 FT.und (by omega) t, FT.und_get]
    by_cases ht : t < args.length
    · rw [if_pos ⟨Nat.zero_le _, by omega⟩]; rfl
    · rw [if_neg (by omega), List.getElem?_eq_none (by omega)]; rfl
  · obtain ⟨he, m1, f1, vs, s1, st1, fr1, hdf, hres, hv⟩ := hq
    subst hv
    obtain ⟨u, hu, hr⟩ := results_run st1.rel fr1.ev hres
    have hd : a1.defers = [] := by
      have := fr1.df
      rw [hdf] at this
      generalize a1.defers = ds at this ⊢
      cases this
      rfl
    have key : LeavesInM Fence.wide 0 P fn a1.tmps (fun e w' => ∃ v, e = .returned v ∧ Post N m H w (packA vs) H' v w') a1.defers .returning w1 := by
      rw [hd]
      exact ⟨u, hu, u, rfl, m1, s1, st1, hr⟩
    rcases he with rfl | rfl
    · exact key
    · exact key

/-! Heaps that look alike -/
theorem mapOk_prs {m : BM} {es : List (AV × AV)} {ces : Array MapEntry} : MapOk m es ces ↔ ∃ ps : List Pr, ps.map (·.1) = es ∧ (ps.map (·.2)).Perm ces.toList ∧ (∀ p ∈ ps, VRel m p.1.1 p.2.key ∧ VRel m p.1.2 p.2.val) ∧ (∃ κ, ∀ e ∈ es, KeyK κ e.1) ∧ es.Pairwise (fun a b => a.1 ≠ b.1) := by
  have key : ∀ (es : List (AV × AV)) (l : List MapEntry), LRel m (es.map (·.1)) (l.map (·.key)) → LRel m (es.map (·.2)) (l.map (·.val)) → ∃ ps : List Pr, ps.map (·.1) = es ∧ ps.map (·.2) = l ∧ ∀ p ∈ ps, VRel m p.1.1 p.2.key ∧ VRel m p.1.2 p.2.val := by
    intro es
    induction es with
    | nil =>
      intro l h1 h2
      cases l with
      | nil => exact ⟨[], rfl, rfl, fun p hp => by cases hp⟩
      | cons x l => cases h1
    | cons e es ih =>
      intro l h1 h2
      cases l with
      | nil => cases h1
      | cons x l =>
        cases h1 with
        | cons a1 t1 =>
          cases h2 with
          | cons a2 t2 =>
            obtain ⟨ps, q1, q2, q3⟩ := ih l t1 t2
            refine ⟨(e, x) :: ps, by simp [q1], by simp [q2], fun p hp => ?_⟩
            rcases List.mem_cons.1 hp with rfl | hp
            · exact ⟨a1, a2⟩
            · exact q3 p hp
  have back : ∀ ps : List Pr, (∀ p ∈ ps, VRel m p.1.1 p.2.key ∧ VRel m p.1.2 p.2.val) → LRel m ((ps.map (·.1)).map (·.1)) ((ps.map (·.2)).map (·.key)) ∧ LRel m ((ps.map (·.1)).map (·.2)) ((ps.map (·.2)).map (·.val)) := by
    intro ps
    induction ps with
    | nil => intro _; exact ⟨.nil, .nil⟩
    | cons p ps ih =>
      intro h
      obtain ⟨h1, h2⟩ := ih fun q hq => h q (List.mem_cons_of_mem _ hq)
      obtain ⟨k1, k2⟩ := h p List.mem_cons_self
      exact ⟨.cons k1 h1, .cons k2 h2⟩
  constructor
  · rintro ⟨l, h1, h2, h3, h4, h5⟩
    obtain ⟨ps, q1, q2, q3⟩ := key es l h3 h4
    exact ⟨ps, q1, by rw [q2]; exact h1, q3, h2, h5⟩
  · rintro ⟨ps, rfl, h1, h2, h3, h4⟩
    obtain ⟨k1, k2⟩ := back ps h2
    exact ⟨ps.map (·.2), h1, h3, k1, k2, h4⟩
theorem perm_lift {α β : Type} {f : α → β} {l1 l2 : List β} (h : l1.Perm l2) : ∀ ps : List α, ps.map f = l1 → ∃ qs : List α, qs.map f = l2 ∧ ps.Perm qs := by
  induction h with
  | nil => intro ps h; exact ⟨ps, h, .refl _⟩
  | cons x h ih =>
    intro ps hp
    cases ps with
    | nil => cases hp
    | cons p ps =>
      simp only [List.map_cons] at hp
      injection hp with h1 h2
      obtain ⟨qs, q1, q2⟩ := ih ps h2
      exact ⟨p :: qs, by simp [h1, q1], q2.cons p⟩
  | swap x y l =>
    intro ps hp
    match ps, hp with
    | p :: q :: ps, hp =>
      simp only [List.map_cons] at hp
      injection hp with h1 hp
      injection hp with h2 h3
      exact ⟨q :: p :: ps, by simp [h1, h2, h3], .swap q p ps⟩
  | trans h1 h2 ih1 ih2 =>
    intro ps hp
    obtain ⟨qs, q1, q2⟩ := ih1 ps hp
    obtain ⟨rs, r1, r2⟩ := ih2 qs q1
    exact ⟨rs, r1, q2.trans r2⟩
theorem mapOk_perm {m : BM} {es es2 : List (AV × AV)} {ces : Array MapEntry} (h : MapOk m es ces) (hp : es.Perm es2) : MapOk m es2 ces := by
  obtain ⟨ps, h1, h2, h3, ⟨κ, h4⟩, h5⟩ := mapOk_prs.1 h
  obtain ⟨qs, q1, q2⟩ := perm_lift hp ps h1
  exact mapOk_prs.2 ⟨qs, q1, (q2.symm.map _).trans h2, fun p hp => h3 p (q2.symm.subset hp), ⟨κ, fun e he => h4 e (hp.symm.subset he)⟩, (hp.pairwise_iff (fun {_ _} hne => Ne.symm hne)).1 h5⟩
/-- Two heaps alike, but for the order of a map's entries. -/
def HSim (H H2 : AH) : Prop := H2.nx = H.nx ∧ ∀ b, b < mH → H2.get b = H.get b ∨ ∃ es es2, H.get b = some (.map es) ∧ H2.get b = some (.map es2) ∧ es.Perm es2
theorem same_heap {N : Nat} {m0 m : BM} {H0 H H2 : AH} {w0 w : World} (s : Stp m0 H0 w0 m H w) (st : St N m H w) (hs : HSim H H2) : Stp m0 H0 w0 m H2 w ∧ St N m H2 w := by
  have back : ∀ b x cb, H2.get b = some x → m b = some cb → ∃ y, H.get b = some y ∧ (BlkOk m y cb w → BlkOk m x cb w) := by
    intro b x cb h1 h2
    rcases hs.2 b (st.rel.dom b cb h2).1 with h | ⟨es, es2, h3, h4, h5⟩
    · rw [h] at h1; exact ⟨x, h1, id⟩
    · rw [h4] at h1
      injection h1 with h1
      subst h1
      refine ⟨_, h3, fun ⟨k1, k2, ces, k, k3, k4, k5⟩ => ⟨k1, k2, ces, k, k3, mapOk_perm k4 h5, k5⟩⟩
  refine ⟨⟨s.ext, fun b h1 h2 => ?_, ?_, s.size, s.tape, s.os, s.output, s.cells, s.objs, fun B i ho => ?_⟩, ⟨⟨st.rel.dom, fun b x cb h1 h2 => ?_, fun b b' x x' cb cb' h0 h1 h2 h3 h4 h5 => ?_⟩, ⟨?_, fun b h1 h2 => ?_⟩, fun b h1 h2 => ?_⟩⟩
  · rw [hs.1]; exact s.ids b h1 h2
  · rw [hs.1]; exact s.mono
  · obtain ⟨b, x, cb, h1, h2, h3⟩ := ho
    obtain ⟨y, hy, _⟩ := back b x cb h1 h2
    exact s.grow B i ⟨b, y, cb, hy, h2, h3⟩
  · obtain ⟨y, hy, hk⟩ := back b x cb h1 h2
    exact hk (st.rel.live b y cb hy h2)
  · obtain ⟨y, hy, _⟩ := back b x cb h1 h3
    obtain ⟨y', hy', _⟩ := back b' x' cb' h2 h4
    exact st.rel.apart b b' y y' cb cb' h0 hy hy' h3 h4 h5
  · rw [hs.1]; exact st.ok.1
  · rw [hs.1] at h1
    have := st.ok.2 b h1 h2
    rcases hs.2 b h2 with h | ⟨es, es2, h3, h4, h5⟩
    · rw [h]; exact this
    · rw [this] at h3; cases h3
  · rw [hs.1] at h1; exact st.free b h1 h2

/-! A block hidden, and shown again -/
theorem hide {N : Nat} {m : BM} {H : AH} {w : World} (st : St N m H w) {b : Nat} (hb : b < mH) : St N m (H.kill b) w :=
  ⟨st.rel.sub fun j x h1 h2 => by
      obtain ⟨cb, hcb⟩ := Option.ne_none_iff_exists'.1 h2
      rw [AH.get_kill H b j hb (st.rel.dom j cb hcb).1] at h1
      split at h1
      · cases h1
      · exact h1, st.ok.kill hb, st.free⟩
theorem hidden {N : Nat} {m : BM} {H : AH} {w : World} (st : St N m H w) {b : Nat} {x : ABlk} {cb : CB} (hg : H.get b = some x) (hm : m b = some cb) (hbase : cb.base = 0) (hroom : cb.room = 1) : ¬ Owned m (H.kill b).get cb.blk 0 := by
  rintro ⟨j, y, c, h1, h2, h3, h4, h5⟩
  have hb := (st.rel.dom b cb hm).1
  rw [AH.get_kill H b j hb (st.rel.dom j c h2).1] at h1
  split at h1
  · cases h1
  · rename_i hj
    exact st.rel.apart j b y x c cb hj h1 hg h2 hm h3 0 ⟨h4, h5, by omega, by omega⟩
theorem unhide {N : Nat} {m m' : BM} {H H' : AH} {w w' : World} (st : St N m H w) {b : Nat} {x : ABlk} {cb : CB} (hg : H.get b = some x) (hm : m b = some cb) (s : Stp m (H.kill b) w m' H' w') (st' : St N m' H' w') :
    Stp m H w m' (H'.put b x) w' ∧ St N m' (H'.put b x) w' := by
  have hb := (st.rel.dom b cb hm).1
  have hlt : b < H.nx := st.ok.lt hb hg
  obtain ⟨r, s2⟩ := Rel.merge (NA := H.nx) (NB := H'.nx) (hh' := (H'.put b x).get) st.rel (fun j y h1 h2 => by
      obtain ⟨c, hc⟩ := Option.ne_none_iff_exists'.1 h2
      rw [AH.get_kill H b j hb (st.rel.dom j c hc).1] at h1
      split at h1
      · cases h1
      · exact h1) s st'.rel (fun j y h1 h2 => by
      obtain ⟨c, hc⟩ := Option.ne_none_iff_exists'.1 h2
      rw [AH.get_put H' b x j hb (st'.rel.dom j c hc).1] at h1
      split at h1
      · rename_i hj
        subst hj
        right
        refine ⟨by rw [hm]; exact Option.some_ne_none _, ?_, ?_⟩
        · rw [AH.get_kill H j j hb hb, if_pos rfl]
        · rw [hg]; exact h1
      · exact .inl h1) s.ids s.mono
  exact ⟨s2, r, st'.ok.put _ (Nat.lt_of_lt_of_le hlt s.mono), st'.free⟩

/-! A range's beginning -/
theorem range_region {id : Nat} {ops : Array Oper} {l : List Oper} {o : Oper} {t k e : TypeId} {x : Operand} {ti bm : Nat} {es : List (AV × AV)} {f f1 : Fr} {H H1 : AH} (hops : ops.toList = l ++ [o]) (ho : o.op = .range t x) (hg : o.guard = none) (hd : o.dst = some ti)
    (hseq : seqA P l f H = some (f1, H1)) (hx : aev f1 x = some (.map bm)) (hbm : H1.get bm = some (.map es)) (ht : P.underlying t = some (.map k e)) (hroom : H1.nx < mH) (hti : ti < f1.nt)
    {N : Nat} {m : BM} {w : World} {a : Act} {r : Option Nat} (hN : H1.nx < N) (st : St N m H w) (fr : FrRel m r f a) (Q : Exit → Act → World → Prop)
    (hQ : ∀ m1 w1 m' a' w' it cb clock ces ps, Stp m H w m1 H1 w1 → St N m1 H1 w1 → m1 bm = some cb → ps.map (·.1) = es → (ps.map (·.2)).Perm ces.toList → BornOk ces clock → RangeAt N m1 (H1.kill bm) w1 r H1.nx it cb.blk clock ces ps #[] m' (H1.kill bm).bump w' (f1.putT ti (.ptr H1.nx 0)) a' → Q .normal a' w') :
    (Code.region id ops false).wpIn (FW r) 0 P Q a w := by
  obtain ⟨n1, g1⟩ := seqA_sound (P := P) (ops := ops) l hseq
  refine wpIn_region ?_
  have hlen : List.range ops.size = List.range' 0 (l.length + [o].length) := by
    rw [List.range_eq_range', ← Array.length_toList, hops, List.length_append]
  rw [hlen]
  refine g1 [] [o] (by simp [hops]) N m w a r (by omega) st fr Q fun m1 a1 w1 s1 st1 fr1 => ?_
  have hvx := aev_rel fr1.ev hx
  generalize hu : a1.eval x = u at hvx
  cases hvx with
  | map hb =>
    rename_i cb
    obtain ⟨hbase, hrm, ces, clock, hw, hmo, hbn⟩ := st1.rel.mapAt hbm hb
    obtain ⟨ps, q1, q2, q3, _, _⟩ := mapOk_prs.1 hmo
    have hbd := (st1.rel.dom bm cb hb).1
    have hrun := run_range_map (P := P) w1 t k e cb.blk ces clock ht hw
    obtain ⟨s2, st2⟩ := bump_st (hide st1 hbd) hroom hN (.mapIter (some cb.blk) clock #[] clock)
    refine wpOps_special (o := o) (u := .pointer (some ⟨w1.heap.size, 0, none⟩)) (w1 := w1.alloc (.mapIter (some cb.blk) clock #[] clock)) (by rw [← Array.getElem?_toList, hops]; simp) hg (by rw [ho]; intro c h; cases h) (by simp [execOp, ho, hu, hrun]) ?_
    have hfr2 : FrRel (m1.upd H1.nx ⟨w1.heap.size, 0, 0, 1, 0⟩) r (f1.putT ti (.ptr H1.nx 0)) (a1.put o.dst (.pointer (some ⟨w1.heap.size, 0, none⟩))) :=
      (fr1.mono s2.ext).put (d := o.dst) (v := .ptr H1.nx 0) (by rw [hd]; exact Fr.put_some hti) (.ptr (BM.upd_same m1 H1.nx _))
    refine hQ m1 w1 _ _ _ w1.heap.size cb clock ces ps s1 st1 hb q1 q2 hbn ⟨s2, st2, hfr2, BM.upd_same m1 H1.nx _, heap_alloc_new w1 _, ?_, ?_, Nat.le_refl _, fun p hp => ⟨(q3 p hp).1.mono s2.ext, (q3 p hp).2.mono s2.ext⟩⟩
    · show (w1.heap.push _)[cb.blk]? = _
      have := lt_of_get hw
      rw [Array.getElem?_push, if_neg (by omega)]
      exact hw
    · intro hown
      rcases s2.grow cb.blk 0 hown with h1 | h1
      · exact hidden st1 hbm hb hbase hrm h1
      · have := lt_of_get hw; omega
end
end Go.Ev
