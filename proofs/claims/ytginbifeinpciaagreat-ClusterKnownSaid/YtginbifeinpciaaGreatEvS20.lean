/- Rounds; a range over a function. -/
import Derived.Test.YtginbifeinpciaaGreatEvS19
namespace Go.Ev
open Go

section
variable {P : Program} {R : Type}
/-- The loop's record in memory. -/
theorem St.loopAt {N : Nat} {m : BM} {H : AH} {w : World} (st : St N m H w) {b : Nat} {cb : CB} {x : ALoop} (hg : H.get b = some (.loop x)) (hb : m b = some cb) : ∃ L, w.heap[cb.blk]? = some (.loop L) ∧ LoopOk m x L := (st.rel.live b _ cb hg hb).2.2
theorem ALoop.set_eq (x : ALoop) (s : LoopState) (p : Option Code) : x.set s p = .loop ⟨s, p, x.fn, x.tm, x.nt, x.params, x.assign, x.body, x.defers⟩ := rfl
/-- The record is turned. -/
theorem St.loopSet {N : Nat} {m : BM} {H : AH} {w : World} (st : St N m H w) {b : Nat} {cb : CB} {x : ALoop} {L : Loop} (hg : H.get b = some (.loop x)) (hb : m b = some cb) (hw : w.heap[cb.blk]? = some (.loop L)) (hl : LoopOk m x L) (s : LoopState) (p : Option Code) :
    Stp m H w m (H.put b (x.set s p)) (w.putObj cb.blk (.loop { L with state := s, pending := p })) ∧ St N m (H.put b (x.set s p)) (w.putObj cb.blk (.loop { L with state := s, pending := p })) := by
  obtain ⟨h1, h2, _⟩ := st.rel.live b _ cb hg hb
  have hbd := st.rel.dom b cb hb
  obtain ⟨e1, e2, e3, e4, e5, e6, e7⟩ := hl
  obtain ⟨r', s'⟩ := Rel.obj (nx := H.nx) (h' := (H.put b (x.set s p)).get) (x' := x.set s p) (o := .loop { L with state := s, pending := p }) st.rel hb hg h1 h2 (fun c e f h => by rw [hw] at h; cases h) (fun j hj => AH.get_put H b _ j hbd.1 hj)
    ⟨h1, h2, _, turned_same hbd.2, rfl, rfl, e3, e4, e5, e6, e7⟩
  exact ⟨s', st.of s' r' (st.ok.put _ (st.ok.lt hbd.1 hg))⟩

theorem putParams_some {m : BM} {nt : Nat} : ∀ {ps : List Tmp} {vs : List AV} {us : List Value} {tm tm' : FT} {ts : Array Value}, putParams nt ps vs tm = some tm' → LRel m vs us → TRel m nt tm ts →
    ps.length = us.length ∧ TRel m nt tm' ((ps.zip us).foldl (fun ts p => ts.setIfInBounds p.1 p.2) ts)
  | [], vs, us, tm, tm', ts, h, hl, ht => by
    cases vs with
    | nil =>
      simp only [putParams] at h
      injection h with h
      subst h
      cases hl
      exact ⟨rfl, ht⟩
    | cons v vs => simp only [putParams] at h; cases h
  | p :: ps, vs, us, tm, tm', ts, h, hl, ht => by
    cases vs with
    | nil => simp only [putParams] at h; cases h
    | cons v vs =>
      simp only [putParams] at h
      cases hl with
      | cons hv hl =>
        split at h
        · rename_i hle
          obtain ⟨h3, h4⟩ := putParams_some h hl (ht.put (Nat.le_of_ble_eq_true hle) hv)
          exact ⟨by simp [h3], h4⟩
        · cases h

theorem round_end {l : Nat} {k : AV → AH → Option R} {x : Ex} {f : Fr} {H : AH} {res : R} (h : roundEnd l k x f H = some res) :
    ∃ v H', k v H' = some res ∧ H.nx = H'.nx ∧ ∀ N m w cb a, St N m H w → m l = some cb → ∃ u w', roundPost P cb.blk (fun e w'' => e = .returned u ∧ w'' = w') (exOf x) a w ∧ Stp m H w m H' w' ∧ St N m H' w' ∧ VRel m v u := by
  unfold roundEnd at h
  split at h
  · unfold roundEnd2 at h
    split at h
    · rename_i y hg
      unfold roundOut at h
      split at h
      · refine ⟨_, _, h, rfl, fun N m w cb a st hb => ?_⟩
        obtain ⟨L, hw, hl⟩ := st.loopAt hg hb
        obtain ⟨s', st'⟩ := st.loopSet hg hb hw hl .ready none
        exact ⟨.bool true, _, ⟨_, _, run_endRound (P := P) none hw, rfl, rfl⟩, s', st', .bool _⟩
      · refine ⟨_, _, h, rfl, fun N m w cb a st hb => ?_⟩
        obtain ⟨L, hw, hl⟩ := st.loopAt hg hb
        obtain ⟨s', st'⟩ := st.loopSet hg hb hw hl .done (some .ret)
        exact ⟨.bool false, _, ⟨_, _, run_endRound (P := P) (some .ret) hw, rfl, rfl⟩, s', st', .bool _⟩
      · rename_i id
        refine ⟨_, _, h, rfl, fun N m w cb a st hb => ?_⟩
        obtain ⟨L, hw, hl⟩ := st.loopAt hg hb
        obtain ⟨s', st'⟩ := st.loopSet hg hb hw hl .done (some (.exit id))
        exact ⟨.bool false, _, ⟨_, _, run_endRound (P := P) (some (.exit id)) hw, rfl, rfl⟩, s', st', .bool _⟩
    · cases h
  · cases h
theorem roundPost_mono {l : Nat} {RR RR' : Ending → World → Prop} (hR : ∀ e w, RR e w → RR' e w) {e : Exit} {a : Act} {w : World} (h : roundPost P l RR e a w) : roundPost P l RR' e a w := by
  cases e <;> first
    | exact h
    | (obtain ⟨v, w', h1, h2⟩ := h; exact ⟨v, w', h1, hR _ _ h2⟩)

/-- A round. -/
theorem roundK_sound {ih : Ih R} (hi : IhOk P ih) (hc : ∀ c, CodeOk P c (cCode (R := R) P c).run) {n l : Nat} {args : List AV} {H : AH} {k : AV → AH → Option R} {res : R} (h : roundK P n ih l args H k (H.get l) = some res) :
    ∃ v H', k v H' = some res ∧ H.nx ≤ H'.nx ∧ RoundS P l args H v H' := by
  unfold roundK at h
  split at h
  · rename_i s0 p0 fn tm nt ps as bd dd hg
    unfold round2 at h
    split at h
    · rename_i tm' htm
      split at h
      rename_i A hA
      split at h
      rename_i B hB
      have hcA := hc as
      rw [hA] at hcA
      have hcB := hc bd
      rw [hB] at hcB
      rcases hcA n ih hi _ H _ _ res h with ⟨f1, H1, h1, g1⟩ | ⟨x1, f1, H1, hx, h1, g1⟩
      · unfold roundGo at h1
        split at h1
        · rename_i y hg1
          split at h1
          · rename_i hst
            have body : ∃ (x2 : Ex) (f2 : Fr) (H2 : AH), roundEnd l k x2 f2 H2 = some res ∧ CodeS P bd f1 (H1.put l (y.set .busy y.pending)) x2 f2 H2 := by
              rcases hcB n ih hi _ _ _ _ res h1 with ⟨f2, H2, h2, g2⟩ | ⟨x2, f2, H2, hx, h2, g2⟩
              · exact ⟨.normal, f2, H2, h2, g2⟩
              · exact ⟨x2, f2, H2, h2, g2⟩
            obtain ⟨x2, f2, H2, h2, g2⟩ := body
            obtain ⟨v, H', h3, n3, g3⟩ := round_end (P := P) h2
            have n2 : H1.nx ≤ H2.nx := g2.1
            refine ⟨v, H', h3, by rw [← n3]; exact Nat.le_trans g1.1 n2, fun N m w us cb hN st hb hla => ?_⟩
            have hN2 : H2.nx ≤ N := by rw [n3]; exact hN
            obtain ⟨L, hw, hl⟩ := st.loopAt hg hb
            obtain ⟨e1, e2, e3, e4, e5, e6, e7⟩ := hl
            obtain ⟨hlen, htm2⟩ := putParams_some htm hla e3
            have hps : L.params = ps := e4
            have hsz : us.size = L.params.size := by rw [hps]; simpa using hlen.symm
            refine ⟨_, w, run_yield (P := P) hw hsz, ?_⟩
            have hfold : (L.params.zip us).foldl (fun tmps (t, a) => tmps.setIfInBounds t a) L.tmps = (ps.toList.zip us.toList).foldl (fun ts p => ts.setIfInBounds p.1 p.2) L.tmps := by
              rw [← Array.foldl_toList, Array.toList_zip, hps]
            show RoundIn Fence.wide 0 P cb.blk L.fn ((L.params.zip us).foldl (fun tmps (t, a) => tmps.setIfInBounds t a) L.tmps) L.assign L.body w _
            rw [hfold]
            have has : L.assign = as := e5
            have hbd : L.body = bd := e6
            rw [has, hbd]
            refine roundIn_of_wpIn trivial ?_
            show as.wpIn (FW (some cb.blk)) 0 P _ _ w
            refine g1.2 N m w _ (some cb.blk) (Nat.le_trans n2 hN2) st ⟨htm2, .nil, cb, hb, rfl⟩ _ fun m1 a1 w1 s1 st1 fr1 => ?_
            have hb1 : m1 l = some cb := s1.ext _ _ hb
            obtain ⟨L1, hw1, hl1⟩ := st1.loopAt hg1 hb1
            obtain ⟨s2, st2⟩ := st1.loopSet hg1 hb1 hw1 hl1 .busy y.pending
            have hready : L1.state = .ready := hl1.1.trans hst
            have hpend : L1.pending = y.pending := hl1.2.1
            have hput : ({ L1 with state := .busy, pending := y.pending } : Loop) = { L1 with state := .busy } := by rw [← hpend]
            rw [hput] at s2 st2
            refine ⟨_, run_beginRound (P := P) hw1 hready, ?_⟩
            show bd.wpIn (FW (some cb.blk)) 0 P _ a1 _
            refine g2.2 N m1 _ a1 (some cb.blk) hN2 st2 fr1 _ fun m3 a3 w3 s3 st3 fr3 => ?_
            obtain ⟨u, w4, hp, s4, st4, hv⟩ := g3 N m3 w3 cb a3 st3 (s3.ext _ _ hb1)
            refine roundPost_mono (fun e w'' he => ?_) hp
            obtain ⟨rfl, rfl⟩ := he
            exact ⟨u, rfl, m3, s1.trans (s2.trans (s3.trans s4)), st4, hv⟩
          · cases h1
        · cases h1
      · cases h1
    · cases h
  · cases h

/-! The statement -/
theorem bodied_some {g : FuncId} (h : bodied P g = true) : ∃ fn c, P.funcs[g]? = some fn ∧ fn.body = some c := by
  unfold bodied at h
  split at h
  · rename_i fn hg
    split at h
    · rename_i c hc
      exact ⟨fn, c, hg, hc⟩
    · cases h
  · cases h
theorem collK_some {f : Fr} {H : AH} {k : Nat → Fr → AH → Option R} {res : R} (h : collK f H k = some res) :
    ∃ d f' H', k d f' H' = some res ∧ f'.tm = f.tm ∧ f'.nt = f.nt ∧ f'.rd = f.rd ∧
      ((∃ l x, f.rd = some l ∧ H.get l = some (.loop x) ∧ d = x.defers ∧ f' = f ∧ H' = H) ∨ (f.rd = none ∧ H.room = true ∧ d = H.nx ∧ f'.df = .coll H.nx :: f.df ∧ H' = H.grown (.deferred true))) := by
  obtain ⟨tm, df, nt, rd, fn⟩ := f
  unfold collK at h
  dsimp only at h
  split at h
  · rename_i l
    unfold collFrom at h
    split at h
    · rename_i x hg
      exact ⟨_, _, _, h, rfl, rfl, rfl, .inl ⟨l, x, rfl, hg, rfl, rfl, rfl⟩⟩
    · cases h
  · split at h
    · rename_i hr
      exact ⟨_, _, _, h, rfl, rfl, rfl, .inr ⟨rfl, hr, rfl, rfl, rfl⟩⟩
    · cases h
/-- A new object that is no row of cells. -/
theorem St.new {N : Nat} {m : BM} {H : AH} {w : World} (st : St N m H w) (hN : H.nx < N) (hr : H.room = true) (x : ABlk) (o : Obj) (hx : ∀ m', Ext m m' → BlkOk m' x ⟨w.heap.size, 0, 0, 1, 0⟩ (w.alloc o)) :
    ∃ m', Stp m H w m' (H.grown x) (w.alloc o) ∧ St N m' (H.grown x) (w.alloc o) ∧ m' H.nx = some ⟨w.heap.size, 0, 0, 1, 0⟩ := by
  have hlt := AH.room_lt hr
  have hid := st.free H.nx (Nat.le_refl _) hN
  obtain ⟨r', s'⟩ := Rel.new (h' := (H.grown x).get) (nx := H.nx) (x := x) (cb := ⟨w.heap.size, 0, 0, 1, 0⟩) (o := o) (d := w.drawn) st.rel hlt rfl hid rfl (fun j hj => AH.get_grown H _ j hlt hj) (hx _ (BM.upd_ext hid))
  exact ⟨_, s', st.of s' r' (st.ok.grown _ hlt), BM.upd_same _ _ _⟩
theorem St.allocAt (w : World) (o : Obj) : (w.alloc o).heap[w.heap.size]? = some o := World.alloc_heap_new w o

theorem rangeC_sound (hp : Plain P) {g : Operand} {ps : Array Tmp} {assign body : Code} : CodeOk P (.rangeFunc g ps assign body) (rangeC (R := R) P ps assign body (cGet g)).run := by
  intro n ih hi f H k e res h
  unfold rangeC at h
  split at h
  · rename_i gg hgg
    have h : rangeK P ih ps assign body f H k e (gg f) = some res := h
    unfold rangeK at h
    split at h
    · rename_i g' first captured hgf
      split at h
      · rename_i hbd
        obtain ⟨fn', c', hfn, hbody⟩ := bodied_some hbd
        obtain ⟨d, f1, H1, h1, etm, ent, erd, hcase⟩ := collK_some h
        unfold loopCall at h1
        split at h1
        · rename_i hroom1
          obtain ⟨v, H2, h2, hq⟩ := hi _ _ _ h1
          have hq : (H1.grown (loopRec f ps assign body d)).nx ≤ H2.nx ∧ CallS P g' (app first (.yield H1.nx :: captured)) (H1.grown (loopRec f ps assign body d)) v H2 := hq
          unfold loopEnd at h2
          split at h2
          · rename_i x hx
            have hnb : x.st ≠ .busy := by
              intro hb
              rw [hb] at h2
              cases h2
            have h2 : jumpK f1 (H2.put H1.nx (x.set .exhausted x.pending)) k e x.pending = some res := by
              cases hs : x.st with
              | busy => exact absurd hs hnb
              | ready => rw [hs] at h2; exact h2
              | done => rw [hs] at h2; exact h2
              | exhausted => rw [hs] at h2; exact h2
            -- the walk, whatever comes behind it
            have n1 : H.nx ≤ H1.nx := by
              rcases hcase with ⟨_, _, _, _, _, _, rfl⟩ | ⟨_, _, _, _, rfl⟩
              · exact Nat.le_refl _
              · exact Nat.le_succ _
            have n2 : H1.nx + 1 ≤ H2.nx := hq.1
            have walk : ∀ N m w a r, H2.nx ≤ N → St N m H w → FrRel m r f a → ∀ Q : Exit → Act → World → Prop,
                (∀ m' a' w', Stp m H w m' (H2.put H1.nx (x.set .exhausted x.pending)) w' → St N m' (H2.put H1.nx (x.set .exhausted x.pending)) w' → FrRel m' r f1 a' →
                  (match x.pending with | none => Q .normal a' w' | some c => c.wpIn (FW r) 0 P Q a' w')) → (Code.rangeFunc g ps assign body).wpIn (FW r) 0 P Q a w := by
              intro N m w a r hN st fr Q hQ
              refine wpIn_rangeFunc fun fn _ => ?_
              have hgr := aev_rel fr.ev (cGet_aev hgg f)
              rw [hgf] at hgr
              generalize hu : a.eval g = u at hgr
              cases hgr with
              | func hf1 hf2 =>
                rename_i first' captured'
                -- the block of deferred calls
                have coll : ∃ (l : Nat) (mark : List Deferred) (w1 : World) (m1 : BM) (cd : CB) (wc : World), (Instr.enterLoop fn a.tmps ps assign body r).run P w = .ok (l, mark) w1 ∧ l = wc.heap.size ∧ m1 d = some cd ∧
                    w1 = wc.alloc (.loop { state := .ready, pending := none, fn := fn, tmps := a.tmps, params := ps, assign := assign, body := body, defers := cd.blk }) ∧ Stp m H w m1 H1 wc ∧ St N m1 H1 wc ∧ FrRel m1 r f1 { a with defers := mark ++ a.defers } := by
                  rcases hcase with ⟨lr, y, hrd, hgl, rfl, rfl, rfl⟩ | ⟨hrd, hroom, rfl, hdf, rfl⟩
                  · have hr := fr.rd
                    rw [hrd] at hr
                    obtain ⟨cb, hcb, rfl⟩ := hr
                    obtain ⟨L, hw, hl⟩ := st.loopAt hgl hcb
                    obtain ⟨_, _, _, _, _, _, cd, hcd, hde⟩ := hl
                    refine ⟨_, _, _, m, cd, w, run_enterLoop_inner (P := P) hw fn a.tmps ps assign body, rfl, hcd, by rw [hde], .refl, st, fr⟩
                  · have hr := fr.rd
                    rw [hrd] at hr
                    have hr : r = none := hr
                    subst hr
                    obtain ⟨m1, s1, st1, hm1⟩ := st.new (by have n2' : H.nx + 1 + 1 ≤ H2.nx := n2; omega) hroom (.deferred true) (.deferred (some [])) fun m' _ => ⟨rfl, rfl, World.alloc_heap_new w _⟩
                    have hrun := run_enterLoop_outer (P := P) (w := w) fn a.tmps ps assign body
                    refine ⟨_, _, _, m1, _, w.alloc (.deferred (some [])), hrun, ?_, hm1, rfl, s1, st1, ?_⟩
                    · simp [World.size_alloc]
                    · have fr1 := fr.mono s1.ext
                      refine ⟨by rw [etm, ent]; exact fr1.tm, ?_, by rw [erd]; exact fr1.rd⟩
                      rw [hdf]
                      exact .coll hm1 fr1.df
                obtain ⟨l, mark, w1, m1, cd, wc, hrun, rfl, hcd, rfl, s1, st1, fr1⟩ := coll
                obtain ⟨m2, s2, st2, hm2⟩ := st1.new (by omega) hroom1 (loopRec f ps assign body d) (.loop { state := .ready, pending := none, fn := fn, tmps := a.tmps, params := ps, assign := assign, body := body, defers := cd.blk }) fun m' e' =>
                  ⟨rfl, rfl, _, World.alloc_heap_new wc _, rfl, rfl, (fr.mono (s1.ext.trans e')).tm, rfl, rfl, rfl, cd, e' _ _ hcd, rfl⟩
                have hla : LRel m2 (app first (.yield H1.nx :: captured)) (first' ++ #[Value.func (.yield wc.heap.size) #[] #[]] ++ captured').toList := by
                  rw [app_eq]
                  have e12 := s1.ext.trans s2.ext
                  have hy : VRel m2 (.yield H1.nx) (.func (.yield wc.heap.size) #[] #[]) := .yield hm2
                  have := (hf1.mono e12).append (.cons hy (hf2.mono e12))
                  simpa using this
                obtain ⟨nx, w2, hcall, hnext⟩ := hq.2 N m2 _ _ hN st2 hla
                rw [callFunc_enter hp hfn hbody] at hcall
                injection hcall with hnx hw2
                subst hnx; subst hw2
                refine ⟨_, _, _, { target := .fn (.func g') captured', args := first' ++ #[Value.func (.yield wc.heap.size) #[] #[]] }, (wc.alloc (.loop { state := .ready, pending := none, fn := fn, tmps := a.tmps, params := ps, assign := assign, body := body, defers := cd.blk })), g', first' ++ #[Value.func (.yield wc.heap.size) #[] #[]] ++ captured', (wc.alloc (.loop { state := .ready, pending := none, fn := fn, tmps := a.tmps, params := ps, assign := assign, body := body, defers := cd.blk })), hrun, ?_, fun _ _ => trivial, ?_, (fun h => by cases h), ?_⟩
                · have hconst : a.eval (.const (.func (.yield wc.heap.size) #[] #[])) = .func (.yield wc.heap.size) #[] #[] := rfl
                  simp [resolve, hu, Deferred.ofValue, hconst]
                · show (callFunc g' _).run P _ = _
                  exact callFunc_enter hp hfn hbody _ _
                · have hnext : CallsIn (FW r) 0 P g' (first' ++ #[Value.func (.yield wc.heap.size) #[] #[]] ++ captured') (wc.alloc (.loop { state := .ready, pending := none, fn := fn, tmps := a.tmps, params := ps, assign := assign, body := body, defers := cd.blk }))
                      fun e w' => ∃ v', e = .returned v' ∧ Post N m2 (H1.grown (loopRec f ps assign body d)) (wc.alloc (.loop { state := .ready, pending := none, fn := fn, tmps := a.tmps, params := ps, assign := assign, body := body, defers := cd.blk })) v H2 v' w' := hnext
                  refine CallsIn.mono hnext fun e' w3 he => ?_
                  obtain ⟨v', rfl, m3, s3, st3, hv3⟩ := he
                  have hm3 : m3 H1.nx = some ⟨wc.heap.size, 0, 0, 1, 0⟩ := s3.ext _ _ hm2
                  obtain ⟨L, hw3, hl3⟩ := st3.loopAt hx hm3
                  obtain ⟨s4, st4⟩ := st3.loopSet hx hm3 hw3 hl3 .exhausted x.pending
                  have hpend : L.pending = x.pending := hl3.2.1
                  have hput : ({ L with state := .exhausted, pending := x.pending } : Loop) = { L with state := .exhausted } := by rw [← hpend]
                  rw [hput] at s4 st4
                  have hnb' : L.state ≠ .busy := by rw [hl3.1]; exact hnb
                  refine ⟨L.pending, _, run_endLoop (P := P) hw3 hnb', ?_⟩
                  have key := hQ m3 { a with defers := mark ++ a.defers } _ (s1.trans (s2.trans (s3.trans s4))) st4 (fr1.mono (s2.ext.trans s3.ext))
                  rw [← hpend] at key
                  exact key
            unfold jumpK at h2
            split at h2
            · rename_i hpd
              refine .inl ⟨f1, _, h2, by show H.nx ≤ H2.nx; omega, fun N m w a r hN st fr Q hQ => walk N m w a r hN st fr Q fun m' a' w' s st' fr' => ?_⟩
              rw [hpd]
              exact hQ m' a' w' s st' fr'
            · rename_i hpd
              refine .inr ⟨.ret, f1, _, (by intro h; cases h), h2, by show H.nx ≤ H2.nx; omega, fun N m w a r hN st fr Q hQ => walk N m w a r hN st fr Q fun m' a' w' s st' fr' => ?_⟩
              rw [hpd]
              exact wpIn_ret (hQ m' a' w' s st' fr')
            · rename_i id hpd
              refine .inr ⟨.exit id, f1, _, (by intro h; cases h), h2, by show H.nx ≤ H2.nx; omega, fun N m w a r hN st fr Q hQ => walk N m w a r hN st fr Q fun m' a' w' s st' fr' => ?_⟩
              rw [hpd]
              exact wpIn_exit (hQ m' a' w' s st' fr')
            · cases h2
          · cases h2
        · cases h1
      · cases h
    · cases h
  · cases h
end
end Go.Ev
