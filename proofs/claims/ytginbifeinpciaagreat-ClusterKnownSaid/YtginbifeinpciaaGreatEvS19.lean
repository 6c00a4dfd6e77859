/- Functions: entering and leaving; deferred calls; rounds; a range over a function. -/
import Derived.Test.YtginbifeinpciaaGreatEvS18
import Derived.RangeFuncIn
import Derived.RangeFuncLeaves
import Derived.RangeFuncNested
namespace Go.Ev
open Go

section
variable {P : Program} {R : Type}
theorem Stp.refl {m : BM} {H : AH} {w : World} : Stp m H w m H w := Step.refl _ _ _ _
theorem St.of {N : Nat} {m m' : BM} {H H' : AH} {w w' : World} (st : St N m H w) (s : Stp m H w m' H' w') (r : Rel m' H'.get w') (hk : HOk H') : St N m' H' w' := ⟨r, hk, st.free.step s⟩

/-! Frames -/
theorem putArgs_get : ∀ (l : List AV) (i : Nat) (T : FT), i + l.length ≤ 256 → ∀ t : Nat, (putArgs l i T).get t = if i ≤ t ∧ t < i + l.length then (l[t - i]?).getD Ev.und else T.get t
  | [], i, T, _, t => by rw [if_neg (by simp)]; rfl
  | v :: l, i, T, h, t => by
    simp only [List.length_cons] at h
    show (putArgs l (i + 1) (T.put i v)).get t = _
    rw [putArgs_get l (i + 1) (T.put i v) (by omega) t]
    by_cases h1 : i + 1 ≤ t ∧ t < i + 1 + l.length
    · rw [if_pos h1, if_pos (by simp only [List.length_cons]; omega)]
      have : t - i = (t - (i + 1)) + 1 := by omega
      rw [this, List.getElem?_cons_succ]
    · rw [if_neg h1, FT.get_put T i v t (by omega)]
      by_cases h2 : t = i
      · subst h2
        rw [if_pos rfl, if_pos (by simp)]
        simp
      · rw [if_neg h2, if_neg (by simp only [List.length_cons]; omega)]
theorem frK_some {g : FuncId} {nt : Nat} {args : List AV} {k : Fr → Option R} {res : R} (h : frK g nt args k = some res) :
    ∃ f, k f = some res ∧ f.df = [] ∧ f.rd = none ∧ ∀ (m : BM) (us : Array Value), LRel m args us.toList → FrRel m none f { tmps := us ++ Array.replicate (nt - us.size) undef, defers := [] } := by
  unfold frK at h
  split at h
  · rename_i hle
    have hle := Nat.le_of_ble_eq_true hle
    rw [len_eq] at hle
    have hle : args.length + (nt - args.length) ≤ 256 := hle
    refine ⟨_, h, rfl, rfl, fun m us hl => ⟨⟨?_, ?_, fun (t : Nat) => ?_⟩, .nil, rfl⟩⟩
    · rw [len_eq]
      have := hl.length
      simp at this
      show _ = args.length + (nt - args.length)
      simp [this]
    · rw [len_eq]; exact hle
    · show VRel m ((putArgs args 0 FT.und).get t) _
      rw [putArgs_get args 0 FT.und (by omega) t, FT.und_get]
      have hlen := hl.length
      have hlen' : us.size = args.length := by simpa using hlen.symm
      rw [Array.getD_eq_getD_getElem?]
      by_cases ht : t < args.length
      · rw [if_pos ⟨Nat.zero_le _, by omega⟩]
        obtain ⟨u, hu, hr⟩ := hl.get (i := t) (v := args[t]) (by simp [ht])
        rw [Array.getElem?_append_left (by omega), ← Array.getElem?_toList, hu]
        simpa [ht] using hr
      · rw [if_neg (by omega), Array.getElem?_append_right (by omega)]
        have : ((Array.replicate (nt - us.size) undef)[t - us.size]?).getD undef = undef := by
          rw [Array.getElem?_replicate]
          split <;> rfl
        rw [this]
        exact .und m
  · cases h

/-! Leaving -/
theorem resA_run {m : BM} {H : AH} {w : World} (r : Rel m H.get w) {f : Fr} {ts : Array Value} (hf : ∀ t, VRel m (f.get t) (ts.getD t undef)) (G : ResultVar → Sem Value) (g1 : ∀ t, G (.tmp t) = pure (ts.getD t undef))
    (g2 : ∀ a t, G (.cell a t) = do loadVar t (← asAddr (ts.getD a undef))) : ∀ {rs : List ResultVar} {vs : List AV}, resA P H f rs = some vs → ∃ us : List Value, (rs.mapM G).run P w = .ok us w ∧ LRel m vs us
  | [], vs, h => by
    simp only [resA] at h
    injection h with h
    subst h
    exact ⟨[], by simp, .nil⟩
  | x :: rs, vs, h => by
    obtain ⟨v, vs', h1, h2, rfl⟩ := consO_some (by exact h)
    have hx : ∃ u, (G x).run P w = .ok u w ∧ VRel m v u := by
      cases x with
      | tmp t =>
        simp only [res1] at h1
        injection h1 with h1
        subst h1
        exact ⟨_, by rw [g1]; rfl, hf t⟩
      | cell a t =>
        simp only [res1] at h1
        unfold resCell at h1
        split at h1
        · rename_i b o hb
          have hr := hf a
          rw [hb] at hr
          rw [g2]
          generalize ts.getD a undef = u at hr
          cases hr with
          | ptr hb =>
            obtain ⟨z, hz, hzr⟩ := loadVarA_run (P := P) r h1 hb
            exact ⟨z, by simp [asAddr, hz], hzr⟩
        · cases h1
    obtain ⟨u, hu, hr⟩ := hx
    obtain ⟨us, hus, hrs⟩ := resA_run r hf G g1 g2 h2
    refine ⟨u :: us, ?_, .cons hr hrs⟩
    simp only [List.mapM_cons, Sem.run_bind, hu, hus, Result.andThen_ok, Sem.run_pure]
theorem results_run {m : BM} {H : AH} {w : World} (r : Rel m H.get w) {fn : Func} {f : Fr} {ts : Array Value} (hf : ∀ t, VRel m (f.get t) (ts.getD t undef)) {vs : List AV} (h : resA P H f fn.results.toList = some vs) :
    ∃ u, (results fn ts).run P w = .ok u w ∧ VRel m (packA vs) u := by
  unfold results
  generalize hG : (fun x : ResultVar => (_ : Sem Value)) = G
  obtain ⟨us, hus, hrs⟩ := resA_run r hf G (fun t => by rw [← hG]) (fun a t => by rw [← hG]) h
  refine ⟨if h : us.toArray.size = 1 then us.toArray[0] else .tuple us.toArray, ?_, ?_⟩
  · rw [Array.mapM_eq_mapM_toList]
    simp [hus]
  · cases hrs with
    | nil => exact .tup .nil
    | cons h1 t1 =>
      cases t1 with
      | nil => exact h1
      | cons h2 t2 => exact .tup (.cons h1 (.cons h2 t2))

theorem openAt_some {x : Option ABlk} (h : openAt x = true) : x = some (.deferred true) := by
  unfold openAt at h
  split at h
  · rw [h]
  · cases h
/-- The block of a range's deferred calls is shut. -/
theorem shut_run {N : Nat} {m : BM} {H : AH} {w : World} (st : St N m H w) {b : Nat} {cb : CB} (hg : H.get b = some (.deferred true)) (hb : m b = some cb) :
    ∃ w', (Instr.takeDeferred cb.blk).run P w = .ok [] w' ∧ Stp m H w m (H.put b (.deferred false)) w' ∧ St N m (H.put b (.deferred false)) w' := by
  obtain ⟨h1, h2, h3⟩ := st.rel.live b _ cb hg hb
  have hbd := st.rel.dom b cb hb
  obtain ⟨r', s'⟩ := Rel.obj (nx := H.nx) (h' := (H.put b (.deferred false)).get) (x' := .deferred false) (o := .deferred none) st.rel hb hg h1 h2 (fun c e f h => by rw [h3] at h; cases h) (fun j hj => AH.get_put H b _ j hbd.1 hj)
    ⟨h1, h2, turned_same hbd.2⟩
  exact ⟨_, run_takeDeferred h3, s', st.of s' r' (st.ok.put _ (st.ok.lt hbd.1 hg))⟩
theorem leaveK_sound {ih : Ih R} (hi : IhOk P ih) {fn : Func} {f : Fr} {k : AV → AH → Option R} {res : R} : ∀ (df : List ADef) {H : AH}, leaveK P ih fn.results.toList f k df H = some res →
    ∃ v H', k v H' = some res ∧ H.nx ≤ H'.nx ∧ ∀ N m w (ts : Array Value) ds, H'.nx ≤ N → St N m H w → (∀ t, VRel m (f.get t) (ts.getD t undef)) → DRel m df ds → ∀ RR : Ending → World → Prop, (∀ m' u w', Stp m H w m' H' w' → St N m' H' w' → VRel m' v u → RR (.returned u) w') →
      LeavesInM Fence.wide 0 P fn ts RR ds .returning w
  | [], H, h => by
    unfold leaveK at h
    unfold retK at h
    split at h
    · rename_i vs hvs
      refine ⟨packA vs, H, h, Nat.le_refl _, fun N m w ts ds hN st hf hd RR hR => ?_⟩
      cases hd
      obtain ⟨u, hu, hr⟩ := results_run st.rel hf hvs
      exact ⟨u, hu, hR m u w .refl st hr⟩
    · cases h
  | .coll b :: df, H, h => by
    unfold leaveK at h
    dsimp only at h
    split at h
    · rename_i ho
      have ho := openAt_some ho
      obtain ⟨v, H', h1, n1, g⟩ := leaveK_sound hi df h
      refine ⟨v, H', h1, n1, fun N m w ts ds hN st hf hd RR hR => ?_⟩
      cases hd with
      | coll hb hd =>
        obtain ⟨w1, hrun, s1, st1⟩ := shut_run (P := P) st ho hb
        exact ⟨(by intro h; cases h), .inl ⟨_, w1, rfl, hrun, g N m w1 ts _ hN st1 hf hd RR fun m' u w' s st' hv => hR m' u w' (s1.trans s) st' hv⟩⟩
    · cases h
  | .call g cap args :: df, H, h => by
    unfold leaveK at h
    dsimp only at h
    obtain ⟨v0, H1, h1, hq⟩ := hi _ _ _ h
    have hq : H.nx ≤ H1.nx ∧ DCallS P g (app args cap) H H1 := hq
    obtain ⟨v, H', h2, n2, gg⟩ := leaveK_sound hi df h1
    refine ⟨v, H', h2, Nat.le_trans hq.1 n2, fun N m w ts ds hN st hf hd RR hR => ?_⟩
    cases hd with
    | call hc ha hd =>
      rename_i cap' args' ds'
      have hl : LRel m (app args cap) (args' ++ cap').toList := by rw [app_eq, Array.toList_append]; exact ha.append hc
      obtain ⟨hrun, hcall⟩ := hq.2 N m w _ (Nat.le_trans n2 hN) st hl
      refine ⟨(by intro h; cases h), .inr ⟨(by intro h; cases h), .func g, cap', g, args' ++ cap', rfl, ?_, fun _ _ => trivial, ?_⟩⟩
      · exact hrun
      · refine CallsDIn.mono hcall fun e u' w' he => ?_
        obtain ⟨⟨v', rfl⟩, rfl, m', s', st'⟩ := he
        exact gg N m' w' ts _ hN st' (fun t => (hf t).mono s'.ext) (hd.mono s'.ext) RR fun m2 u2 w2 s2 st2 hv2 => hR m2 u2 w2 (s'.trans s2) st2 hv2

/-! Functions -/
/-- The program names no function that the model takes for its own. -/
def Plain (P : Program) : Prop := ∀ (g : Nat) (fn : Func), P.funcs[g]? = some fn → fn.name ≠ "runtime.NumGoroutine"
theorem callFunc_enter (hp : Plain P) {g : FuncId} {fn : Func} {c : Code} (hg : P.funcs[g]? = some fn) (hb : fn.body = some c) (us : Array Value) (w : World) : (callFunc g us).run P w = .ok (.enter g us) w := by
  have h1 := hp g fn hg
  simp [callFunc, hg, h1, hb]
theorem funC_sound {ih : Ih R} (hi : IhOk P ih) (hp : Plain P) {g : FuncId} {fn : Func} {c : Code} {K : CodeK R} (hg : P.funcs[g]? = some fn) (hb : fn.body = some c) (hc : CodeOk P c K.run) {n : Nat} {args : List AV} {H : AH} {k : AV → AH → Option R} {res : R}
    (h : (funC P g fn.ntmps fn.results.toList K).run n ih args H k = some res) : ∃ v H', k v H' = some res ∧ H.nx ≤ H'.nx ∧ CallS P g args H v H' := by
  obtain ⟨K⟩ := K
  have h : frK g fn.ntmps args (fun f => K n ih f H (fun f H => leaveK P ih fn.results.toList f k f.df H) (bodyX P ih fn.results.toList k)) = some res := h
  obtain ⟨f, h1, hdf, hrd, hfr⟩ := frK_some h
  have main : ∀ (x : Ex) (f1 : Fr) (H1 : AH), (x = .normal ∨ x = .ret) → leaveK P ih fn.results.toList f1 k f1.df H1 = some res → CodeS P c f H x f1 H1 → ∃ v H', k v H' = some res ∧ H.nx ≤ H'.nx ∧ CallS P g args H v H' := by
    intro x f1 H1 hx hl hcode
    obtain ⟨v, H', h2, n2, gl⟩ := leaveK_sound (fn := fn) hi f1.df hl
    refine ⟨v, H', h2, Nat.le_trans hcode.1 n2, fun N m w us hN st hla => ⟨.enter g us, w, callFunc_enter hp hg hb us w, ?_⟩⟩
    refine callsIn_of_wp_marks hg hb trivial (hcode.2 N m w _ none (Nat.le_trans n2 hN) st (hfr m us hla) _ fun m1 a1 w1 s1 st1 fr1 => ?_) rfl
    have key := gl N m1 w1 a1.tmps a1.defers hN st1 fr1.ev fr1.df (fun e w' => ∃ u, e = .returned u ∧ Post N m H w v H' u w') fun m2 u w2 s2 st2 hv => ⟨u, rfl, m2, s1.trans s2, st2, hv⟩
    rcases hx with rfl | rfl
    · exact key
    · exact key
  rcases hc n ih hi f H _ _ res h1 with ⟨f1, H1, h2, g2⟩ | ⟨x1, f1, H1, hx, h2, g2⟩
  · exact main .normal f1 H1 (.inl rfl) h2 g2
  · unfold bodyX at h2
    split at h2
    · cases h2
    · rename_i hne
      cases x1 with
      | normal => exact absurd rfl hx
      | exit id => exact absurd rfl (hne id)
      | ret => exact main .ret f1 H1 (.inr rfl) h2 g2
theorem dfunC_sound {ih : Ih R} (hi : IhOk P ih) (hp : Plain P) {g : FuncId} {fn : Func} {c : Code} {K : CodeK R} (hg : P.funcs[g]? = some fn) (hb : fn.body = some c) (hc : CodeOk P c K.run) {n : Nat} {args : List AV} {H : AH} {k : AV → AH → Option R} {res : R}
    (h : (dfunC P g fn.ntmps fn.results.toList K).run n ih args H k = some res) : ∃ v H', k v H' = some res ∧ H.nx ≤ H'.nx ∧ DCallS P g args H H' := by
  obtain ⟨K⟩ := K
  have h : frK g fn.ntmps args (fun f => K n ih f H (fun f H => dbodyX P fn.results.toList k .normal f H) (dbodyX P fn.results.toList k)) = some res := h
  obtain ⟨f, h1, hdf, hrd, hfr⟩ := frK_some h
  have main : ∀ (x : Ex) (f1 : Fr) (H1 : AH), (x = .normal ∨ x = .ret) → dbodyX P fn.results.toList k x f1 H1 = some res → CodeS P c f H x f1 H1 → ∃ v H', k v H' = some res ∧ H.nx ≤ H'.nx ∧ DCallS P g args H H' := by
    intro x f1 H1 hx hl hcode
    unfold dbodyX at hl
    split at hl
    · cases hl
    · split at hl
      · rename_i hd1
        unfold retK at hl
        split at hl
        · rename_i vs hvs
          refine ⟨packA vs, H1, hl, hcode.1, fun N m w us hN st hla => ⟨callFunc_enter hp hg hb us w, ?_⟩⟩
          refine CallsDIn.mono (callsDIn_of_wp (R := fun e w' => (∃ v, e = .returned v) ∧ ∃ m', Stp m H w m' H1 w' ∧ St N m' H1 w') hg hb trivial (hcode.2 N m w _ none hN st (hfr m us hla) _ fun m1 a1 w1 s1 st1 fr1 => ?_) rfl) fun e u' w' he => ⟨he.2.1, he.1, he.2.2⟩
          obtain ⟨u, hu, _⟩ := results_run st1.rel fr1.ev hvs
          have hd : a1.defers = [] := by
            have := fr1.df
            rw [hd1] at this
            generalize a1.defers = ds at this ⊢
            cases this
            rfl
          rcases hx with rfl | rfl
          · exact ⟨hd, u, hu, ⟨u, rfl⟩, m1, s1, st1⟩
          · exact ⟨hd, u, hu, ⟨u, rfl⟩, m1, s1, st1⟩
        · cases hl
      · cases hl
  rcases hc n ih hi f H _ _ res h1 with ⟨f1, H1, h2, g2⟩ | ⟨x1, f1, H1, hx, h2, g2⟩
  · exact main .normal f1 H1 (.inl rfl) h2 g2
  · cases x1 with
    | normal => exact absurd rfl hx
    | exit id => cases h2
    | ret => exact main .ret f1 H1 (.inr rfl) h2 g2
end
end Go.Ev
