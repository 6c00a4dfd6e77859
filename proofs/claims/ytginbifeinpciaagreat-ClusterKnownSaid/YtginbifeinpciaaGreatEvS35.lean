/- Disk.settle, by its code. -/
import Derived.Test.YtginbifeinpciaaGreatEvS34
import Derived.Test.YtginbifeinpciaaGreatEvS24
namespace Go.Ev
open Go Go.RowKit Go.ChangeMaps

section
variable {P : Program}
theorem splice_some {α : Type} : ∀ (o : Nat) (vs l : List α), o + vs.length ≤ l.length → ∃ r, splice vs o l = some r
  | 0, vs, l, h => by
    have : ∀ (vs l : List α), vs.length ≤ l.length → ∃ r, over vs l = some r := by
      intro vs
      induction vs with
      | nil => intro l _; exact ⟨l, rfl⟩
      | cons v vs ih =>
        intro l h
        cases l with
        | nil => simp at h
        | cons a l =>
          obtain ⟨r, hr⟩ := ih l (by simpa using h)
          exact ⟨v :: r, by simp [over, hr]⟩
    exact this vs l (by simpa using h)
  | o + 1, vs, [], h => by simp at h
  | o + 1, vs, a :: l, h => by
    obtain ⟨r, hr⟩ := splice_some o vs l (by simp at h; omega)
    exact ⟨a :: r, by simp [splice, hr]⟩
theorem store1 {H : AH} {b o : Nat} {sl : Bool} {sz : Nat} {c : List AV} {v : AV} (hg : H.get b = some (.cells sl sz c)) (ho : o < c.length) (hv : v.one = true) :
    ∃ c', storeA H b o [v] = some (H.put b (.cells sl sz c')) ∧ c'.length = c.length ∧ ∀ i, c'[i]? = if i = o then some v else c[i]? := by
  obtain ⟨c', hc⟩ := splice_some o [v] c (by simp; omega)
  refine ⟨c', ?_, splice_length hc, fun i => ?_⟩
  · simp [storeA, ones, hv, hg, storeAt, hc, putCells]
  · rw [splice_get hc i]
    by_cases h : i = o
    · subst h; simp
    · rw [if_neg (by simp; omega), if_neg h]
theorem storeA_some {H H' : AH} {b o : Nat} {v : AV} {vs : List AV} (h : storeA H b o (v :: vs) = some H') : ∃ sl sz c c', H.get b = some (.cells sl sz c) ∧ splice (v :: vs) o c = some c' ∧ H' = H.put b (.cells sl sz c') ∧ ones (v :: vs) = true := by
  unfold storeA at h
  dsimp only at h
  split at h
  · rename_i ho
    unfold storeAt at h
    split at h
    · rename_i sl sz c hc
      unfold putCells at h
      split at h
      · rename_i c' hs
        injection h with h
        exact ⟨sl, sz, c, c', hc, hs, h.symm, ho⟩
      · cases h
    · cases h
  · cases h
theorem putM_new {k v : AV} {s : List UInt8} (hk : k = .str s) : ∀ {l : List (AV × AV)}, (∀ e ∈ l, e.1 ≠ k) → putM k v l = l ++ [(k, v)]
  | [], _ => rfl
  | e :: l, h => by
    have h1 : sbeq k e.1 = false := by
      cases hb : sbeq k e.1 with
      | false => rfl
      | true => exact absurd (sbeq_eq hb).symm (h e List.mem_cons_self)
    simp only [putM, h1]
    rw [putM_new hk fun x hx => h x (List.mem_cons_of_mem _ hx)]
    rfl
theorem allStr_mem : ∀ {l : List (AV × AV)}, allStr l = true → ∀ e ∈ l, ∃ s, e.1 = .str s
  | [], _, e, he => by cases he
  | x :: l, h, e, he => by
    obtain ⟨k, v⟩ := x
    unfold allStr at h
    split at h
    · rename_i s hs
      rcases List.mem_cons.1 he with rfl | he
      · exact ⟨s, hs⟩
      · exact allStr_mem h e he
    · cases h
theorem kdOk_str {k : AV} {s : List UInt8} (hk : k = .str s) {l : List (AV × AV)} (h : ∀ e ∈ l, ∃ s, e.1 = .str s) : kdOk k l = true := by
  cases l with
  | nil => rfl
  | cons e l =>
    obtain ⟨s', h1⟩ := h e List.mem_cons_self
    show sameKd k e.1 = true
    rw [hk, h1]
    rfl
theorem settle_some {args : List AV} {H H' : AH} {v : AV} (h : settleP args H = some (v, H')) : ∃ d, diskOf H args = some d ∧ allStr d.es = true ∧ H.nx + 1 < mH ∧
    storeA (H.grown (.map d.es)).bump d.b d.o [d.c0, .map H.nx, .map d.now, .snil, d.c4, d.c5] = some H' ∧ v = .tup [] := by
  unfold settleP settleD at h
  split at h
  · rename_i d hd
    split at h
    · rename_i hs
      unfold settleR at h
      split at h
      · split at h
        · rename_i hroom
          unfold settleH at h
          split at h
          · rename_i H2 hst
            injection h with h
            injection h with h1 h2
            subst h2
            exact ⟨d, hd, hs, AH.room_lt hroom, hst, h1.symm⟩
          · cases h
        · cases h
      · cases h
    · cases h
  · cases h
structure SettleShape (P : Program) (fn : Func) (tD tM tK tE tP : TypeId) : Prop where
  nt : fn.ntmps = 27
  res : fn.results.toList = []
  code : ∃ i0 i1 i2 i3 i4 i5 id0 id1 r0 r1 o1 o2 r3 r4 r5 zs, fn.body = some (.seq (.region i0 r0 false) (.seq (.seq (.region i1 r1 false) (.block id0 (.loop (.seq (.region i2 #[o1, o2] false) (.seq (.cond (.tmp 14) .skip (.exit id0)) (.block id1
      (.seq (.region i3 r3 false) (.region i4 r4 false)))))))) (.region i5 r5 false))) ∧
    r0.toList.map strip = [(some 4, .move (.tmp 0), none), (some 5, .makeMap tM zs, none), (some 6, .nilCheck (.tmp 4), none), (some 7, .fieldAddr tD (.tmp 6) 1, none), (none, .store tM (.tmp 7) (.tmp 5), none)] ∧
    zs = none ∧
    r1.toList.map strip = [(some 8, .move (.tmp 0), none), (some 9, .nilCheck (.tmp 8), none), (some 10, .fieldAddr tD (.tmp 9) 2, none), (some 11, .load tM (.tmp 10), none)] ++ [(some 12, .range tM (.tmp 11), none)] ∧
    strip o1 = (some 13, .next (.tmp 12) false, none) ∧ strip o2 = (some 14, .extract (.tmp 13) 0, none) ∧
    r3.toList.map strip = (some 15, .entry (.tmp 12), none) :: [(some 16, .extract (.tmp 15) 0, none), (some 17, .extract (.tmp 15) 1, none), (some 2, .assign (.tmp 16), none), (some 3, .assign (.tmp 17), none)] ∧
    r4.toList.map strip = [(some 18, .move (.tmp 0), none), (some 19, .nilCheck (.tmp 18), none), (some 20, .fieldAddr tD (.tmp 19) 1, none), (some 21, .load tM (.tmp 20), none), (some 22, .move (.tmp 2), none), (some 23, .move (.tmp 3), none), (none, .mapUpdate tM (.tmp 21) (.tmp 22) (.tmp 23), none)] ∧
    r5.toList.map strip = [(some 24, .move (.tmp 0), none), (some 25, .nilCheck (.tmp 24), none), (some 26, .fieldAddr tD (.tmp 25) 3, none), (none, .store tP (.tmp 26) (.const (.slice none 0 0)), none)]
  fld1 : fieldOff P (fieldOf 1 (P.underlying tD)) = some 1
  fld2 : fieldOff P (fieldOf 2 (P.underlying tD)) = some 2
  fld3 : fieldOff P (fieldOf 3 (P.underlying tD)) = some 3
  aggM : aggT P tM = some false
  mapM : P.underlying tM = some (.map tK tE)
  strK : P.underlying tK = some .string
  szM : sizeT P tM = some 1
  szP : sizeT P tP = some 1
theorem room_of {H : AH} (h : H.nx < mH) : H.room = true := Nat.ble_eq_true_of_le h
theorem settle_sound (hp : Plain P) {g : FuncId} {fn : Func} (hg : P.funcs[g]? = some fn) {tD tM tK tE tP : TypeId} (sh : SettleShape P fn tD tM tK tE tP) {args : List AV} {H H' : AH} {v : AV} (h : settleP args H = some (v, H')) :
    H.nx ≤ H'.nx ∧ CallS P g args H v H' := by
  obtain ⟨d, hd, hstr, hroom, hst, rfl⟩ := settle_some h
  obtain ⟨hargs, ⟨x1, x3, hload⟩, hc5, hnow⟩ := diskOf_some hd
  obtain ⟨i0, i1, i2, i3, i4, i5, id0, id1, r0, r1, o1, o2, r3, r4, r5, zs, hbody, e0, rfl, e1, q1, q2, e3, e4, e5⟩ := sh.code
  obtain ⟨sl, sz, c, c', hgb', hsp, hH', _⟩ := storeA_some hst
  have hnx' : H'.nx = H.nx + 2 := by rw [hH']; rfl
  refine ⟨by omega, walk_fn hp hg hbody (by rw [sh.nt]; omega) (by rw [hargs, sh.nt]; simp) fun N m w a f hN st fr hdf hrd hnt hget => ?_⟩
  have hnt : f.nt = 27 := hnt.trans sh.nt
  have hg0 : f.get 0 = .ptr d.b d.o := by rw [hget, hargs]; rfl
  have hvd : ∃ cd, m d.b = some cd := by
    have := fr.ev 0
    rw [hg0] at this
    generalize a.tmps.getD 0 undef = u at this
    cases this with
    | ptr hh => exact ⟨_, hh⟩
  obtain ⟨cd, hcd⟩ := hvd
  have hbm := (st.rel.dom _ _ hcd).1
  -- the block of the disk
  have hloadU := hload
  unfold loadA at hloadU
  split at hloadU
  · rename_i c0 hc0
    obtain ⟨sl0, sz0, hgb0⟩ := cellsOf_some hc0
    have hblt : d.b < H.nx := st.ok.lt hbm hgb0
    have hgrown : ∀ x j, j < mH → (H.grown x).get j = if j = H.nx then some x else H.get j := fun x j hj => AH.get_grown H x j (by omega) hj
    have hgb : H.get d.b = some (.cells sl sz c) := by
      rw [AH.get_bump, hgrown _ _ hbm, if_neg (by omega)] at hgb'
      exact hgb'
    have hcc : c0 = c := by
      rw [hgb0] at hgb
      injection hgb with hgb
      injection hgb
    subst hcc
    unfold inRange at hloadU
    split at hloadU
    · rename_i hle
      have hle : d.o + 6 ≤ c0.length := by have := Nat.le_of_ble_eq_true hle; rw [len_eq] at this; exact this
      injection hloadU with hcut
      rw [cut_eq] at hcut
      have hat : ∀ i, i < 6 → c0[d.o + i]? = [d.c0, x1, .map d.now, x3, d.c4, .bool d.down][i]? := fun i hi => by
        rw [← hcut, List.getElem?_take_of_lt hi, List.getElem?_drop]
      have hbnow : d.b ≠ d.now := by intro e; rw [e, hnow] at hgb; cases hgb
      -- the beginning
      obtain ⟨c1, hs1, hl1, hc1⟩ := store1 (H := H.grown (.map [])) (b := d.b) (o := d.o + 1) (v := .map H.nx) (by rw [hgrown _ _ hbm, if_neg (by omega)]; exact hgb) (by omega) rfl
      obtain ⟨H1, hH1⟩ : ∃ H1, H1 = (H.grown (.map [])).put d.b (.cells sl sz c1) := ⟨_, rfl⟩
      rw [← hH1] at hs1
      have nx1 : H1.nx = H.nx + 1 := by rw [hH1]; rfl
      have get1 : ∀ j, j < mH → H1.get j = if j = d.b then some (.cells sl sz c1) else if j = H.nx then some (.map []) else H.get j := fun j hj => by
        rw [hH1, AH.get_put _ _ _ _ hbm hj, hgrown _ _ hj]
      have hmk : opMakeMap H (optA f none) (P.underlying tM) = some (.val (.map H.nx) (H.grown (.map []))) := by
        rw [sh.mapM]
        show newA H (.map []) (fun b => .map b) = _
        unfold newA
        rw [room_of (by omega)]
      have hst1 : opStore P (H.grown (.map [])) tM (some (.map H.nx)) (some (.ptr d.b (d.o + 1))) = some (.val Ev.und H1) := by
        show storeN (H.grown (.map [])) d.b (d.o + 1) [.map H.nx] (sizeT P tM) = _
        rw [sh.szM]
        show hA Ev.und (storeA (H.grown (.map [])) d.b (d.o + 1) [.map H.nx]) = _
        rw [hs1]
        rfl
      have s0 : seqS P [(some 4, .move (.tmp 0), none), (some 5, .makeMap tM none, none), (some 6, .nilCheck (.tmp 4), none), (some 7, .fieldAddr tD (.tmp 6) 1, none), (none, .store tM (.tmp 7) (.tmp 5), none)] f H =
          some ((((f.putT 4 (.ptr d.b d.o)).putT 5 (.map H.nx)).putT 6 (.ptr d.b d.o)).putT 7 (.ptr d.b (d.o + 1)), H1) := by
        have hmk' : opMakeMap H (optA (f.putT 4 (.ptr d.b d.o)) none) (P.underlying tM) = some (.val (.map H.nx) (H.grown (.map []))) := hmk
        simp [seqS, opA, aev, vA, Fr.put_some, hnt, Fr.nt_putT, hg0, Fr.get_putT, opNilCheck, opFieldAddr, sh.fld1, ptrAdd, hmk', hst1]
        rfl
      refine wpIn_seq ((seqS_region e0 s0).2 N m w a none (by omega) st fr _ fun m2 a2 w2 s2 st2 fr2 => ?_)
      obtain ⟨f2, hf2⟩ : ∃ f2, f2 = (((f.putT 4 (.ptr d.b d.o)).putT 5 (.map H.nx)).putT 6 (.ptr d.b d.o)).putT 7 (.ptr d.b (d.o + 1)) := ⟨_, rfl⟩
      rw [← hf2] at fr2
      have g20 : f2.get 0 = .ptr d.b d.o := by rw [hf2]; simp [Fr.get_putT, hg0]
      have nt2 : f2.nt = 27 := by rw [hf2]; simp [Fr.nt_putT, hnt]
      have df2 : f2.df = [] := by rw [hf2]; exact hdf
      have hnowlt : d.now < mH := by
        rcases Nat.lt_or_ge d.now mH with h1 | h1
        · exact h1
        · exfalso
          obtain ⟨_, _, _, _, cs, e, lo, hi, _, _, _, hcells⟩ := st.rel.live d.b _ cd hgb hcd
          obtain ⟨u, _, hu⟩ := hcells (d.o + 2) (.map d.now) (hat 2 (by omega))
          cases hu with
          | map hh => have := (st.rel.dom _ _ hh).1; omega
      have hnowlt2 : d.now < H.nx := st.ok.lt hnowlt hnow
      have hnow1 : H1.get d.now = some (.map d.es) := by rw [get1 _ hnowlt, if_neg (Ne.symm hbnow), if_neg (by omega)]; exact hnow
      have ld2 : load1 H1 d.b (d.o + 2) = some (.map d.now) := by
        unfold load1
        rw [get1 _ hbm, if_pos rfl]
        show nth c1 (d.o + 2) = _
        rw [nth_eq, hc1, if_neg (by omega), hat 2 (by omega)]
        rfl
      have s1' : seqS P [(some 8, .move (.tmp 0), none), (some 9, .nilCheck (.tmp 8), none), (some 10, .fieldAddr tD (.tmp 9) 2, none), (some 11, .load tM (.tmp 10), none)] f2 H1 =
          some ((((f2.putT 8 (.ptr d.b d.o)).putT 9 (.ptr d.b d.o)).putT 10 (.ptr d.b (d.o + 2))).putT 11 (.map d.now), H1) := by
        simp [seqS, opA, aev, vA, Fr.put_some, nt2, Fr.nt_putT, g20, Fr.get_putT, opNilCheck, opFieldAddr, sh.fld2, ptrAdd, opLoad, loadVarA, sh.aggM, ld2]
      refine wpIn_seq (wpIn_seq ?_)
      refine range_regionS e1 s1' (es := d.es) (bm := d.now) (by simp [aev, Fr.get_putT]) hnow1 sh.mapM (by omega) (by simp [Fr.nt_putT, nt2]) (by omega) st2 fr2 _ ?_
      intro m3 w3 m4 a4 w4 it cb clock ces ps s3 st3 hcb hps hperm hbn ra
      have hdist : d.es.Pairwise (fun a b => a.1 ≠ b.1) := by
        obtain ⟨_, _, ces', _, _, hmo, _⟩ := st3.rel.mapAt hnow1 hcb
        obtain ⟨_, _, _, _, _, h5⟩ := mapOk_prs.1 hmo
        exact h5
      have nxk : (H1.kill d.now).bump.nx = H.nx + 2 := by rw [AH.nx_bump]; show H1.nx + 1 = _; omega
      have getk : ∀ j, j < mH → (H1.kill d.now).bump.get j = if j = d.now then none else H1.get j := fun j hj => by
        rw [AH.get_bump, AH.get_kill H1 d.now j hnowlt hj]
      have hnxm : H.nx < mH := by omega
      refine wpIn_block (wpIn_loopN (range_loop (id := i2) (o1 := o1) (o2 := o2) (ti := 12) (tn := 13) (tk := 14) (bid := id0) hbn hperm (congrArg (fun s : S3 => s.2.1) q1) (congrArg (fun s : S3 => s.1) q1) (congrArg (fun s : S3 => s.2.2) q1)
        (congrArg (fun s : S3 => s.2.1) q2) (congrArg (fun s : S3 => s.1) q2) (congrArg (fun s : S3 => s.2.2) q2) (by decide)
        (fun dn f' H' => H'.nx = H.nx + 2 ∧ (∀ j, j < mH → H'.get j = if j = H.nx then some (.map (dn.map (·.1))) else (H1.kill d.now).bump.get j) ∧ f'.get 0 = .ptr d.b d.o ∧ f'.get 12 = .ptr H1.nx 0 ∧ f'.nt = 27 ∧ f'.df = [])
        ?hI ?hB ps.length ps [] #[] m4 _ w4 _ a4 rfl ra ?hInv (by simp) (by simp) _ ?hEnd))
      case hI =>
        rintro dn f' H' ⟨hn', hgt, g0, g12, hnt', hdf'⟩
        exact ⟨g12, by rw [hnt']; omega, by rw [hnt']; omega, by omega, fun u1 u2 => ⟨hn', hgt, by simp [Fr.get_putT, g0], by simp [Fr.get_putT, g12], by simp [Fr.nt_putT, hnt'], by simp [Fr.df_putT, hdf']⟩⟩
      case hInv =>
        refine ⟨nxk, fun j hj => ?_, by simp [Fr.get_putT, g20], by simp [Fr.get_putT], by simp [Fr.nt_putT, nt2], by simp [Fr.df_putT, df2]⟩
        split
        · rename_i hj2
          subst hj2
          rw [getk _ hj, if_neg (by omega), get1 _ hj, if_neg (by omega), if_pos rfl]
          rfl
        · rfl
      case hB =>
        rintro dn p seen f' H' m' w' a' ra' ⟨hn', hgt, g0, g12, hnt', hdf'⟩ ⟨lp, hlp⟩ hent Q hQ
        refine wpIn_block (wpIn_seq ?_)
        have hr3 : seqS P [(some 16, .extract (.tmp 15) 0, none), (some 17, .extract (.tmp 15) 1, none), (some 2, .assign (.tmp 16), none), (some 3, .assign (.tmp 17), none)] (f'.putT 15 (.tup [p.1.1, p.1.2])) H' =
            some ((((((f'.putT 15 (.tup [p.1.1, p.1.2])).putT 16 p.1.1).putT 17 p.1.2).putT 2 p.1.1).putT 3 p.1.2), H') := by
          simp [seqS, opA, aev, vA, Fr.put_some, hnt', Fr.nt_putT, Fr.get_putT, opExtract, nth]
        have hp : p ∈ ps := hlp.subset (by simp)
        refine entry_region e3 hr3 (by omega) g12 ra'.itm (by rw [hnt']; omega) hent (ra'.prs p hp).1 (ra'.prs p hp).2 ra'.st ra'.fr _ fun m5 a5 w5 s5 st5 fr5 => ?_
        obtain ⟨f5, hf5⟩ : ∃ f5, f5 = ((((f'.putT 15 (.tup [p.1.1, p.1.2])).putT 16 p.1.1).putT 17 p.1.2).putT 2 p.1.1).putT 3 p.1.2 := ⟨_, rfl⟩
        rw [← hf5] at fr5
        have g50 : f5.get 0 = .ptr d.b d.o := by rw [hf5]; simp [Fr.get_putT, g0]
        have g52 : f5.get 2 = p.1.1 := by rw [hf5]; simp [Fr.get_putT]
        have g53 : f5.get 3 = p.1.2 := by rw [hf5]; simp [Fr.get_putT]
        have g512 : f5.get 12 = .ptr H1.nx 0 := by rw [hf5]; simp [Fr.get_putT, g12]
        have nt5 : f5.nt = 27 := by rw [hf5]; simp [Fr.nt_putT, hnt']
        have df5 : f5.df = [] := by rw [hf5]; simp [Fr.df_putT, hdf']
        have ld1 : load1 H' d.b (d.o + 1) = some (.map H.nx) := by
          unfold load1
          rw [hgt _ hbm, if_neg (by omega), getk _ hbm, if_neg hbnow, get1 _ hbm, if_pos rfl]
          show nth c1 (d.o + 1) = _
          rw [nth_eq, hc1, if_pos rfl]
        have hmem : ∀ e ∈ d.es, ∃ s, e.1 = .str s := allStr_mem hstr
        have hpe : p.1 ∈ d.es := by rw [← hps]; exact List.mem_map.2 ⟨p, hp, rfl⟩
        obtain ⟨s, hs⟩ := hmem _ hpe
        have hdn : ∀ e ∈ dn.map (·.1), e ∈ d.es := fun e he => by
          rw [← hps]
          obtain ⟨q, hq, rfl⟩ := List.mem_map.1 he
          exact List.mem_map.2 ⟨q, hlp.subset (by simp [hq]), rfl⟩
        have hd2 : ((dn ++ p :: lp).map (·.1)).Pairwise (fun a b => a.1 ≠ b.1) := by
          have := (hlp.map (·.1)).symm
          rw [hps] at this
          exact (this.pairwise_iff (fun {_ _} hne => Ne.symm hne)).1 hdist
        have hnew : ∀ e ∈ dn.map (·.1), e.1 ≠ p.1.1 := fun e he => by
          rw [List.map_append, List.pairwise_append] at hd2
          exact hd2.2.2 e he p.1 (by simp)
        have hup : opUpdate P H' tM (some p.1.2) (some (.map H.nx)) (some p.1.1) = some (.val Ev.und (H'.put H.nx (.map ((dn ++ [p]).map (·.1))))) := by
          show hA Ev.und (updateA P tM (.map H.nx) p.1.1 p.1.2 H') = _
          unfold updateA mapDo
          rw [sh.mapM]
          have hkey : keyA p.1.1 (P.underlying tK) = true := by rw [sh.strK, hs]; rfl
          show hA Ev.und (match keyA p.1.1 (P.underlying tK) with
            | true => mapPut H' H.nx p.1.1 (putM p.1.1 p.1.2) (entriesOf (H'.get H.nx))
            | false => none) = _
          rw [hkey, hgt _ hnxm, if_pos rfl]
          show hA Ev.und (match kdOk p.1.1 (dn.map (·.1)) with
            | true => some (H'.put H.nx (.map (putM p.1.1 p.1.2 (dn.map (·.1)))))
            | false => none) = _
          rw [kdOk_str hs fun e he => hmem e (hdn e he), putM_new hs hnew, List.map_append]
          rfl
        have hr4 : seqS P [(some 18, .move (.tmp 0), none), (some 19, .nilCheck (.tmp 18), none), (some 20, .fieldAddr tD (.tmp 19) 1, none), (some 21, .load tM (.tmp 20), none), (some 22, .move (.tmp 2), none), (some 23, .move (.tmp 3), none), (none, .mapUpdate tM (.tmp 21) (.tmp 22) (.tmp 23), none)] f5 H' =
            some ((((((f5.putT 18 (.ptr d.b d.o)).putT 19 (.ptr d.b d.o)).putT 20 (.ptr d.b (d.o + 1))).putT 21 (.map H.nx)).putT 22 p.1.1).putT 23 p.1.2, H'.put H.nx (.map ((dn ++ [p]).map (·.1)))) := by
          simp only [seqS, opA, aev, vA, Fr.put_some, nt5, Fr.nt_putT, g50, g52, g53, Fr.get_putT, opNilCheck, opFieldAddr, sh.fld1, ptrAdd, opLoad, loadVarA, sh.aggM, ld1, hup, Nat.reduceLT, Nat.reduceEqDiff, if_true, if_false, Nat.add_eq]
          simp [Fr.put]
        refine (seqS_region e4 hr4).2 N m5 w5 a5 none (by show H'.nx ≤ N; omega) st5 fr5 _ fun m6 a6 w6 s6 st6 fr6 => ?_
        refine hQ m6 a6 w6 _ _ (s5.trans s6) st6 fr6 ⟨hn', fun j hj => ?_, by simp [Fr.get_putT, g50], by simp [Fr.get_putT, g512], by simp [Fr.nt_putT, nt5], by simp [Fr.df_putT, df5]⟩
        rw [AH.get_put _ _ _ _ hnxm hj]
        split
        · rfl
        · rename_i hj2
          rw [hgt _ hj, if_neg hj2]
      case hEnd =>
        rintro dn' m5 H5 w5 f5 a5 seen5 hp5 ra5 ⟨hn5, hgt, g0, g12, nt5, df5⟩
        show Exit.inBlock id0 _ (.exit id0) a5 w5
        simp only [Exit.inBlock, if_true]
        obtain ⟨s6, st6⟩ := unhide st3 hnow1 hcb ra5.stp ra5.st
        have get6 : ∀ j, j < mH → (H5.put d.now (.map d.es)).get j = if j = d.now then some (.map d.es) else if j = H.nx then some (.map (dn'.map (·.1))) else H1.get j := fun j hj => by
          rw [AH.get_put _ _ _ _ hnowlt hj, hgt _ hj, getk _ hj]
          split
          · rfl
          · split
            · rfl
            · rfl
        have hb6 : (H5.put d.now (.map d.es)).get d.b = some (.cells sl sz c1) := by
          rw [get6 _ hbm, if_neg hbnow, if_neg (by omega), get1 _ hbm, if_pos rfl]
        obtain ⟨c2, hs2, hl2, hc2⟩ := store1 (o := d.o + 3) (v := .snil) hb6 (by omega) rfl
        have hst3 : opStore P (H5.put d.now (.map d.es)) tP (some .snil) (some (.ptr d.b (d.o + 3))) = some (.val Ev.und ((H5.put d.now (.map d.es)).put d.b (.cells sl sz c2))) := by
          show storeN (H5.put d.now (.map d.es)) d.b (d.o + 3) [.snil] (sizeT P tP) = _
          rw [sh.szP]
          show hA Ev.und (storeA (H5.put d.now (.map d.es)) d.b (d.o + 3) [.snil]) = _
          rw [hs2]
          rfl
        have hr5 : seqS P [(some 24, .move (.tmp 0), none), (some 25, .nilCheck (.tmp 24), none), (some 26, .fieldAddr tD (.tmp 25) 3, none), (none, .store tP (.tmp 26) (.const (.slice none 0 0)), none)] f5 (H5.put d.now (.map d.es)) =
            some (((f5.putT 24 (.ptr d.b d.o)).putT 25 (.ptr d.b d.o)).putT 26 (.ptr d.b (d.o + 3)), (H5.put d.now (.map d.es)).put d.b (.cells sl sz c2)) := by
          simp [seqS, opA, aev, vA, convZ, conv, Fr.put_some, nt5, Fr.nt_putT, g0, Fr.get_putT, opNilCheck, opFieldAddr, sh.fld3, ptrAdd, hst3]
          rfl
        refine (seqS_region e5 hr5).2 N m5 w5 a5 none (by show H5.nx ≤ N; omega) st6 ra5.fr _ fun m8 a8 w8 s8 st8 fr8 => ?_
        have hcc' : c' = c2 := by
          apply List.ext_getElem?
          intro i
          rw [splice_get hsp i, hc2 i, hc1 i]
          by_cases hi : d.o ≤ i ∧ i < d.o + 6
          · rw [if_pos (by simpa using hi)]
            obtain ⟨k, rfl⟩ : ∃ k, i = d.o + k := ⟨i - d.o, by omega⟩
            have hk : k < 6 := by omega
            rw [Nat.add_sub_cancel_left, hat k hk]
            match k, hk with
            | 0, _ => rw [if_neg (by omega), if_neg (by omega)]; rfl
            | 1, _ => rw [if_neg (by omega), if_pos rfl]; rfl
            | 2, _ => rw [if_neg (by omega), if_neg (by omega)]; rfl
            | 3, _ => rw [if_pos rfl]; rfl
            | 4, _ => rw [if_neg (by omega), if_neg (by omega)]; rfl
            | 5, _ => rw [if_neg (by omega), if_neg (by omega)]; simp [hc5]
          · rw [if_neg (by simpa using hi), if_neg (by omega), if_neg (by omega)]
        have hsim : HSim ((H5.put d.now (.map d.es)).put d.b (.cells sl sz c2)) H' := by
          refine ⟨by rw [hnx']; exact hn5.symm, fun j hj => ?_⟩
          rw [AH.get_put _ _ _ _ hbm hj, get6 _ hj, hH', AH.get_put _ _ _ _ hbm hj, AH.get_bump, hgrown _ _ hj, hcc']
          by_cases h1 : j = d.b
          · left; rw [if_pos h1, if_pos h1]
          · rw [if_neg h1, if_neg h1]
            by_cases h2 : j = d.now
            · left; rw [if_pos h2, if_neg (by omega), h2]; exact hnow
            · rw [if_neg h2]
              by_cases h3 : j = H.nx
              · right
                rw [if_pos h3, if_pos h3]
                exact ⟨_, _, rfl, rfl, by rw [← hps]; exact hp5.map _⟩
              · left
                rw [if_neg h3, if_neg h3, get1 _ hj, if_neg h1, if_neg h3]
        obtain ⟨s9, st9⟩ := same_heap ((s2.trans s3).trans (s6.trans s8)) st8 hsim
        exact ⟨.inl rfl, m8, _, [], s9, st9, fr8, by simp [Fr.df_putT, df5], by rw [sh.res]; rfl, rfl⟩
    · cases hloadU
  · cases hloadU
end
end Go.Ev
