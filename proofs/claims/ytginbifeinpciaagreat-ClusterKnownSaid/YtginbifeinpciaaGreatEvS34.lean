/- Disk.Used, by its code. -/
import Derived.Test.YtginbifeinpciaaGreatEvS33
namespace Go.Ev
open Go Go.RowKit Go.ChangeMaps

section
variable {P : Program}
theorem used_sound (hp : Plain P) {g : FuncId} {fn : Func} (hg : P.funcs[g]? = some fn) {tD tM tB tI tS tK tE tL : TypeId} (sh : UsedShape P fn tD tM tB tI tS tK tE tL) {args : List AV} {H H' : AH} {v : AV} (h : usedP args H = some (v, H')) :
    H.nx ≤ H'.nx ∧ CallS P g args H v H' := by
  obtain ⟨d, n, hd, htot, hn, hroom, rfl, rfl⟩ := used_some h
  obtain ⟨hargs, ⟨c1, c3, hload⟩, hc5, hnow⟩ := diskOf_some hd
  obtain ⟨i0, i1, i2, i3, i4, i5, i6, i7, id0, id1, r0, r1, r2, o1, o2, r4, r5, r6, r7, hbody, e0, e1, e2, q1, q2, e4, e5, e6, e7⟩ := sh.code
  refine ⟨by rw [AH.nx_bump]; omega, walk_fn hp hg hbody (by rw [sh.nt]; omega) (by rw [hargs, sh.nt]; simp) fun N m w a f hN st fr hdf hrd hnt hget => ?_⟩
  rw [AH.nx_bump] at hN
  have hnt : f.nt = 25 := hnt.trans sh.nt
  have hg0 : f.get 0 = .ptr d.b d.o := by rw [hget, hargs]; rfl
  -- the beginning
  have s0 : seqS P [(some 2, .assign (.const (goInt 0)), none)] f H = some (f.putT 2 (nA 0), H) := by
    simp [seqS, opA, aev, convZ, conv, goInt, vA, nA, Fr.put_some, hnt]
  refine wpIn_seq ((seqS_region e0 s0).2 N m w a none (by omega) st fr _ fun m1 a1 w1 s1 st1 fr1 => ?_)
  have s1' : seqS P [(some 3, .assign (.const (goInt 0)), none)] (f.putT 2 (nA 0)) H = some ((f.putT 2 (nA 0)).putT 3 (nA 0), H) := by
    simp [seqS, opA, aev, convZ, conv, goInt, vA, nA, Fr.put_some, hnt, Fr.nt_putT]
  refine wpIn_seq ((seqS_region e1 s1').2 N m1 w1 a1 none (by omega) st1 fr1 _ fun m2 a2 w2 s2 st2 fr2 => ?_)
  have ld2 : load1 H d.b (d.o + 2) = some (.map d.now) := load_nth hload rfl
  have ld5 : load1 H d.b (d.o + 5) = some (.bool d.down) := load_nth hload rfl
  obtain ⟨f2, hf2⟩ : ∃ f2, f2 = (f.putT 2 (nA 0)).putT 3 (nA 0) := ⟨_, rfl⟩
  have g20 : f2.get 0 = .ptr d.b d.o := by rw [hf2]; simp [Fr.get_putT, hg0]
  have g23 : f2.get 3 = nA 0 := by rw [hf2]; simp [Fr.get_putT]
  have nt2 : f2.nt = 25 := by rw [hf2]; simp [Fr.nt_putT, hnt]
  have df2 : f2.df = [] := by rw [hf2]; exact hdf
  rw [← hf2] at fr2
  have s2' : seqS P [(some 6, .move (.tmp 0), none), (some 7, .nilCheck (.tmp 6), none), (some 8, .fieldAddr tD (.tmp 7) 2, none), (some 9, .load tM (.tmp 8), none)] f2 H =
      some ((((f2.putT 6 (.ptr d.b d.o)).putT 7 (.ptr d.b d.o)).putT 8 (.ptr d.b (d.o + 2))).putT 9 (.map d.now), H) := by
    simp [seqS, opA, aev, vA, Fr.put_some, nt2, Fr.nt_putT, g20, Fr.get_putT, opNilCheck, opFieldAddr, sh.fld2, ptrAdd, opLoad, loadVarA, sh.aggM, ld2]
  refine wpIn_seq (wpIn_seq ?_)
  refine range_regionS e2 s2' (es := d.es) (bm := d.now) (by simp [aev, Fr.get_putT]) hnow sh.mapM hroom (by simp [Fr.nt_putT, nt2]) (by omega) st2 fr2 _ ?_
  intro m3 w3 m4 a4 w4 it cb clock ces ps s3 st3 hcb hps hperm hbn ra
  -- the loop
  have hbnow : d.b ≠ d.now := by
    intro e
    have hl := hload
    unfold loadA at hl
    rw [e, hnow] at hl
    cases hl
  have hvd : ∃ cd, m3 d.b = some cd := by
    have := fr2.ev 0
    rw [g20] at this
    generalize a2.tmps.getD 0 undef = u at this
    cases this with
    | ptr hh => exact ⟨_, s3.ext _ _ hh⟩
  obtain ⟨cd, hcd⟩ := hvd
  have hbm := (st3.rel.dom _ _ hcd).1
  have hnowm := (st3.rel.dom _ _ hcb).1
  have hkill : (H.kill d.now).bump.get d.b = H.get d.b := by
    rw [AH.get_bump, AH.get_kill H d.now d.b hnowm hbm, if_neg hbnow]
  have ld5' : load1 (H.kill d.now).bump d.b (d.o + 5) = some (.bool d.down) := by rw [load1_same hkill]; exact ld5
  have hpt : tot d.down (ps.map (·.1)) = some n := by rw [hps]; exact htot
  refine wpIn_block (wpIn_loopN (range_loop (id := i3) (o1 := o1) (o2 := o2) (ti := 10) (tn := 11) (tk := 12) (bid := id0) hbn hperm (congrArg (fun s : S3 => s.2.1) q1) (congrArg (fun s : S3 => s.1) q1) (congrArg (fun s : S3 => s.2.2) q1)
    (congrArg (fun s : S3 => s.2.1) q2) (congrArg (fun s : S3 => s.1) q2) (congrArg (fun s : S3 => s.2.2) q2) (by decide)
    (fun dn f' H' => H' = (H.kill d.now).bump ∧ f'.get 0 = .ptr d.b d.o ∧ f'.get 10 = .ptr H.nx 0 ∧ (∃ k, tot d.down (dn.map (·.1)) = some k ∧ f'.get 3 = nA k) ∧ f'.nt = 25 ∧ f'.df = [])
    ?hI ?hB ps.length ps [] #[] m4 _ w4 _ a4 rfl ra ?hInv (by simp) (by simp) _ ?hEnd))
  case hI =>
    rintro dn f' H' ⟨rfl, g0, g10, ⟨k, hk, g3⟩, hnt', hdf'⟩
    refine ⟨g10, by rw [hnt']; omega, by rw [hnt']; omega, ?_, fun u1 u2 => ⟨rfl, by simp [Fr.get_putT, g0], by simp [Fr.get_putT, g10], ⟨k, hk, by simp [Fr.get_putT, g3]⟩, by simp [Fr.nt_putT, hnt'], by simp [Fr.df_putT, hdf']⟩⟩
    show H.nx + 1 ≤ N
    exact hN
  case hInv =>
    refine ⟨rfl, by simp [Fr.get_putT, g20], by simp [Fr.get_putT], ⟨0, ?_, by simp [Fr.get_putT, g23]⟩, by simp [Fr.nt_putT, nt2], by simp [Fr.df_putT, df2]⟩
    cases d.down <;> rfl
  case hB =>
    rintro dn p seen f' H' m' w' a' ra' ⟨rfl, g0, g10, ⟨k, hk, g3⟩, hnt', hdf'⟩ ⟨lp, hlp⟩ hent Q hQ
    have hN' : (H.kill d.now).bump.nx ≤ N := hN
    refine wpIn_block (wpIn_seq ?_)
    have hr4 : seqS P [(some 14, .extract (.tmp 13) 1, none), (some 5, .assign (.tmp 14), none)] (f'.putT 13 (.tup [p.1.1, p.1.2])) (H.kill d.now).bump = some ((((f'.putT 13 (.tup [p.1.1, p.1.2])).putT 14 p.1.2).putT 5 p.1.2), (H.kill d.now).bump) := by
      simp [seqS, opA, aev, vA, Fr.put_some, hnt', Fr.nt_putT, Fr.get_putT, opExtract, nth]
    have hp : p ∈ ps := hlp.subset (by simp)
    refine entry_region e4 hr4 hN' g10 ra'.itm (by rw [hnt']; omega) hent (ra'.prs p hp).1 (ra'.prs p hp).2 ra'.st ra'.fr _ fun m5 a5 w5 s5 st5 fr5 => ?_
    obtain ⟨f5, hf5⟩ : ∃ f5, f5 = (((f'.putT 13 (.tup [p.1.1, p.1.2])).putT 14 p.1.2).putT 5 p.1.2) := ⟨_, rfl⟩
    rw [← hf5] at fr5
    have g50 : f5.get 0 = .ptr d.b d.o := by rw [hf5]; simp [Fr.get_putT, g0]
    have g53 : f5.get 3 = nA k := by rw [hf5]; simp [Fr.get_putT, g3]
    have g55 : f5.get 5 = p.1.2 := by rw [hf5]; simp [Fr.get_putT]
    have g510 : f5.get 10 = .ptr H.nx 0 := by rw [hf5]; simp [Fr.get_putT, g10]
    have nt5 : f5.nt = 25 := by rw [hf5]; simp [Fr.nt_putT, hnt']
    have df5 : f5.df = [] := by rw [hf5]; simp [Fr.df_putT, hdf']
    have hr5 : seqS P [(some 15, .move (.tmp 0), none), (some 16, .nilCheck (.tmp 15), none), (some 17, .fieldAddr tD (.tmp 16) 5, none), (some 18, .load tB (.tmp 17), none), (some 19, .unOp .not tB (.tmp 18), none)] f5 (H.kill d.now).bump =
        some (((((f5.putT 15 (.ptr d.b d.o)).putT 16 (.ptr d.b d.o)).putT 17 (.ptr d.b (d.o + 5))).putT 18 (.bool d.down)).putT 19 (.bool (!d.down)), (H.kill d.now).bump) := by
      simp [seqS, opA, aev, vA, Fr.put_some, nt5, Fr.nt_putT, g50, Fr.get_putT, opNilCheck, opFieldAddr, sh.fld5, ptrAdd, opLoad, loadVarA, sh.aggB, ld5', opUn, unA]
    refine wpIn_seq ((seqS_region e5 hr5).2 N m5 w5 a5 none hN' st5 fr5 _ fun m6 a6 w6 s6 st6 fr6 => ?_)
    obtain ⟨f6, hf6⟩ : ∃ f6, f6 = ((((f5.putT 15 (.ptr d.b d.o)).putT 16 (.ptr d.b d.o)).putT 17 (.ptr d.b (d.o + 5))).putT 18 (.bool d.down)).putT 19 (.bool (!d.down)) := ⟨_, rfl⟩
    rw [← hf6] at fr6
    have g60 : f6.get 0 = .ptr d.b d.o := by rw [hf6]; simp [Fr.get_putT, g50]
    have g63 : f6.get 3 = nA k := by rw [hf6]; simp [Fr.get_putT, g53]
    have g65 : f6.get 5 = p.1.2 := by rw [hf6]; simp [Fr.get_putT, g55]
    have g610 : f6.get 10 = .ptr H.nx 0 := by rw [hf6]; simp [Fr.get_putT, g510]
    have g619 : f6.get 19 = .bool (!d.down) := by rw [hf6]; simp [Fr.get_putT]
    have nt6 : f6.nt = 25 := by rw [hf6]; simp [Fr.nt_putT, nt5]
    have df6 : f6.df = [] := by rw [hf6]; simp [Fr.df_putT, df5]
    have hc : a6.eval (.tmp 19) = .bool (!d.down) := by
      have := aev_rel fr6.ev (x := .tmp 19) rfl
      rw [g619] at this
      generalize a6.eval (.tmp 19) = u at this
      cases this
      rfl
    cases hdown : d.down with
    | true =>
      rw [hdown] at hc hk
      refine wpIn_cond_false hc (wpIn_skip (hQ m6 a6 w6 f6 _ (s5.trans s6) st6 fr6 ⟨rfl, g60, g610, ⟨0, by rw [hdown]; rfl, ?_⟩, nt6, df6⟩))
      have hk : some 0 = some k := hk
      injection hk with hk
      rw [hk]; exact g63
    | false =>
      rw [hdown] at hc hk hpt
      have hall := lens_perm (hlp.symm.map (·.1)) (show lens (ps.map (·.1)) = some n from hpt)
      rw [List.map_append, List.map_cons] at hall
      obtain ⟨x, y, hx, hy, hxy⟩ := lens_append hall
      have hx' : some k = some x := hk.symm.trans hx
      injection hx' with hx'
      subst hx'
      obtain ⟨x2, y2, hx2, hy2, hxy2⟩ := lens_append (l1 := [p.1]) (l2 := lp.map (·.1)) (show lens ([p.1] ++ lp.map (·.1)) = some y from hy)
      have hlen : lenA P p.1.2 (H.kill d.now).bump (P.underlying tS) = some (nA x2) := by
        rw [sh.slS]
        have hx2 : stepL p.1.2 (some 0) = some x2 := hx2
        unfold stepL at hx2
        split at hx2
        · rename_i hv
          simp only [addO] at hx2
          injection hx2 with hx2
          rw [hv]
          show some (nA _) = _
          rw [← hx2]
          rfl
        · rename_i hv
          injection hx2 with hx2
          rw [hv, ← hx2]
          rfl
        · cases hx2
      have hadd : binA P .add tI (nA k) (nA x2) = some (nA (k + x2)) := by
        show some (AV.int .i64 (wr .i64 (Int.add (.ofNat k) (.ofNat x2)))) = _
        have : Int.add (.ofNat k) (.ofNat x2) = .ofNat (k + x2) := rfl
        rw [this]
        unfold wr
        have h3 : Nat.ble (top .i64) (k + x2) = false := by
          cases hb : Nat.ble (top .i64) (k + x2) with
          | false => rfl
          | true =>
            have : 9223372036854775808 ≤ k + x2 := Nat.le_of_ble_eq_true hb
            omega
        simp only [h3]
        rfl
      have hr6 : seqS P [(some 20, .move (.tmp 3), none), (some 21, .move (.tmp 5), none), (some 22, .call ⟨.builtin .len, #[.tmp 21], #[tS]⟩, none), (some 23, .binOp .add tI (.tmp 20) (.tmp 22) tI, none), (some 3, .assign (.tmp 23), none)] f6 (H.kill d.now).bump =
          some (((((f6.putT 20 (nA k)).putT 21 p.1.2).putT 22 (nA x2)).putT 23 (nA (k + x2))).putT 3 (nA (k + x2)), (H.kill d.now).bump) := by
        simp [seqS, opA, aev, aevs, consO, vA, Fr.put_some, nt6, Fr.nt_putT, g63, g65, Fr.get_putT, opCall, opCallee, builtinA, builtinR, builtin1, hlen, opBin, hadd]
      refine wpIn_cond_true hc ((seqS_region e6 hr6).2 N m6 w6 a6 none hN' st6 fr6 _ fun m7 a7 w7 s7 st7 fr7 => ?_)
      refine hQ m7 a7 w7 _ _ ((s5.trans s6).trans s7) st7 fr7 ⟨rfl, by simp [Fr.get_putT, g60], by simp [Fr.get_putT, g610], ⟨k + x2, ?_, by simp [Fr.get_putT]⟩, by simp [Fr.nt_putT, nt6], by simp [Fr.df_putT, df6]⟩
      rw [hdown, List.map_append]
      exact lens_join hx hx2
  case hEnd =>
    rintro dn' m5 H5 w5 f5 a5 seen5 hp5 ra5 ⟨rfl, g0, g10, ⟨k, hk, g3⟩, nt5, df5⟩
    have hkn : k = n := by
      have h1 : tot d.down (dn'.map (·.1)) = some n := by
        cases hdown : d.down with
        | true => rw [hdown] at hpt; exact hpt
        | false => rw [hdown] at hpt; exact lens_perm (hp5.symm.map (·.1)) (show lens (ps.map (·.1)) = some n from hpt)
      rw [hk] at h1
      injection h1
    subst hkn
    show Exit.inBlock id0 _ (.exit id0) a5 w5
    simp only [Exit.inBlock, if_true]
    obtain ⟨s6, st6⟩ := unhide st3 hnow hcb ra5.stp ra5.st
    have hsim : HSim ((H.kill d.now).bump.put d.now (.map d.es)) H.bump := by
      refine ⟨rfl, fun b hb => .inl ?_⟩
      rw [AH.get_put _ _ _ _ hnowm hb, AH.get_bump, AH.get_bump, AH.get_kill H _ _ hnowm hb]
      split
      · rename_i hbn; rw [hbn]; exact hnow
      · rfl
    obtain ⟨s7, st7⟩ := same_heap s6 st6 hsim
    have hr7 : seqS P [(some 24, .move (.tmp 3), none), (some 2, .assign (.tmp 24), none)] f5 H.bump = some ((f5.putT 24 (nA k)).putT 2 (nA k), H.bump) := by
      simp [seqS, opA, aev, vA, Fr.put_some, nt5, Fr.nt_putT, g3, Fr.get_putT]
    refine wpIn_seq ((seqS_region e7 hr7).2 N m5 w5 a5 none hN st7 ra5.fr _ fun m8 a8 w8 s8 st8 fr8 => wpIn_ret ⟨.inr rfl, m8, _, [nA k], ((s1.trans s2).trans s3).trans (s7.trans s8), st8, fr8, by simp [Fr.df_putT, df5], ?_, rfl⟩)
    rw [sh.res]
    simp [resA, res1, consO, Fr.get_putT]
end
end Go.Ev
