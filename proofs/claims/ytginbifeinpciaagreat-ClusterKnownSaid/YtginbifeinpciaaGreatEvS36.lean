/- Disk.Names, of a disk with no file or with one, by its code. -/
import Derived.Test.YtginbifeinpciaaGreatEvS35
namespace Go.Ev
open Go Go.RowKit Go.ChangeMaps

section
variable {P : Program}
/-- A region that ends with a call. -/
theorem call_region {id : Nat} {ops : Array Oper} {l : List S3} {c : Call} {dst : Option Tmp} {g : FuncId} {args : List AV} {f f1 f' : Fr} {H H1 H' : AH} {v : AV} (hops : ops.toList.map strip = l ++ [(dst, .call c, none)]) (hseq : seqS P l f H = some (f1, H1))
    (har : opA P f1 H1 (.call c) = some (.enter g args)) (hn : H1.nx ≤ H'.nx) (hcall : CallS P g args H1 v H') (hput : f1.put dst v = some f') : CodeS P (.region id ops false) f H .normal f' H' := by
  obtain ⟨l1, l2, h1, h2, h3⟩ := List.map_eq_append_iff.1 hops
  obtain ⟨o, h4, h5⟩ := List.map_eq_singleton_iff.1 h3
  subst h4
  have e1 : o.op = .call c := congrArg (fun s : S3 => s.2.1) h5
  have e2 : o.guard = none := congrArg (fun s : S3 => s.2.2) h5
  have e3 : o.dst = dst := congrArg (fun s : S3 => s.1) h5
  have hs := seqA_sound (P := P) (ops := ops) l1 (by rw [seqA_strip, h2]; exact hseq)
  refine ⟨Nat.le_trans hs.1 hn, fun N m w a r hN st fr Q hQ => wpIn_region ?_⟩
  have hlen : List.range ops.size = List.range' 0 (l1.length + [o].length) := by
    rw [List.range_eq_range', ← Array.length_toList, h1, List.length_append]
  rw [hlen]
  refine hs.2 [] [o] (by simp [h1]) N m w a r (by omega) st fr Q fun m1 a1 w1 s1 st1 fr1 => ?_
  have hd : ∀ c, o.op ≠ .defer c := by rw [e1]; intro c h; cases h
  have hop : OperS P o f1 H1 f' H' := operS_of hd (by rw [e3]; exact hput) (opS_of (ar := .enter g args) (v := v) hd (by rw [e1]; exact har) (show H1.nx ≤ H'.nx ∧ CallS P g args H1 v H' from ⟨hn, hcall⟩))
  refine wpOps_step (by rw [← Array.getElem?_toList, h1]; simp) e2 (hop.2 N m1 w1 a1 r hN st1 fr1 _ Q fun m2 a2 w2 s2 st2 fr2 => ?_)
  exact hQ m2 a2 w2 (s1.trans s2) st2 fr2
structure NamesShape (P : Program) (fn : Func) (tD tM tB tK tE tL : TypeId) (gS : FuncId) : Prop where
  nt : fn.ntmps = 26
  res : fn.results.toList = [.tmp 2]
  code : ∃ i0 i1 i2 i3 i4 i5 i6 i7 i8 id0 id1 r0 r1 r2 o1 o2 r4 r5 r6 r7 r8 ts, fn.body = some (.seq (.region i0 r0 false) (.seq (.region i1 r1 false) (.seq (.seq (.region i2 r2 false) (.block id0 (.loop (.seq (.region i3 #[o1, o2] false) (.seq (.cond (.tmp 11) .skip (.exit id0)) (.block id1
      (.seq (.region i4 r4 false) (.seq (.region i5 r5 false) (.cond (.tmp 18) (.region i6 r6 false) .skip))))))))) (.seq (.region i7 r7 false) (.seq (.region i8 r8 false) .ret))))) ∧
    r0.toList.map strip = [(some 2, .assign (.const (.slice none 0 0)), none)] ∧ r1.toList.map strip = [(some 3, .assign (.const (.slice none 0 0)), none)] ∧
    r2.toList.map strip = [(some 5, .move (.tmp 0), none), (some 6, .nilCheck (.tmp 5), none), (some 7, .fieldAddr tD (.tmp 6) 2, none), (some 8, .load tM (.tmp 7), none)] ++ [(some 9, .range tM (.tmp 8), none)] ∧
    strip o1 = (some 10, .next (.tmp 9) false, none) ∧ strip o2 = (some 11, .extract (.tmp 10) 0, none) ∧
    r4.toList.map strip = (some 12, .entry (.tmp 9), none) :: [(some 13, .extract (.tmp 12) 0, none), (some 4, .assign (.tmp 13), none)] ∧
    r5.toList.map strip = [(some 14, .move (.tmp 0), none), (some 15, .nilCheck (.tmp 14), none), (some 16, .fieldAddr tD (.tmp 15) 5, none), (some 17, .load tB (.tmp 16), none), (some 18, .unOp .not tB (.tmp 17), none)] ∧
    r6.toList.map strip = [(some 19, .move (.tmp 3), none), (some 20, .move (.tmp 4), none), (some 21, .buildSlice tL 1 #[(0, .tmp 20)], none), (some 22, .call ⟨.builtin .append, #[.tmp 19, .tmp 21], #[tL, tL]⟩, none), (some 3, .assign (.tmp 22), none)] ∧
    r7.toList.map strip = [(some 23, .move (.tmp 3), none)] ++ [(some 24, .call ⟨.value (.func gS), #[.tmp 23], ts⟩, none)] ∧
    r8.toList.map strip = [(some 25, .move (.tmp 3), none), (some 2, .assign (.tmp 25), none)]
  fld2 : fieldOff P (fieldOf 2 (P.underlying tD)) = some 2
  fld5 : fieldOff P (fieldOf 5 (P.underlying tD)) = some 5
  aggM : aggT P tM = some false
  aggB : aggT P tB = some false
  mapM : P.underlying tM = some (.map tK tE)
  slL : P.underlying tL = some (.slice tK)
  szK : sizeT P tK = some 1
  byK : bytesT P tK = some 16
  zeK : zeroT P tK = some (.str [])
  sort : ∀ (H : AH) (x : AV), (x = .snil ∨ ∃ b, x = .slice b 0 1 1) → CallS P gS [x] H (.tup []) H
theorem names_some {args : List AV} {H H' : AH} {v : AV} (h : namesP args H = some (v, H')) : ∃ d, diskOf H args = some d ∧ d.down = false ∧ H.nx < mH ∧
    ((d.es = [] ∧ v = .snil ∧ H' = H.bump) ∨ ∃ s x, d.es = [(.str s, x)] ∧ H.nx + 2 < mH ∧ v = .slice (H.nx + 2) 0 1 1 ∧ H' = (H.bump.grown (.cells false 1 [.str s])).grown (.cells true 1 [.str s])) := by
  unfold namesP namesD at h
  split at h
  · rename_i d hd
    split at h
    · cases h
    · rename_i hdn
      refine ⟨d, hd, hdn, ?_⟩
      unfold namesL at h
      split at h
      · rename_i he
        unfold names0 at h
        split at h
        · rename_i hr
          injection h with h
          injection h with h1 h2
          exact ⟨AH.room_lt hr, .inl ⟨he, h1.symm, h2.symm⟩⟩
        · cases h
      · rename_i e l he
        split at h
        · split at h
          · rename_i s hs
            unfold names1 at h
            split at h
            · rename_i hr
              split at h
              · split at h
                · rename_i hr2
                  injection h with h
                  injection h with h1 h2
                  refine ⟨AH.room_lt hr, .inr ⟨s, e.2, ?_, AH.room_lt hr2, h1.symm, h2.symm⟩⟩
                  rw [he, ← hs]
                · cases h
              · cases h
            · cases h
          · cases h
        · cases h
  · cases h
theorem names_sound (hp : Plain P) {g : FuncId} {fn : Func} (hg : P.funcs[g]? = some fn) {tD tM tB tK tE tL : TypeId} {gS : FuncId} (sh : NamesShape P fn tD tM tB tK tE tL gS) {args : List AV} {H H' : AH} {v : AV} (h : namesP args H = some (v, H')) :
    H.nx ≤ H'.nx ∧ CallS P g args H v H' := by
  obtain ⟨d, hd, hdown, hroom, hcase⟩ := names_some h
  obtain ⟨hargs, ⟨c1, c3, hload⟩, hc5, hnow⟩ := diskOf_some hd
  obtain ⟨i0, i1, i2, i3, i4, i5, i6, i7, i8, id0, id1, r0, r1, r2, o1, o2, r4, r5, r6, r7, r8, ts, hbody, e0, e1, e2, q1, q2, e4, e5, e6, e7, e8⟩ := sh.code
  have hnx' : H.nx + 1 ≤ H'.nx := by
    rcases hcase with ⟨_, _, rfl⟩ | ⟨s, x, _, _, _, rfl⟩
    · exact Nat.le_refl _
    · show H.nx + 1 ≤ H.nx + 1 + 1 + 1; omega
  refine ⟨by omega, walk_fn hp hg hbody (by rw [sh.nt]; omega) (by rw [hargs, sh.nt]; simp) fun N m w a f hN st fr hdf hrd hnt hget => ?_⟩
  have hnt : f.nt = 26 := hnt.trans sh.nt
  have hg0 : f.get 0 = .ptr d.b d.o := by rw [hget, hargs]; rfl
  have s0 : seqS P [(some 2, .assign (.const (.slice none 0 0)), none)] f H = some (f.putT 2 .snil, H) := by
    simp [seqS, opA, aev, convZ, conv, vA, Fr.put_some, hnt]
  refine wpIn_seq ((seqS_region e0 s0).2 N m w a none (by omega) st fr _ fun m1 a1 w1 s1 st1 fr1 => ?_)
  have s1' : seqS P [(some 3, .assign (.const (.slice none 0 0)), none)] (f.putT 2 .snil) H = some ((f.putT 2 .snil).putT 3 .snil, H) := by
    simp [seqS, opA, aev, convZ, conv, vA, Fr.put_some, hnt, Fr.nt_putT]
  refine wpIn_seq ((seqS_region e1 s1').2 N m1 w1 a1 none (by omega) st1 fr1 _ fun m2 a2 w2 s2 st2 fr2 => ?_)
  have ld2 : load1 H d.b (d.o + 2) = some (.map d.now) := load_nth hload rfl
  have ld5 : load1 H d.b (d.o + 5) = some (.bool d.down) := load_nth hload rfl
  obtain ⟨f2, hf2⟩ : ∃ f2, f2 = (f.putT 2 .snil).putT 3 .snil := ⟨_, rfl⟩
  have g20 : f2.get 0 = .ptr d.b d.o := by rw [hf2]; simp [Fr.get_putT, hg0]
  have g23 : f2.get 3 = .snil := by rw [hf2]; simp [Fr.get_putT]
  have nt2 : f2.nt = 26 := by rw [hf2]; simp [Fr.nt_putT, hnt]
  have df2 : f2.df = [] := by rw [hf2]; exact hdf
  rw [← hf2] at fr2
  have s2' : seqS P [(some 5, .move (.tmp 0), none), (some 6, .nilCheck (.tmp 5), none), (some 7, .fieldAddr tD (.tmp 6) 2, none), (some 8, .load tM (.tmp 7), none)] f2 H =
      some ((((f2.putT 5 (.ptr d.b d.o)).putT 6 (.ptr d.b d.o)).putT 7 (.ptr d.b (d.o + 2))).putT 8 (.map d.now), H) := by
    simp [seqS, opA, aev, vA, Fr.put_some, nt2, Fr.nt_putT, g20, Fr.get_putT, opNilCheck, opFieldAddr, sh.fld2, ptrAdd, opLoad, loadVarA, sh.aggM, ld2]
  refine wpIn_seq (wpIn_seq ?_)
  refine range_regionS e2 s2' (es := d.es) (bm := d.now) (by simp [aev, Fr.get_putT]) hnow sh.mapM hroom (by simp [Fr.nt_putT, nt2]) (by omega) st2 fr2 _ ?_
  intro m3 w3 m4 a4 w4 it cb clock ces ps s3 st3 hcb hps hperm hbn ra
  have hbnow : d.b ≠ d.now := by
    intro e
    have hl := hload
    unfold loadA at hl
    rw [e, hnow] at hl
    cases hl
  have hvd : ∃ cd, m3 d.b = some cd := by
    have := fr2.ev 0
    rw [g20] at this
    generalize a2.tmps.getD 0 undef = u at this
    cases this with
    | ptr hh => exact ⟨_, s3.ext _ _ hh⟩
  obtain ⟨cd, hcd⟩ := hvd
  have hbm := (st3.rel.dom _ _ hcd).1
  have hnowm := (st3.rel.dom _ _ hcb).1
  have hkill : (H.kill d.now).bump.get d.b = H.get d.b := by
    rw [AH.get_bump, AH.get_kill H d.now d.b hnowm hbm, if_neg hbnow]
  have ld5' : load1 (H.kill d.now).bump d.b (d.o + 5) = some (.bool d.down) := by rw [load1_same hkill]; exact ld5
  -- behind the loop
  have rest : ∀ (H5 : AH) (f5 : Fr) (x : AV) m5 a5 w5, Stp m3 (H.kill d.now) w3 m5 H5 w5 → St N m5 H5 w5 → FrRel m5 none f5 a5 → HSim (H5.put d.now (.map d.es)) H' → (x = .snil ∨ ∃ b, x = .slice b 0 1 1) → f5.get 3 = x → f5.nt = 26 → f5.df = [] → x = v →
      (Code.seq (.region i7 r7 false) (.seq (.region i8 r8 false) .ret)).wpIn (FW none) 0 P (fun e a1 w1 => (e = .normal ∨ e = .ret) ∧ ∃ m1 f1 vs, Stp m H w m1 H' w1 ∧ St N m1 H' w1 ∧ FrRel m1 none f1 a1 ∧ f1.df = [] ∧ resA P H' f1 fn.results.toList = some vs ∧ packA vs = v) a5 w5 := by
    intro H5 f5 x m5 a5 w5 hs5 hst5 hfr5 hsim hx g3 nt5 df5 hxv
    obtain ⟨s6, st6⟩ := unhide st3 hnow hcb hs5 hst5
    obtain ⟨s7, st7⟩ := same_heap s6 st6 hsim
    have hr7 : seqS P [(some 23, .move (.tmp 3), none)] f5 H' = some (f5.putT 23 x, H') := by
      simp [seqS, opA, aev, vA, Fr.put_some, nt5, g3]
    have har : opA P (f5.putT 23 x) H' (.call ⟨.value (.func gS), #[.tmp 23], ts⟩) = some (.enter gS [x]) := by
      simp [opA, aev, aevs, consO, Fr.get_putT, opCall, opCallee, invokeA, app]
    have c7 := call_region (id := i7) e7 hr7 har (Nat.le_refl _) (sh.sort H' x hx) (Fr.put_some (f := f5.putT 23 x) (t := 24) (v := .tup []) (by rw [Fr.nt_putT, nt5]; omega))
    refine wpIn_seq (c7.2 N m5 w5 a5 none hN st7 hfr5 _ fun m8 a8 w8 s8 st8 fr8 => ?_)
    have hr8 : seqS P [(some 25, .move (.tmp 3), none), (some 2, .assign (.tmp 25), none)] ((f5.putT 23 x).putT 24 (.tup [])) H' = some ((((f5.putT 23 x).putT 24 (.tup [])).putT 25 x).putT 2 x, H') := by
      simp [seqS, opA, aev, vA, Fr.put_some, nt5, Fr.nt_putT, g3, Fr.get_putT]
    refine wpIn_seq ((seqS_region e8 hr8).2 N m8 w8 a8 none hN st8 fr8 _ fun m9 a9 w9 s9 st9 fr9 => wpIn_ret ⟨.inr rfl, m9, _, [x], ((s1.trans s2).trans s3).trans ((s7.trans s8).trans s9), st9, fr9, by simp [Fr.df_putT, df5], ?_, hxv⟩)
    rw [sh.res]
    simp [resA, res1, consO, Fr.get_putT]
  have hsim0 : HSim ((H.kill d.now).bump.put d.now (.map d.es)) H.bump := by
    refine ⟨rfl, fun b hb => .inl ?_⟩
    rw [AH.get_put _ _ _ _ hnowm hb, AH.get_bump, AH.get_bump, AH.get_kill H _ _ hnowm hb]
    split
    · rename_i hbn; rw [hbn]; exact hnow
    · rfl
  rcases hcase with ⟨hes, hv, hH'⟩ | ⟨s, x, hes, hroom2, hv, hH'⟩
  · -- no file
    have hpe : ps = [] := by rw [hes] at hps; exact List.map_eq_nil_iff.1 hps
    refine wpIn_block (wpIn_loopN (range_loop (id := i3) (o1 := o1) (o2 := o2) (ti := 9) (tn := 10) (tk := 11) (bid := id0) hbn hperm (congrArg (fun s : S3 => s.2.1) q1) (congrArg (fun s : S3 => s.1) q1) (congrArg (fun s : S3 => s.2.2) q1)
      (congrArg (fun s : S3 => s.2.1) q2) (congrArg (fun s : S3 => s.1) q2) (congrArg (fun s : S3 => s.2.2) q2) (by decide)
      (fun dn f' H' => H' = (H.kill d.now).bump ∧ f'.get 9 = .ptr H.nx 0 ∧ f'.get 3 = .snil ∧ f'.nt = 26 ∧ f'.df = [])
      ?hI ?hB ps.length ps [] #[] m4 _ w4 _ a4 rfl ra ?hInv (by simp) (by simp) _ ?hEnd))
    case hI =>
      rintro dn f' H1 ⟨rfl, g9, g3, hnt', hdf'⟩
      refine ⟨g9, by rw [hnt']; omega, by rw [hnt']; omega, ?_, fun u1 u2 => ⟨rfl, by simp [Fr.get_putT, g9], by simp [Fr.get_putT, g3], by simp [Fr.nt_putT, hnt'], by simp [Fr.df_putT, hdf']⟩⟩
      show H.nx + 1 ≤ N
      omega
    case hInv =>
      exact ⟨rfl, by simp [Fr.get_putT], by simp [Fr.get_putT, g23], by simp [Fr.nt_putT, nt2], by simp [Fr.df_putT, df2]⟩
    case hB =>
      rintro dn p seen f' H1 m' w' a' ra' _ ⟨lp, hlp⟩
      exfalso
      have : p ∈ ps := hlp.subset (by simp)
      rw [hpe] at this
      cases this
    case hEnd =>
      rintro dn' m5 H5 w5 f5 a5 seen5 hp5 ra5 ⟨rfl, g9, g3, nt5, df5⟩
      show Exit.inBlock id0 _ (.exit id0) a5 w5
      simp only [Exit.inBlock, if_true]
      exact rest _ f5 .snil m5 a5 w5 ra5.stp ra5.st ra5.fr (by rw [hH']; exact hsim0) (.inl rfl) g3 nt5 df5 hv.symm
  · -- one file
    obtain ⟨q, hq, hqe⟩ : ∃ q : Pr, ps = [q] ∧ q.1 = (.str s, x) := by
      rw [hes] at hps
      obtain ⟨q, h1, h2⟩ := List.map_eq_singleton_iff.1 hps
      exact ⟨q, h1, h2⟩
    have nxb : (H.kill d.now).bump.nx = H.nx + 1 := rfl
    refine wpIn_block (wpIn_loopN (range_loop (id := i3) (o1 := o1) (o2 := o2) (ti := 9) (tn := 10) (tk := 11) (bid := id0) hbn hperm (congrArg (fun s : S3 => s.2.1) q1) (congrArg (fun s : S3 => s.1) q1) (congrArg (fun s : S3 => s.2.2) q1)
      (congrArg (fun s : S3 => s.2.1) q2) (congrArg (fun s : S3 => s.1) q2) (congrArg (fun s : S3 => s.2.2) q2) (by decide)
      (fun dn f' H' => f'.get 0 = .ptr d.b d.o ∧ f'.get 9 = .ptr H.nx 0 ∧ f'.nt = 26 ∧ f'.df = [] ∧
        ((dn = [] ∧ H' = (H.kill d.now).bump ∧ f'.get 3 = .snil) ∨ (dn = [q] ∧ H' = ((H.kill d.now).bump.grown (.cells false 1 [.str s])).grown (.cells true 1 [.str s]) ∧ f'.get 3 = .slice (H.nx + 2) 0 1 1)))
      ?hI ?hB ps.length ps [] #[] m4 _ w4 _ a4 rfl ra ?hInv (by simp) (by simp) _ ?hEnd))
    case hI =>
      rintro dn f' H1 ⟨g0, g9, hnt', hdf', hor⟩
      have hN3 : H.nx + 3 ≤ N := by
        have : H'.nx = H.nx + 3 := by rw [hH']; rfl
        omega
      refine ⟨g9, by rw [hnt']; omega, by rw [hnt']; omega, ?_, fun u1 u2 => ⟨by simp [Fr.get_putT, g0], by simp [Fr.get_putT, g9], by simp [Fr.nt_putT, hnt'], by simp [Fr.df_putT, hdf'], ?_⟩⟩
      · rcases hor with ⟨_, rfl, _⟩ | ⟨_, rfl, _⟩
        · show H.nx + 1 ≤ N; omega
        · show H.nx + 1 + 1 + 1 ≤ N; omega
      · rcases hor with ⟨h1, h2, h3⟩ | ⟨h1, h2, h3⟩
        · exact .inl ⟨h1, h2, by simp [Fr.get_putT, h3]⟩
        · exact .inr ⟨h1, h2, by simp [Fr.get_putT, h3]⟩
    case hInv =>
      exact ⟨by simp [Fr.get_putT, g20], by simp [Fr.get_putT], by simp [Fr.nt_putT, nt2], by simp [Fr.df_putT, df2], .inl ⟨rfl, rfl, by simp [Fr.get_putT, g23]⟩⟩
    case hB =>
      rintro dn p seen f' H1 m' w' a' ra' ⟨g0, g9, hnt', hdf', hor⟩ ⟨lp, hlp⟩ hent Q hQ
      have hlen := hlp.length_eq
      rw [hq] at hlen hlp
      simp at hlen
      have hdn : dn = [] := List.eq_nil_of_length_eq_zero (by omega)
      have hpq : p = q := by
        have : p ∈ [q] := hlp.subset (by simp)
        simpa using this
      subst hpq
      rcases hor with ⟨_, rfl, g3⟩ | ⟨h1, _⟩
      · have hN3 : H.nx + 3 ≤ N := by
          have : H'.nx = H.nx + 3 := by rw [hH']; rfl
          omega
        have hN' : (H.kill d.now).bump.nx ≤ N := by rw [nxb]; omega
        refine wpIn_block (wpIn_seq ?_)
        have hr4 : seqS P [(some 13, .extract (.tmp 12) 0, none), (some 4, .assign (.tmp 13), none)] (f'.putT 12 (.tup [p.1.1, p.1.2])) (H.kill d.now).bump = some ((((f'.putT 12 (.tup [p.1.1, p.1.2])).putT 13 p.1.1).putT 4 p.1.1), (H.kill d.now).bump) := by
          simp [seqS, opA, aev, vA, Fr.put_some, hnt', Fr.nt_putT, Fr.get_putT, opExtract, nth]
        have hp : p ∈ ps := by rw [hq]; simp
        refine entry_region e4 hr4 hN' g9 ra'.itm (by rw [hnt']; omega) hent (ra'.prs p hp).1 (ra'.prs p hp).2 ra'.st ra'.fr _ fun m5 a5 w5 s5 st5 fr5 => ?_
        obtain ⟨f5, hf5⟩ : ∃ f5, f5 = (((f'.putT 12 (.tup [p.1.1, p.1.2])).putT 13 p.1.1).putT 4 p.1.1) := ⟨_, rfl⟩
        rw [← hf5] at fr5
        have g50 : f5.get 0 = .ptr d.b d.o := by rw [hf5]; simp [Fr.get_putT, g0]
        have g53 : f5.get 3 = .snil := by rw [hf5]; simp [Fr.get_putT, g3]
        have g54 : f5.get 4 = .str s := by rw [hf5, hqe]; simp [Fr.get_putT]
        have g59 : f5.get 9 = .ptr H.nx 0 := by rw [hf5]; simp [Fr.get_putT, g9]
        have nt5 : f5.nt = 26 := by rw [hf5]; simp [Fr.nt_putT, hnt']
        have df5 : f5.df = [] := by rw [hf5]; simp [Fr.df_putT, hdf']
        have hr5 : seqS P [(some 14, .move (.tmp 0), none), (some 15, .nilCheck (.tmp 14), none), (some 16, .fieldAddr tD (.tmp 15) 5, none), (some 17, .load tB (.tmp 16), none), (some 18, .unOp .not tB (.tmp 17), none)] f5 (H.kill d.now).bump =
            some (((((f5.putT 14 (.ptr d.b d.o)).putT 15 (.ptr d.b d.o)).putT 16 (.ptr d.b (d.o + 5))).putT 17 (.bool d.down)).putT 18 (.bool (!d.down)), (H.kill d.now).bump) := by
          simp [seqS, opA, aev, vA, Fr.put_some, nt5, Fr.nt_putT, g50, Fr.get_putT, opNilCheck, opFieldAddr, sh.fld5, ptrAdd, opLoad, loadVarA, sh.aggB, ld5', opUn, unA]
        refine wpIn_seq ((seqS_region e5 hr5).2 N m5 w5 a5 none hN' st5 fr5 _ fun m6 a6 w6 s6 st6 fr6 => ?_)
        obtain ⟨f6, hf6⟩ : ∃ f6, f6 = ((((f5.putT 14 (.ptr d.b d.o)).putT 15 (.ptr d.b d.o)).putT 16 (.ptr d.b (d.o + 5))).putT 17 (.bool d.down)).putT 18 (.bool (!d.down)) := ⟨_, rfl⟩
        rw [← hf6] at fr6
        have g60 : f6.get 0 = .ptr d.b d.o := by rw [hf6]; simp [Fr.get_putT, g50]
        have g63 : f6.get 3 = .snil := by rw [hf6]; simp [Fr.get_putT, g53]
        have g64 : f6.get 4 = .str s := by rw [hf6]; simp [Fr.get_putT, g54]
        have g69 : f6.get 9 = .ptr H.nx 0 := by rw [hf6]; simp [Fr.get_putT, g59]
        have g618 : f6.get 18 = .bool true := by rw [hf6, hdown]; simp [Fr.get_putT]
        have nt6 : f6.nt = 26 := by rw [hf6]; simp [Fr.nt_putT, nt5]
        have df6 : f6.df = [] := by rw [hf6]; simp [Fr.df_putT, df5]
        have hc : a6.eval (.tmp 18) = .bool true := by
          have := aev_rel fr6.ev (x := .tmp 18) rfl
          rw [g618] at this
          generalize a6.eval (.tmp 18) = u at this
          cases this
          rfl
        have hHb : ∃ Hb, Hb = (H.kill d.now).bump.grown (.cells false 1 [.str s]) := ⟨_, rfl⟩
        obtain ⟨Hb, hHb⟩ := hHb
        have hbuild : opBuildSlice P (H.kill d.now).bump tL 1 (some [(0, .str s)]) = some (.val (.slice (H.nx + 1) 0 1 1) Hb) := by
          have hb : buildSliceA P tL 1 [(0, .str s)] = some (.cells false 1 [.str s]) := by
            unfold buildSliceA
            rw [sh.slL]
            show buildSl 1 [(0, .str s)] (sizeT P tK) (zeroT P tK) = _
            rw [sh.szK, sh.zeK]
            rfl
          show newSl (H.kill d.now).bump 1 (buildSliceA P tL 1 [(0, .str s)]) = _
          rw [hb]
          show newA (H.kill d.now).bump (.cells false 1 [.str s]) (fun b => .slice b 0 1 1) = _
          unfold newA
          rw [room_of (by rw [nxb]; omega), hHb]
          rfl
        have hgetb : Hb.get (H.nx + 1) = some (.cells false 1 [.str s]) := by
          rw [hHb, AH.get_grown _ _ _ (by rw [nxb]; omega) (by omega), nxb, if_pos rfl]
        have happ : appendA P tL tL .snil (.slice (H.nx + 1) 0 1 1) Hb = some (.val (.slice (H.nx + 2) 0 1 1) (Hb.grown (.cells true 1 [.str s]))) := by
          unfold appendA
          rw [sh.slL]
          show append1 P Hb .snil (.slice (H.nx + 1) 0 1 1) tK = _
          unfold append1
          rw [sh.szK, sh.byK, sh.zeK]
          show appendN Hb .snil 0 0 1 1 16 (.str []) (loadA Hb (H.nx + 1) 0 (Nat.mul 1 1)) = _
          have hl : loadA Hb (H.nx + 1) 0 (Nat.mul 1 1) = some [.str s] := by
            unfold loadA
            rw [hgetb]
            rfl
          rw [hl]
          show newA Hb (.cells true 1 [.str s]) (fun b => .slice b 0 1 1) = _
          unfold newA
          have hnb : Hb.nx = H.nx + 2 := by rw [hHb]; rfl
          rw [room_of (by omega), hnb]
        have hr6 : seqS P [(some 19, .move (.tmp 3), none), (some 20, .move (.tmp 4), none), (some 21, .buildSlice tL 1 #[(0, .tmp 20)], none), (some 22, .call ⟨.builtin .append, #[.tmp 19, .tmp 21], #[tL, tL]⟩, none), (some 3, .assign (.tmp 22), none)] f6 (H.kill d.now).bump =
            some (((((f6.putT 19 .snil).putT 20 (.str s)).putT 21 (.slice (H.nx + 1) 0 1 1)).putT 22 (.slice (H.nx + 2) 0 1 1)).putT 3 (.slice (H.nx + 2) 0 1 1), Hb.grown (.cells true 1 [.str s])) := by
          simp [seqS, opA, aev, aevs, consO, pairsA, pairO, vA, Fr.put_some, nt6, Fr.nt_putT, g63, g64, Fr.get_putT, opCall, opCallee, builtinA, builtinR, builtin2, hbuild, happ]
        refine wpIn_cond_true hc ((seqS_region e6 hr6).2 N m6 w6 a6 none (by rw [hHb]; show H.nx + 1 + 1 + 1 ≤ N; omega) st6 fr6 _ fun m7 a7 w7 s7 st7 fr7 => ?_)
        refine hQ m7 a7 w7 _ _ ((s5.trans s6).trans s7) st7 fr7 ⟨by simp [Fr.get_putT, g60], by simp [Fr.get_putT, g69], by simp [Fr.nt_putT, nt6], by simp [Fr.df_putT, df6], .inr ⟨by rw [hdn]; rfl, by rw [hHb], by simp [Fr.get_putT]⟩⟩
      · rw [hdn] at h1; cases h1
    case hEnd =>
      rintro dn' m5 H5 w5 f5 a5 seen5 hp5 ra5 ⟨g0, g9, nt5, df5, hor⟩
      show Exit.inBlock id0 _ (.exit id0) a5 w5
      simp only [Exit.inBlock, if_true]
      rcases hor with ⟨h1, _⟩ | ⟨_, rfl, g3⟩
      · exfalso
        have := hp5.length_eq
        rw [h1, hq] at this
        simp at this
      · refine rest _ f5 _ m5 a5 w5 ra5.stp ra5.st ra5.fr ?_ (.inr ⟨_, rfl⟩) g3 nt5 df5 hv.symm
        refine ⟨by rw [hH']; rfl, fun j hj => .inl ?_⟩
        have k1 : ∀ x j, j < mH → ((H.kill d.now).bump.grown x).get j = if j = H.nx + 1 then some x else (H.kill d.now).bump.get j := fun x j hj => AH.get_grown _ x j (by rw [nxb]; omega) hj
        have k2 : ∀ x j, j < mH → (H.bump.grown x).get j = if j = H.nx + 1 then some x else H.bump.get j := fun x j hj => AH.get_grown _ x j (by rw [AH.nx_bump]; omega) hj
        have k3 : ∀ x y j, j < mH → (((H.kill d.now).bump.grown x).grown y).get j = if j = H.nx + 2 then some y else ((H.kill d.now).bump.grown x).get j := fun x y j hj => AH.get_grown _ y j (by show H.nx + 1 + 1 < mH; omega) hj
        have k4 : ∀ x y j, j < mH → ((H.bump.grown x).grown y).get j = if j = H.nx + 2 then some y else (H.bump.grown x).get j := fun x y j hj => AH.get_grown _ y j (by show H.nx + 1 + 1 < mH; omega) hj
        have hnlt : d.now < H.nx := st3.ok.lt hnowm hnow
        rw [hH', AH.get_put _ _ _ _ hnowm hj, k3 _ _ _ hj, k4 _ _ _ hj, k1 _ _ hj, k2 _ _ hj, AH.get_bump, AH.get_bump, AH.get_kill _ _ _ hnowm hj]
        by_cases h1 : j = H.nx + 2
        · rw [if_pos h1, if_neg (by omega), if_pos h1]
        · rw [if_neg h1, if_neg h1]
          by_cases h2 : j = H.nx + 1
          · rw [if_pos h2, if_neg (by omega), if_pos h2]
          · rw [if_neg h2, if_neg h2]
            by_cases h3 : j = d.now
            · rw [if_pos h3, h3]; exact hnow
            · rw [if_neg h3, if_neg h3]
end
end Go.Ev
