/- An abstract machine for the model's code, and its soundness: part G. -/
import Derived.Test.YtginbifeinpciaaGreatEvF
import Derived.Test.YtginbifeinpciaaGreatEvA
/- Disk.Names, of a disk with no file or with one, by its code. -/
namespace Go.Ev
open Go Go.RowKit Go.ChangeMaps

section
variable {P : Program}
/-- A region that ends with a call. -/
theorem call_region {id : Nat} {ops : Array Oper} {l : List S3} {c : Call} {dst : Option Tmp} {g : FuncId} {args : List AV} {f f1 f' : Fr} {H H1 H' : AH} {v : AV} (hops : ops.toList.map strip = l ++ [(dst, .call c, none)]) (hseq : seqS P l f H = some (f1, H1))
    (har : opA P f1 H1 (.call c) = some (.enter g args)) (hn : H1.nx ≤ H'.nx) (hcall : CallS P g args H1 v H') (hput : f1.put dst v = some f') : CodeS P (.region id ops false) f H .normal f' H' := by
  obtain ⟨l1, l2, h1, h2, h3⟩ := List.map_eq_append_iff.1 hops
  obtain ⟨o, h4, h5⟩ := List.map_eq_singleton_iff.1 h3
  subst h4
  have e1 : o.op = .call c := congrArg (fun s : S3 => s.2.1) h5
  have e2 : o.guard = none := congrArg (fun s : S3 => s.2.2) h5
  have e3 : o.dst = dst := congrArg (fun s : S3 => s.1) h5
  have hs := seqA_sound (P := P) (ops := ops) l1 (by rw [seqA_strip, h2]; exact hseq)
  refine ⟨Nat.le_trans hs.1 hn, fun N m w a r hN st fr Q hQ => wpIn_region ?_⟩
  have hlen : List.range ops.size = List.range' 0 (l1.length + [o].length) := by
    rw [List.range_eq_range', ← Array.length_toList, h1, List.length_append]
  rw [hlen]
  refine hs.2 [] [o] (by simp [h1]) N m w a r (by omega) st fr Q fun m1 a1 w1 s1 st1 fr1 => ?_
  have hd : ∀ c, o.op ≠ .defer c := by rw [e1]; intro c h; cases h
  have hop : OperS P o f1 H1 f' H' := operS_of hd (by rw [e3]; exact hput) (opS_of (ar := .enter g args) (v := v) hd (by rw [e1]; exact har) (show H1.nx ≤ H'.nx ∧ CallS P g args H1 v H' from ⟨hn, hcall⟩))
  refine wpOps_step (by rw [← Array.getElem?_toList, h1]; simp) e2 (hop.2 N m1 w1 a1 r hN st1 fr1 _ Q fun m2 a2 w2 s2 st2 fr2 => ?_)
  exact hQ m2 a2 w2 (s1.trans s2) st2 fr2
structure NamesShape (P : Program) (fn : Func) (tD tM tB tK tE tL : TypeId) (gS : FuncId) : Prop where
  nt : fn.ntmps = 26
  res : fn.results.toList = [.tmp 2]
  code : ∃ i0 i1 i2 i3 i4 i5 i6 i7 i8 id0 id1 r0 r1 r2 o1 o2 r4 r5 r6 r7 r8 ts, fn.body = some (.seq (.region i0 r0 false) (.seq (.region i1 r1 false) (.seq (.seq (.region i2 r2 false) (.block id0 (.loop (.seq (.region i3 #[o1, o2] false) (.seq (.cond (.tmp 11) .skip (.exit id0)) (.block id1
      (.seq (.region i4 r4 false) (.seq (.region i5 r5 false) (.cond (.tmp 18) (.region i6 r6 false) .skip))))))))) (.seq (.region i7 r7 false) (.seq (.region i8 r8 false) .ret))))) ∧
    r0.toList.map strip = [(some 2, .assign (.const (.slice none 0 0)), none)] ∧ r1.toList.map strip = [(some 3, .assign (.const (.slice none 0 0)), none)] ∧
    r2.toList.map strip = [(some 5, .move (.tmp 0), none), (some 6, .nilCheck (.tmp 5), none), (some 7, .fieldAddr tD (.tmp 6) 2, none), (some 8, .load tM (.tmp 7), none)] ++ [(some 9, .range tM (.tmp 8), none)] ∧
    strip o1 = (some 10, .next (.tmp 9) false, none) ∧ strip o2 = (some 11, .extract (.tmp 10) 0, none) ∧
    r4.toList.map strip = (some 12, .entry (.tmp 9), none) :: [(some 13, .extract (.tmp 12) 0, none), (some 4, .assign (.tmp 13), none)] ∧
    r5.toList.map strip = [(some 14, .move (.tmp 0), none), (some 15, .nilCheck (.tmp 14), none), (some 16, .fieldAddr tD (.tmp 15) 5, none), (some 17, .load tB (.tmp 16), none), (some 18, .unOp .not tB (.tmp 17), none)] ∧
    r6.toList.map strip = [(some 19, .move (.tmp 3), none), (some 20, .move (.tmp 4), none), (some 21, .buildSlice tL 1 #[(0, .tmp 20)], none), (some 22, .call ⟨.builtin .append, #[.tmp 19, .tmp 21], #[tL, tL]⟩, none), (some 3, .assign (.tmp 22), none)] ∧
    r7.toList.map strip = [(some 23, .move (.tmp 3), none)] ++ [(some 24, .call ⟨.value (.func gS), #[.tmp 23], ts⟩, none)] ∧
    r8.toList.map strip = [(some 25, .move (.tmp 3), none), (some 2, .assign (.tmp 25), none)]
  fld2 : fieldOff P (fieldOf 2 (P.underlying tD)) = some 2
  fld5 : fieldOff P (fieldOf 5 (P.underlying tD)) = some 5
  aggM : aggT P tM = some false
  aggB : aggT P tB = some false
  mapM : P.underlying tM = some (.map tK tE)
  slL : P.underlying tL = some (.slice tK)
  szK : sizeT P tK = some 1
  byK : bytesT P tK = some 16
  zeK : zeroT P tK = some (.str [])
  sort : ∀ (H : AH) (x : AV), (x = .snil ∨ ∃ b, x = .slice b 0 1 1) → CallS P gS [x] H (.tup []) H
theorem names_some {args : List AV} {H H' : AH} {v : AV} (h : namesP args H = some (v, H')) : ∃ d, diskOf H args = some d ∧ d.down = false ∧ H.nx < mH ∧
    ((d.es = [] ∧ v = .snil ∧ H' = H.bump) ∨ ∃ s x, d.es = [(.str s, x)] ∧ H.nx + 2 < mH ∧ v = .slice (H.nx + 2) 0 1 1 ∧ H' = (H.bump.grown (.cells false 1 [.str s])).grown (.cells true 1 [.str s])) := by
  unfold namesP namesD at h
  split at h
  · rename_i d hd
    split at h
    · cases h
    · rename_i hdn
      refine ⟨d, hd, hdn, ?_⟩
      unfold namesL at h
      split at h
      · rename_i he
        unfold names0 at h
        split at h
        · rename_i hr
          injection h with h
          injection h with h1 h2
          exact ⟨AH.room_lt hr, .inl ⟨he, h1.symm, h2.symm⟩⟩
        · cases h
      · rename_i e l he
        split at h
        · split at h
          · rename_i s hs
            unfold names1 at h
            split at h
            · rename_i hr
              split at h
              · split at h
                · rename_i hr2
                  injection h with h
                  injection h with h1 h2
                  refine ⟨AH.room_lt hr, .inr ⟨s, e.2, ?_, AH.room_lt hr2, h1.symm, h2.symm⟩⟩
                  rw [he, ← hs]
                · cases h
              · cases h
            · cases h
          · cases h
        · cases h
  · cases h
theorem names_sound (hp : Plain P) {g : FuncId} {fn : Func} (hg : P.funcs[g]? = some fn) {tD tM tB tK tE tL : TypeId} {gS : FuncId} (sh : NamesShape P fn tD tM tB tK tE tL gS) {args : List AV} {H H' : AH} {v : AV} (h : namesP args H = some (v, H')) :
    H.nx ≤ H'.nx ∧ CallS P g args H v H' := by
  obtain ⟨d, hd, hdown, hroom, hcase⟩ := names_some h
  obtain ⟨hargs, ⟨c1, c3, hload⟩, hc5, hnow⟩ := diskOf_some hd
  obtain ⟨i0, i1, i2, i3, i4, i5, i6, i7, i8, id0, id1, r0, r1, r2, o1, o2, r4, r5, r6, r7, r8, ts, hbody, e0, e1, e2, q1, q2, e4, e5, e6, e7, e8⟩ := sh.code
  have hnx' : H.nx + 1 ≤ H'.nx := by
    rcases hcase with ⟨_, _, rfl⟩ | ⟨s, x, _, _, _, rfl⟩
    · exact Nat.le_refl _
    · show H.nx + 1 ≤ H.nx + 1 + 1 + 1; omega
  refine ⟨by omega, walk_fn hp hg hbody (by rw [sh.nt]; omega) (by rw [hargs, sh.nt]; simp) fun N m w a f hN st fr hdf hrd hnt hget => ?_⟩
  have hnt : f.nt = 26 := hnt.trans sh.nt
  have hg0 : f.get 0 = .ptr d.b d.o := by rw [hget, hargs]; rfl
  have s0 : seqS P [(some 2, .assign (.const (.slice none 0 0)), none)] f H = some (f.putT 2 .snil, H) := by
    simp [seqS, opA, aev, convZ, conv, vA, Fr.put_some, hnt]
  refine wpIn_seq ((seqS_region e0 s0).2 N m w a none (by omega) st fr _ fun m1 a1 w1 s1 st1 fr1 => ?_)
  have s1' : seqS P [(some 3, .assign (.const (.slice none 0 0)), none)] (f.putT 2 .snil) H = some ((f.putT 2 .snil).putT 3 .snil, H) := by
    simp [seqS, opA, aev, convZ, conv, vA, Fr.put_some, hnt, Fr.nt_putT]
  refine wpIn_seq ((seqS_region e1 s1').2 N m1 w1 a1 none (by omega) st1 fr1 _ fun m2 a2 w2 s2 st2 fr2 => ?_)
  have ld2 : load1 H d.b (d.o + 2) = some (.map d.now) := load_nth hload rfl
  have ld5 : load1 H d.b (d.o + 5) = some (.bool d.down) := load_nth hload rfl
  obtain ⟨f2, hf2⟩ : ∃ f2, f2 = (f.putT 2 .snil).putT 3 .snil := ⟨_, rfl⟩
  have g20 : f2.get 0 = .ptr d.b d.o := by rw [hf2]; simp [Fr.get_putT, hg0]
  have g23 : f2.get 3 = .snil := by rw [hf2]; simp [Fr.get_putT]
  have nt2 : f2.nt = 26 := by rw [hf2]; simp [Fr.nt_putT, hnt]
  have df2 : f2.df = [] := by rw [hf2]; exact hdf
  rw [← hf2] at fr2
  have s2' : seqS P [(some 5, .move (.tmp 0), none), (some 6, .nilCheck (.tmp 5), none), (some 7, .fieldAddr tD (.tmp 6) 2, none), (some 8, .load tM (.tmp 7), none)] f2 H =
      some ((((f2.putT 5 (.ptr d.b d.o)).putT 6 (.ptr d.b d.o)).putT 7 (.ptr d.b (d.o + 2))).putT 8 (.map d.now), H) := by
    simp [seqS, opA, aev, vA, Fr.put_some, nt2, Fr.nt_putT, g20, Fr.get_putT, opNilCheck, opFieldAddr, sh.fld2, ptrAdd, opLoad, loadVarA, sh.aggM, ld2]
  refine wpIn_seq (wpIn_seq ?_)
  refine range_regionS e2 s2' (es := d.es) (bm := d.now) (by simp [aev, Fr.get_putT]) hnow sh.mapM hroom (by simp [Fr.nt_putT, nt2]) (by omega) st2 fr2 _ ?_
  intro m3 w3 m4 a4 w4 it cb clock ces ps s3 st3 hcb hps hperm hbn ra
  have hbnow : d.b ≠ d.now := by
    intro e
    have hl := hload
    unfold loadA at hl
    rw [e, hnow] at hl
    cases hl
  have hvd : ∃ cd, m3 d.b = some cd := by
    have := fr2.ev 0
    rw [g20] at this
    generalize a2.tmps.getD 0 undef = u at this
    cases this with
    | ptr hh => exact ⟨_, s3.ext _ _ hh⟩
  obtain ⟨cd, hcd⟩ := hvd
  have hbm := (st3.rel.dom _ _ hcd).1
  have hnowm := (st3.rel.dom _ _ hcb).1
  have hkill : (H.kill d.now).bump.get d.b = H.get d.b := by
    rw [AH.get_bump, AH.get_kill H d.now d.b hnowm hbm, if_neg hbnow]
  have ld5' : load1 (H.kill d.now).bump d.b (d.o + 5) = some (.bool d.down) := by rw [load1_same hkill]; exact ld5
  -- behind the loop
  have rest : ∀ (H5 : AH) (f5 : Fr) (x : AV) m5 a5 w5, Stp m3 (H.kill d.now) w3 m5 H5 w5 → St N m5 H5 w5 → FrRel m5 none f5 a5 → HSim (H5.put d.now (.map d.es)) H' → (x = .snil ∨ ∃ b, x = .slice b 0 1 1) → f5.get 3 = x → f5.nt = 26 → f5.df = [] → x = v →
      (Code.seq (.region i7 r7 false) (.seq (.region i8 r8 false) .ret)).wpIn (FW none) 0 P (fun e a1 w1 => (e = .normal ∨ e = .ret) ∧ ∃ m1 f1 vs, Stp m H w m1 H' w1 ∧ St N m1 H' w1 ∧ FrRel m1 none f1 a1 ∧ f1.df = [] ∧ resA P H' f1 fn.results.toList = some vs ∧ packA vs = v) a5 w5 := by
    intro H5 f5 x m5 a5 w5 hs5 hst5 hfr5 hsim hx g3 nt5 df5 hxv
    obtain ⟨s6, st6⟩ := unhide st3 hnow hcb hs5 hst5
    obtain ⟨s7, st7⟩ := same_heap s6 st6 hsim
    have hr7 : seqS P [(some 23, .move (.tmp 3), none)] f5 H' = some (f5.putT 23 x, H') := by
      simp [seqS, opA, aev, vA, Fr.put_some, nt5, g3]
    have har : opA P (f5.putT 23 x) H' (.call ⟨.value (.func gS), #[.tmp 23], ts⟩) = some (.enter gS [x]) := by
      simp [opA, aev, aevs, consO, Fr.get_putT, opCall, opCallee, invokeA, app]
    have c7 := call_region (id := i7) e7 hr7 har (Nat.le_refl _) (sh.sort H' x hx) (Fr.put_some (f := f5.putT 23 x) (t := 24) (v := .tup []) (by rw [Fr.nt_putT, nt5]; omega))
    refine wpIn_seq (c7.2 N m5 w5 a5 none hN st7 hfr5 _ fun m8 a8 w8 s8 st8 fr8 => ?_)
    have hr8 : seqS P [(some 25, .move (.tmp 3), none), (some 2, .assign (.tmp 25), none)] ((f5.putT 23 x).putT 24 (.tup [])) H' = some ((((f5.putT 23 x).putT 24 (.tup [])).putT 25 x).putT 2 x, H') := by
      simp [seqS, opA, aev, vA, Fr.put_some, nt5, Fr.nt_putT, g3, Fr.get_putT]
    refine wpIn_seq ((seqS_region e8 hr8).2 N m8 w8 a8 none hN st8 fr8 _ fun m9 a9 w9 s9 st9 fr9 => wpIn_ret ⟨.inr rfl, m9, _, [x], ((s1.trans s2).trans s3).trans ((s7.trans s8).trans s9), st9, fr9, by simp [Fr.df_putT, df5], ?_, hxv⟩)
    rw [sh.res]
    simp [resA, res1, consO, Fr.get_putT]
  have hsim0 : HSim ((H.kill d.now).bump.put d.now (.map d.es)) H.bump := by
    refine ⟨rfl, fun b hb => .inl ?_⟩
    rw [AH.get_put _ _ _ _ hnowm hb, AH.get_bump, AH.get_bump, AH.get_kill H _ _ hnowm hb]
    split
    · rename_i hbn; rw [hbn]; exact hnow
    · rfl
  rcases hcase with ⟨hes, hv, hH'⟩ | ⟨s, x, hes, hroom2, hv, hH'⟩
  · -- no file
    have hpe : ps = [] := by rw [hes] at hps; exact List.map_eq_nil_iff.1 hps
    refine wpIn_block (wpIn_loopN (range_loop (id := i3) (o1 := o1) (o2 := o2) (ti := 9) (tn := 10) (tk := 11) (bid := id0) hbn hperm (congrArg (fun s : S3 => s.2.1) q1) (congrArg (fun s : S3 => s.1) q1) (congrArg (fun s : S3 => s.2.2) q1)
      (congrArg (fun s : S3 => s.2.1) q2) (congrArg (fun s : S3 => s.1) q2) (congrArg (fun s : S3 => s.2.2) q2) (by decide)
      (fun dn f' H' => H' = (H.kill d.now).bump ∧ f'.get 9 = .ptr H.nx 0 ∧ f'.get 3 = .snil ∧ f'.nt = 26 ∧ f'.df = [])
      ?hI ?hB ps.length ps [] #[] m4 _ w4 _ a4 rfl ra ?hInv (by simp) (by simp) _ ?hEnd))
    case hI =>
      rintro dn f' H1 ⟨rfl, g9, g3, hnt', hdf'⟩
      refine ⟨g9, by rw [hnt']; omega, by rw [hnt']; omega, ?_, fun u1 u2 => ⟨rfl, by simp [Fr.get_putT, g9], by simp [Fr.get_putT, g3], by simp [Fr.nt_putT, hnt'], by simp [Fr.df_putT, hdf']⟩⟩
      show H.nx + 1 ≤ N
      omega
    case hInv =>
      exact ⟨rfl, by simp [Fr.get_putT], by simp [Fr.get_putT, g23], by simp [Fr.nt_putT, nt2], by simp [Fr.df_putT, df2]⟩
    case hB =>
      rintro dn p seen f' H1 m' w' a' ra' _ ⟨lp, hlp⟩
      exfalso
      have : p ∈ ps := hlp.subset (by simp)
      rw [hpe] at this
      cases this
    case hEnd =>
      rintro dn' m5 H5 w5 f5 a5 seen5 hp5 ra5 ⟨rfl, g9, g3, nt5, df5⟩
      show Exit.inBlock id0 _ (.exit id0) a5 w5
      simp only [Exit.inBlock, if_true]
      exact rest _ f5 .snil m5 a5 w5 ra5.stp ra5.st ra5.fr (by rw [hH']; exact hsim0) (.inl rfl) g3 nt5 df5 hv.symm
  · -- one file
    obtain ⟨q, hq, hqe⟩ : ∃ q : Pr, ps = [q] ∧ q.1 = (.str s, x) := by
      rw [hes] at hps
      obtain ⟨q, h1, h2⟩ := List.map_eq_singleton_iff.1 hps
      exact ⟨q, h1, h2⟩
    have nxb : (H.kill d.now).bump.nx = H.nx + 1 := rfl
    refine wpIn_block (wpIn_loopN (range_loop (id := i3) (o1 := o1) (o2 := o2) (ti := 9) (tn := 10) (tk := 11) (bid := id0) hbn hperm (congrArg (fun s : S3 => s.2.1) q1) (congrArg (fun s : S3 => s.1) q1) (congrArg (fun s : S3 => s.2.2) q1)
      (congrArg (fun s : S3 => s.2.1) q2) (congrArg (fun s : S3 => s.1) q2) (congrArg (fun s : S3 => s.2.2) q2) (by decide)
      (fun dn f' H' => f'.get 0 = .ptr d.b d.o ∧ f'.get 9 = .ptr H.nx 0 ∧ f'.nt = 26 ∧ f'.df = [] ∧
        ((dn = [] ∧ H' = (H.kill d.now).bump ∧ f'.get 3 = .snil) ∨ (dn = [q] ∧ H' = ((H.kill d.now).bump.grown (.cells false 1 [.str s])).grown (.cells true 1 [.str s]) ∧ f'.get 3 = .slice (H.nx + 2) 0 1 1)))
      ?hI ?hB ps.length ps [] #[] m4 _ w4 _ a4 rfl ra ?hInv (by simp) (by simp) _ ?hEnd))
    case hI =>
      rintro dn f' H1 ⟨g0, g9, hnt', hdf', hor⟩
      have hN3 : H.nx + 3 ≤ N := by
        have : H'.nx = H.nx + 3 := by rw [hH']; rfl
        omega
      refine ⟨g9, by rw [hnt']; omega, by rw [hnt']; omega, ?_, fun u1 u2 => ⟨by simp [Fr.get_putT, g0], by simp [Fr.get_putT, g9], by simp [Fr.nt_putT, hnt'], by simp [Fr.df_putT, hdf'], ?_⟩⟩
      · rcases hor with ⟨_, rfl, _⟩ | ⟨_, rfl, _⟩
        · show H.nx + 1 ≤ N; omega
        · show H.nx + 1 + 1 + 1 ≤ N; omega
      · rcases hor with ⟨h1, h2, h3⟩ | ⟨h1, h2, h3⟩
        · exact .inl ⟨h1, h2, by simp [Fr.get_putT, h3]⟩
        · exact .inr ⟨h1, h2, by simp [Fr.get_putT, h3]⟩
    case hInv =>
      exact ⟨by simp [Fr.get_putT, g20], by simp [Fr.get_putT], by simp [Fr.nt_putT, nt2], by simp [Fr.df_putT, df2], .inl ⟨rfl, rfl, by simp [Fr.get_putT, g23]⟩⟩
    case hB =>
      rintro dn p seen f' H1 m' w' a' ra' ⟨g0, g9, hnt', hdf', hor⟩ ⟨lp, hlp⟩ hent Q hQ
      have hlen := hlp.length_eq
      rw [hq] at hlen hlp
      simp at hlen
      have hdn : dn = [] := List.eq_nil_of_length_eq_zero (by omega)
      have hpq : p = q := by
        have : p ∈ [q] := hlp.subset (by simp)
        simpa using this
      subst hpq
      rcases hor with ⟨_, rfl, g3⟩ | ⟨h1, _⟩
      · have hN3 : H.nx + 3 ≤ N := by
          have : H'.nx = H.nx + 3 := by rw [hH']; rfl
          omega
        have hN' : (H.kill d.now).bump.nx ≤ N := by rw [nxb]; omega
        refine wpIn_block (wpIn_seq ?_)
        have hr4 : seqS P [(some 13, .extract (.tmp 12) 0, none), (some 4, .assign (.tmp 13), none)] (f'.putT 12 (.tup [p.1.1, p.1.2])) (H.kill d.now).bump = some ((((f'.putT 12 (.tup [p.1.1, p.1.2])).putT 13 p.1.1).putT 4 p.1.1), (H.kill d.now).bump) := by
          simp [seqS, opA, aev, vA, Fr.put_some, hnt', Fr.nt_putT, Fr.get_putT, opExtract, nth]
        have hp : p ∈ ps := by rw [hq]; simp
        refine entry_region e4 hr4 hN' g9 ra'.itm (by rw [hnt']; omega) hent (ra'.prs p hp).1 (ra'.prs p hp).2 ra'.st ra'.fr _ fun m5 a5 w5 s5 st5 fr5 => ?_
        obtain ⟨f5, hf5⟩ : ∃ f5, f5 = (((f'.putT 12 (.tup [p.1.1, p.1.2])).putT 13 p.1.1).putT 4 p.1.1) := ⟨_, rfl⟩
        rw [← hf5] at fr5
        have g50 : f5.get 0 = .ptr d.b d.o := by rw [hf5]; simp [Fr.get_putT, g0]
        have g53 : f5.get 3 = .snil := by rw [hf5]; simp [Fr.get_putT, g3]
        have g54 : f5.get 4 = .str s := by rw [hf5, hqe]; simp [Fr.get_putT]
        have g59 : f5.get 9 = .ptr H.nx 0 := by rw [hf5]; simp [Fr.get_putT, g9]
        have nt5 : f5.nt = 26 := by rw [hf5]; simp [Fr.nt_putT, hnt']
        have df5 : f5.df = [] := by rw [hf5]; simp [Fr.df_putT, hdf']
        have hr5 : seqS P [(some 14, .move (.tmp 0), none), (some 15, .nilCheck (.tmp 14), none), (some 16, .fieldAddr tD (.tmp 15) 5, none), (some 17, .load tB (.tmp 16), none), (some 18, .unOp .not tB (.tmp 17), none)] f5 (H.kill d.now).bump =
            some (((((f5.putT 14 (.ptr d.b d.o)).putT 15 (.ptr d.b d.o)).putT 16 (.ptr d.b (d.o + 5))).putT 17 (.bool d.down)).putT 18 (.bool (!d.down)), (H.kill d.now).bump) := by
          simp [seqS, opA, aev, vA, Fr.put_some, nt5, Fr.nt_putT, g50, Fr.get_putT, opNilCheck, opFieldAddr, sh.fld5, ptrAdd, opLoad, loadVarA, sh.aggB, ld5', opUn, unA]
        refine wpIn_seq ((seqS_region e5 hr5).2 N m5 w5 a5 none hN' st5 fr5 _ fun m6 a6 w6 s6 st6 fr6 => ?_)
        obtain ⟨f6, hf6⟩ : ∃ f6, f6 = ((((f5.putT 14 (.ptr d.b d.o)).putT 15 (.ptr d.b d.o)).putT 16 (.ptr d.b (d.o + 5))).putT 17 (.bool d.down)).putT 18 (.bool (!d.down)) := ⟨_, rfl⟩
        rw [← hf6] at fr6
        have g60 : f6.get 0 = .ptr d.b d.o := by rw [hf6]; simp [Fr.get_putT, g50]
        have g63 : f6.get 3 = .snil := by rw [hf6]; simp [Fr.get_putT, g53]
        have g64 : f6.get 4 = .str s := by rw [hf6]; simp [Fr.get_putT, g54]
        have g69 : f6.get 9 = .ptr H.nx 0 := by rw [hf6]; simp [Fr.get_putT, g59]
        have g618 : f6.get 18 = .bool true := by rw [hf6, hdown]; simp [Fr.get_putT]
        have nt6 : f6.nt = 26 := by rw [hf6]; simp [Fr.nt_putT, nt5]
        have df6 : f6.df = [] := by rw [hf6]; simp [Fr.df_putT, df5]
        have hc : a6.eval (.tmp 18) = .bool true := by
          have := aev_rel fr6.ev (x := .tmp 18) rfl
          rw [g618] at this
          generalize a6.eval (.tmp 18) = u at this
          cases this
          rfl
        have hHb : ∃ Hb, Hb = (H.kill d.now).bump.grown (.cells false 1 [.str s]) := ⟨_, rfl⟩
        obtain ⟨Hb, hHb⟩ := hHb
        have hbuild : opBuildSlice P (H.kill d.now).bump tL 1 (some [(0, .str s)]) = some (.val (.slice (H.nx + 1) 0 1 1) Hb) := by
          have hb : buildSliceA P tL 1 [(0, .str s)] = some (.cells false 1 [.str s]) := by
            unfold buildSliceA
            rw [sh.slL]
            show buildSl 1 [(0, .str s)] (sizeT P tK) (zeroT P tK) = _
            rw [sh.szK, sh.zeK]
            rfl
          show newSl (H.kill d.now).bump 1 (buildSliceA P tL 1 [(0, .str s)]) = _
          rw [hb]
          show newA (H.kill d.now).bump (.cells false 1 [.str s]) (fun b => .slice b 0 1 1) = _
          unfold newA
          rw [room_of (by rw [nxb]; omega), hHb]
          rfl
        have hgetb : Hb.get (H.nx + 1) = some (.cells false 1 [.str s]) := by
          rw [hHb, AH.get_grown _ _ _ (by rw [nxb]; omega) (by omega), nxb, if_pos rfl]
        have happ : appendA P tL tL .snil (.slice (H.nx + 1) 0 1 1) Hb = some (.val (.slice (H.nx + 2) 0 1 1) (Hb.grown (.cells true 1 [.str s]))) := by
          unfold appendA
          rw [sh.slL]
          show append1 P Hb .snil (.slice (H.nx + 1) 0 1 1) tK = _
          unfold append1
          rw [sh.szK, sh.byK, sh.zeK]
          show appendN Hb .snil 0 0 1 1 16 (.str []) (loadA Hb (H.nx + 1) 0 (Nat.mul 1 1)) = _
          have hl : loadA Hb (H.nx + 1) 0 (Nat.mul 1 1) = some [.str s] := by
            unfold loadA
            rw [hgetb]
            rfl
          rw [hl]
          show newA Hb (.cells true 1 [.str s]) (fun b => .slice b 0 1 1) = _
          unfold newA
          have hnb : Hb.nx = H.nx + 2 := by rw [hHb]; rfl
          rw [room_of (by omega), hnb]
        have hr6 : seqS P [(some 19, .move (.tmp 3), none), (some 20, .move (.tmp 4), none), (some 21, .buildSlice tL 1 #[(0, .tmp 20)], none), (some 22, .call ⟨.builtin .append, #[.tmp 19, .tmp 21], #[tL, tL]⟩, none), (some 3, .assign (.tmp 22), none)] f6 (H.kill d.now).bump =
            some (((((f6.putT 19 .snil).putT 20 (.str s)).putT 21 (.slice (H.nx + 1) 0 1 1)).putT 22 (.slice (H.nx + 2) 0 1 1)).putT 3 (.slice (H.nx + 2) 0 1 1), Hb.grown (.cells true 1 [.str s])) := by
          simp [seqS, opA, aev, aevs, consO, pairsA, pairO, vA, Fr.put_some, nt6, Fr.nt_putT, g63, g64, Fr.get_putT, opCall, opCallee, builtinA, builtinR, builtin2, hbuild, happ]
        refine wpIn_cond_true hc ((seqS_region e6 hr6).2 N m6 w6 a6 none (by rw [hHb]; show H.nx + 1 + 1 + 1 ≤ N; omega) st6 fr6 _ fun m7 a7 w7 s7 st7 fr7 => ?_)
        refine hQ m7 a7 w7 _ _ ((s5.trans s6).trans s7) st7 fr7 ⟨by simp [Fr.get_putT, g60], by simp [Fr.get_putT, g69], by simp [Fr.nt_putT, nt6], by simp [Fr.df_putT, df6], .inr ⟨by rw [hdn]; rfl, by rw [hHb], by simp [Fr.get_putT]⟩⟩
      · rw [hdn] at h1; cases h1
    case hEnd =>
      rintro dn' m5 H5 w5 f5 a5 seen5 hp5 ra5 ⟨g0, g9, nt5, df5, hor⟩
      show Exit.inBlock id0 _ (.exit id0) a5 w5
      simp only [Exit.inBlock, if_true]
      rcases hor with ⟨h1, _⟩ | ⟨_, rfl, g3⟩
      · exfalso
        have := hp5.length_eq
        rw [h1, hq] at this
        simp at this
      · refine rest _ f5 _ m5 a5 w5 ra5.stp ra5.st ra5.fr ?_ (.inr ⟨_, rfl⟩) g3 nt5 df5 hv.symm
        refine ⟨by rw [hH']; rfl, fun j hj => .inl ?_⟩
        have k1 : ∀ x j, j < mH → ((H.kill d.now).bump.grown x).get j = if j = H.nx + 1 then some x else (H.kill d.now).bump.get j := fun x j hj => AH.get_grown _ x j (by rw [nxb]; omega) hj
        have k2 : ∀ x j, j < mH → (H.bump.grown x).get j = if j = H.nx + 1 then some x else H.bump.get j := fun x j hj => AH.get_grown _ x j (by rw [AH.nx_bump]; omega) hj
        have k3 : ∀ x y j, j < mH → (((H.kill d.now).bump.grown x).grown y).get j = if j = H.nx + 2 then some y else ((H.kill d.now).bump.grown x).get j := fun x y j hj => AH.get_grown _ y j (by show H.nx + 1 + 1 < mH; omega) hj
        have k4 : ∀ x y j, j < mH → ((H.bump.grown x).grown y).get j = if j = H.nx + 2 then some y else (H.bump.grown x).get j := fun x y j hj => AH.get_grown _ y j (by show H.nx + 1 + 1 < mH; omega) hj
        have hnlt : d.now < H.nx := st3.ok.lt hnowm hnow
        rw [hH', AH.get_put _ _ _ _ hnowm hj, k3 _ _ _ hj, k4 _ _ _ hj, k1 _ _ hj, k2 _ _ hj, AH.get_bump, AH.get_bump, AH.get_kill _ _ _ hnowm hj]
        by_cases h1 : j = H.nx + 2
        · rw [if_pos h1, if_neg (by omega), if_pos h1]
        · rw [if_neg h1, if_neg h1]
          by_cases h2 : j = H.nx + 1
          · rw [if_pos h2, if_neg (by omega), if_pos h2]
          · rw [if_neg h2, if_neg h2]
            by_cases h3 : j = d.now
            · rw [if_pos h3, h3]; exact hnow
            · rw [if_neg h3, if_neg h3]
end
end Go.Ev
/- pack.Sum, by its code. -/
namespace Go.Ev
open Go Go.RowKit Go.ChangeMaps

section
variable {P : Program}
theorem loop_count {F : Fence} {c : Code} {Q : Exit → Act → World → Prop} {n : Nat} (I : Nat → Act → World → Prop) (hs : ∀ i a w, i < n → I i a w → c.wpIn F 0 P (Exit.then (I (i + 1)) Q) a w)
    (he : ∀ a w K, I n a w → c.wpIn F 0 P (Exit.then K Q) a w) : ∀ k i a w, i + k = n → I i a w → LoopN F P c Q (k + 1) a w := by
  intro k
  induction k with
  | zero => intro i a w hk hi; have : i = n := by omega
            subst this; exact he a w _ hi
  | succ k ih =>
    intro i a w hk hi
    show c.wpIn F 0 P (Exit.then (LoopN F P c Q (k + 1)) Q) a w
    refine wpIn_mono (hs i a w (by omega) hi) fun e a' w' hq => ?_
    cases e <;> first | exact hq | skip
    exact ih (i + 1) a' w' (by omega) hq
def u32 (n : Nat) : AV := .int .u32 (.ofNat n)
structure SumShape (P : Program) (fn : Func) (tS tE tU tI tV : TypeId) : Prop where
  nt : fn.ntmps = 33
  res : fn.results.toList = [.tmp 2]
  code : ∃ i0 i1 i2 i3 i4 i5 i6 i7 i8 i9 i10 i11 i12 i13 i14 id0 id1 id2 id3 r0 r1 r2 r3 r4 r5 r6 r7 r8 r9 r10 r11 r12 r13 r14, fn.body = some (.seq (.region i0 r0 false) (.seq (.region i1 r1 false) (.seq (.seq (.region i2 r2 false) (.block id0 (.loop (.seq (.region i3 r3 false) (.seq (.cond (.tmp 11) .skip (.exit id0)) (.seq (.block id1 (.seq (.region i4 r4 false) (.seq (.region i5 r5 false) (.seq (.region i6 r6 false) (.block id2 (.loop (.seq (.seq (.region i7 r7 false) (.cond (.tmp 19) .skip (.exit id2))) (.seq (.block id3 (.seq (.region i9 r9 false) (.seq (.region i10 r10 false) (.seq (.region i11 r11 false) (.cond (.tmp 27) (.region i12 r12 false) .skip))))) (.region i8 r8 false))))))))) (.region i13 r13 false))))))) (.seq (.region i14 r14 false) .ret)))) ∧
    r0.toList.map strip = [(some 2, .assign (.const (.int .u32 0)), none)] ∧ r1.toList.map strip = [(some 3, .assign (.const (.int .u32 4294967295)), none)] ∧
    r2.toList.map strip = [(some 8, .move (.tmp 0), none), (some 9, .call ⟨.builtin .len, #[.tmp 8], #[tS]⟩, none), (some 10, .move (.const (.int .i64 0)), none)] ∧
    r3.toList.map strip = [(some 11, .binOp .lss tI (.tmp 10) (.tmp 9) tI, none)] ∧
    r4.toList.map strip = [(some 12, .indexAddr tS (.tmp 8) (.tmp 10), none), (some 13, .load tE (.tmp 12), none), (some 5, .assign (.tmp 13), none)] ∧
    r5.toList.map strip = [(some 14, .move (.tmp 3), none), (some 15, .move (.tmp 5), none), (some 16, .convert tE tU (.tmp 15), none), (some 17, .binOp .xor tU (.tmp 14) (.tmp 16) tU, none), (some 3, .assign (.tmp 17), none)] ∧
    r6.toList.map strip = [(some 6, .assign (.const (.int .i64 0)), none)] ∧
    r7.toList.map strip = [(some 18, .move (.tmp 6), none), (some 19, .binOp .lss tI (.tmp 18) (.const (.int .i64 8)) tI, none)] ∧
    r9.toList.map strip = [(some 22, .move (.tmp 3), none), (some 23, .binOp .and tU (.tmp 22) (.const (.int .u32 1)) tU, none), (some 7, .assign (.tmp 23), none)] ∧
    r10.toList.map strip = [(some 24, .move (.tmp 3), none), (some 25, .binOp .shr tU (.tmp 24) (.const (.int .u64 1)) tV, none), (some 3, .assign (.tmp 25), none)] ∧
    r11.toList.map strip = [(some 26, .move (.tmp 7), none), (some 27, .binOp .eql tU (.tmp 26) (.const (.int .u32 1)) tU, none)] ∧
    r12.toList.map strip = [(some 28, .move (.tmp 3), none), (some 29, .binOp .xor tU (.tmp 28) (.const (.int .u32 2197175160)) tU, none), (some 3, .assign (.tmp 29), none)] ∧
    r8.toList.map strip = [(some 20, .move (.tmp 6), none), (some 21, .binOp .add tI (.tmp 20) (.const (.int .i64 1)) tI, none), (some 6, .assign (.tmp 21), none)] ∧
    r13.toList.map strip = [(some 30, .binOp .add tI (.tmp 10) (.const (.int .i64 1)) tI, none), (some 10, .move (.tmp 30), none)] ∧
    r14.toList.map strip = [(some 31, .move (.tmp 3), none), (some 32, .unOp .xor tU (.tmp 31), none), (some 2, .assign (.tmp 32), none)]
  slS : P.underlying tS = some (.slice tE)
  aggE : aggT P tE = some false
  szE : sizeT P tE = some 1
  inE : P.underlying tE = some (.int .u8)
  inU : P.underlying tU = some (.int .u32)
noncomputable def step8 (h : Nat) : Nat := Bool.rec (Nat.shiftRight h 1) (Nat.xor (Nat.shiftRight h 1) 2197175160) (Nat.beq (Nat.land h 1) 1)
theorem crc8_zero (h : Nat) : crc8 h 0 = h := rfl
theorem crc8_head (h n : Nat) : crc8 h (n + 1) = crc8 (step8 h) n := rfl
theorem crc8_succ : ∀ (n h : Nat), crc8 h (n + 1) = step8 (crc8 h n)
  | 0, h => rfl
  | n + 1, h => by rw [crc8_head, crc8_succ n (step8 h), crc8_head]
theorem shiftRight_lt {h : Nat} (hh : h < 4294967296) : Nat.shiftRight h 1 < 4294967296 := by
  show h >>> 1 < _
  rw [Nat.shiftRight_eq_div_pow]
  omega
theorem xor_lt {a b : Nat} (ha : a < 4294967296) (hb : b < 4294967296) : Nat.xor a b < 4294967296 := by
  show a ^^^ b < 2 ^ 32
  exact Nat.xor_lt_two_pow (by simpa using ha) (by simpa using hb)
theorem step8_lt {h : Nat} (hh : h < 4294967296) : step8 h < 4294967296 := by
  unfold step8
  cases Nat.beq (Nat.land h 1) 1 with
  | false => exact shiftRight_lt hh
  | true => exact xor_lt (shiftRight_lt hh) (by decide)
theorem crc8_lt : ∀ (n : Nat) {h : Nat}, h < 4294967296 → crc8 h n < 4294967296
  | 0, _, hh => hh
  | n + 1, h, hh => by rw [crc8_head]; exact crc8_lt n (step8_lt hh)
theorem small32 {x y : Nat} (hx : x < 4294967296) (hy : y < 4294967296) (f : Nat → Nat → AV) (g : Unit → AV) : small .u32 (.ofNat x) (.ofNat y) f g = f x y := by
  unfold small
  have h1 : Nat.ble (Nat.succ x) (top .u32) = true := Nat.ble_eq_true_of_le hx
  have h2 : Nat.ble (Nat.succ y) (top .u32) = true := Nat.ble_eq_true_of_le hy
  simp only [h1, h2]
  rfl
theorem bin_and {t : TypeId} {x y : Nat} (hx : x < 4294967296) (hy : y < 4294967296) : binA P .and t (u32 x) (u32 y) = some (u32 (Nat.land x y)) := by
  show some (andA .u32 (.ofNat x) (.ofNat y)) = _
  unfold andA
  rw [small32 hx hy]
  rfl
theorem bin_xor {t : TypeId} {x y : Nat} (hx : x < 4294967296) (hy : y < 4294967296) : binA P .xor t (u32 x) (u32 y) = some (u32 (Nat.xor x y)) := by
  show some (xorA .u32 (.ofNat x) (.ofNat y)) = _
  unfold xorA
  rw [small32 hx hy]
  rfl
theorem bin_shr {t : TypeId} {x : Nat} : binA P .shr t (u32 x) (.int .u64 (.ofNat 1)) = some (u32 (Nat.shiftRight x 1)) := by
  show some (AV.int .u32 (.ofNat (Nat.div x (Nat.pow 2 1)))) = _
  have : Nat.div x (Nat.pow 2 1) = Nat.shiftRight x 1 := by
    show x / 2 ^ 1 = x >>> 1
    rw [Nat.shiftRight_eq_div_pow]
  rw [this]
  rfl
theorem bin_lss {t : TypeId} {x y : Nat} : binA P .lss t (nA x) (nA y) = some (.bool (Nat.ble (Nat.succ x) y)) := rfl
theorem bin_eql {t : TypeId} {x y : Nat} : binA P .eql t (u32 x) (u32 y) = some (.bool (Nat.beq x y)) := rfl
theorem bin_add {t : TypeId} {x y : Nat} (h : x + y < 9223372036854775808) : binA P .add t (nA x) (nA y) = some (nA (x + y)) := by
  show some (AV.int .i64 (wr .i64 (Int.add (.ofNat x) (.ofNat y)))) = _
  have : Int.add (.ofNat x) (.ofNat y) = .ofNat (x + y) := rfl
  rw [this]
  unfold wr
  have h3 : Nat.ble (top .i64) (x + y) = false := by
    cases hb : Nat.ble (top .i64) (x + y) with
    | false => rfl
    | true =>
      have : 9223372036854775808 ≤ x + y := Nat.le_of_ble_eq_true hb
      omega
  simp only [h3]
  rfl
theorem not_u32 {h : Nat} (hh : h < 4294967296) : unA .xor (u32 h) = some (u32 (Nat.xor h 4294967295)) := by
  show some (xorG .u32 4294967295 (.ofNat h)) = _
  unfold xorG
  have h1 : (BitVec.ofInt 32 4294967295 ^^^ BitVec.ofInt 32 (Int.ofNat h)).toNat = Nat.xor h 4294967295 := by
    rw [BitVec.toNat_xor]
    have e1 : (BitVec.ofInt 32 4294967295).toNat = 4294967295 := by decide
    have e2 : (BitVec.ofInt 32 (Int.ofNat h)).toNat = h := by
      rw [BitVec.toNat_ofInt]
      show ((h : Int) % 4294967296).toNat = h
      omega
    rw [e1, e2, Nat.xor_comm]
    rfl
  have h2 : Nat.xor h 4294967295 < 4294967296 := xor_lt hh (by decide)
  show some (AV.int .u32 (IntKind.wrap .u32 ((BitVec.ofInt 32 4294967295 ^^^ BitVec.ofInt 32 (Int.ofNat h)).toNat : Int))) = _
  rw [h1]
  generalize Nat.xor h 4294967295 = y at h2
  have : IntKind.wrap .u32 (y : Int) = .ofNat y := by
    simp [IntKind.wrap, IntKind.bits, IntKind.signed]
    omega
  rw [this]
  rfl
theorem crcL_cons {v : AV} {l : List AV} {h hf : Nat} (e : crcL (v :: l) h = some hf) : ∃ x, v = .int .u8 (.ofNat x) ∧ x < 256 ∧ crcL l (crc8 (Nat.xor h x) 8) = some hf := by
  unfold crcL at e
  split at e
  · rename_i k x
    split at e
    · rename_i hk
      have hk : (kEq k .u8 && Nat.ble x 255) = true := hk
      rw [Bool.and_eq_true] at hk
      have hx := Nat.le_of_ble_eq_true hk.2
      refine ⟨x, ?_, by omega, e⟩
      have : k = .u8 := by cases k <;> first | rfl | (have := hk.1; cases this)
      rw [this]
    · cases e
  · cases e
theorem sum_some {args : List AV} {H H' : AH} {v : AV} (h : sumP args H = some (v, H')) : H' = H ∧ ((args = [.snil] ∧ v = u32 0) ∨
    ∃ b o n c l hf, args = [.slice b o n c] ∧ n < 9223372036854775808 ∧ loadA H b o n = some l ∧ crcL l 4294967295 = some hf ∧ v = u32 (Nat.xor hf 4294967295)) := by
  unfold sumP at h
  split at h
  · injection h with h
    injection h with h1 h2
    exact ⟨h2.symm, .inl ⟨rfl, h1.symm⟩⟩
  · rename_i b o n c
    split at h
    · rename_i hn
      unfold sumC at h
      split at h
      · rename_i l hl
        unfold sumO at h
        split at h
        · rename_i hf hc
          injection h with h
          injection h with h1 h2
          refine ⟨h2.symm, .inr ⟨b, o, n, c, l, hf, rfl, ?_, hl, hc, h1.symm⟩⟩
          rcases Nat.lt_or_ge n 9223372036854775808 with h3 | h3
          · exact h3
          · have : Nat.ble (top .i64) n = true := Nat.ble_eq_true_of_le h3
            rw [this] at hn; cases hn
        · cases h
      · cases h
    · cases h
  · cases h
theorem evalBool {m : BM} {r : Option Nat} {f : Fr} {a : Act} (fr : FrRel m r f a) {t : Nat} {b : Bool} (h : f.get t = .bool b) : a.eval (.tmp t) = .bool b := by
  have := aev_rel fr.ev (x := .tmp t) rfl
  rw [h] at this
  generalize a.eval (.tmp t) = u at this
  cases this
  rfl
theorem sum_sound (hp : Plain P) {g : FuncId} {fn : Func} (hg : P.funcs[g]? = some fn) {tS tE tU tI tV : TypeId} (sh : SumShape P fn tS tE tU tI tV) {args : List AV} {H H' : AH} {v : AV} (h : sumP args H = some (v, H')) :
    H.nx ≤ H'.nx ∧ CallS P g args H v H' := by
  obtain ⟨rfl, hcase⟩ := sum_some h
  -- one form for both
  obtain ⟨x, n, l, hf, hargs, hn, hlenl, hcrc, hv, hlenA, hload⟩ : ∃ x n l hf, args = [x] ∧ n < 9223372036854775808 ∧ l.length = n ∧ crcL l 4294967295 = some hf ∧ v = u32 (Nat.xor hf 4294967295) ∧
      lenA P x H' (P.underlying tS) = some (nA n) ∧ ∀ i, i < n → ∃ b o c, x = .slice b o n c ∧ load1 H' b (o + i) = l[i]? := by
    rcases hcase with ⟨h1, h2⟩ | ⟨b, o, n, c, l, hf, h1, h2, h3, h4, h5⟩
    · refine ⟨.snil, 0, [], 4294967295, h1, by omega, rfl, rfl, h2, by rw [sh.slS]; rfl, fun i hi => by omega⟩
    · have hl : l.length = n := by
        unfold loadA at h3
        split at h3
        · rename_i cs hcs
          unfold inRange at h3
          split at h3
          · rename_i hle
            injection h3 with h3
            have := Nat.le_of_ble_eq_true hle
            rw [len_eq] at this
            have this : o + n ≤ cs.length := this
            rw [← h3, cut_eq]
            simp
            omega
          · cases h3
        · cases h3
      refine ⟨_, n, l, hf, h1, h2, hl, h4, h5, by rw [sh.slS]; rfl, fun i hi => ⟨b, o, c, rfl, ?_⟩⟩
      have : l[i]? = some l[i] := List.getElem?_eq_getElem (by omega)
      rw [this]
      exact load_nth h3 this
  obtain ⟨i0, i1, i2, i3, i4, i5, i6, i7, i8, i9, i10, i11, i12, i13, i14, id0, id1, id2, id3, r0, r1, r2, r3, r4, r5, r6, r7, r8, r9, r10, r11, r12, r13, r14, hbody, e0, e1, e2, e3, e4, e5, e6, e7, e9, e10, e11, e12, e8, e13, e14⟩ := sh.code
  refine ⟨Nat.le_refl _, walk_fn hp hg hbody (by rw [sh.nt]; omega) (by rw [hargs, sh.nt]; simp) fun N m w a f hN st fr hdf hrd hnt hget => ?_⟩
  have hnt : f.nt = 33 := hnt.trans sh.nt
  have hg0 : f.get 0 = x := by rw [hget, hargs]; rfl
  have c0 : convZ (.int .u32 0) = some (u32 0) := rfl
  have c1 : convZ (.int .u32 4294967295) = some (u32 4294967295) := rfl
  have c2 : convZ (.int .i64 0) = some (nA 0) := rfl
  have c3 : convZ (.int .i64 8) = some (nA 8) := rfl
  have c4 : convZ (.int .u32 1) = some (u32 1) := rfl
  have c5 : convZ (.int .u64 1) = some (.int .u64 (.ofNat 1)) := rfl
  have c6 : convZ (.int .u32 2197175160) = some (u32 2197175160) := rfl
  have c7 : convZ (.int .i64 1) = some (nA 1) := rfl
  have s0 : seqS P [(some 2, .assign (.const (.int .u32 0)), none)] f H' = some (f.putT 2 (u32 0), H') := by
    simp [seqS, opA, aev, c0, vA, Fr.put_some, hnt]
  refine wpIn_seq ((seqS_region e0 s0).2 N m w a none hN st fr _ fun m1 a1 w1 s1 st1 fr1 => ?_)
  have s1' : seqS P [(some 3, .assign (.const (.int .u32 4294967295)), none)] (f.putT 2 (u32 0)) H' = some ((f.putT 2 (u32 0)).putT 3 (u32 4294967295), H') := by
    simp [seqS, opA, aev, c1, vA, Fr.put_some, hnt, Fr.nt_putT]
  refine wpIn_seq ((seqS_region e1 s1').2 N m1 w1 a1 none hN st1 fr1 _ fun m2 a2 w2 s2 st2 fr2 => ?_)
  obtain ⟨f2, hf2⟩ : ∃ f2, f2 = (f.putT 2 (u32 0)).putT 3 (u32 4294967295) := ⟨_, rfl⟩
  rw [← hf2] at fr2
  have g20 : f2.get 0 = x := by rw [hf2]; simp [Fr.get_putT, hg0]
  have g23 : f2.get 3 = u32 4294967295 := by rw [hf2]; simp [Fr.get_putT]
  have nt2 : f2.nt = 33 := by rw [hf2]; simp [Fr.nt_putT, hnt]
  have df2 : f2.df = [] := by rw [hf2]; exact hdf
  have s2' : seqS P [(some 8, .move (.tmp 0), none), (some 9, .call ⟨.builtin .len, #[.tmp 8], #[tS]⟩, none), (some 10, .move (.const (.int .i64 0)), none)] f2 H' = some (((f2.putT 8 x).putT 9 (nA n)).putT 10 (nA 0), H') := by
    simp [seqS, opA, aev, aevs, consO, c2, vA, Fr.put_some, nt2, Fr.nt_putT, g20, Fr.get_putT, opCall, opCallee, builtinA, builtinR, builtin1, hlenA]
  refine wpIn_seq (wpIn_seq ((seqS_region e2 s2').2 N m2 w2 a2 none hN st2 fr2 _ fun m3 a3 w3 s3 st3 fr3 => ?_))
  -- the state at the loop's head
  have hl0 : crcL (l.drop 0) 4294967295 = some hf := hcrc
  let S : Nat → Act → World → Prop := fun i a' w' => ∃ m' f' hi, Stp m H' w m' H' w' ∧ St N m' H' w' ∧ FrRel m' none f' a' ∧ f'.get 8 = x ∧ f'.get 9 = nA n ∧ f'.get 10 = nA i ∧ f'.get 3 = u32 hi ∧ hi < 4294967296 ∧ crcL (l.drop i) hi = some hf ∧ f'.nt = 33 ∧ f'.df = []
  have start : S 0 a3 w3 := ⟨m3, _, _, (s1.trans s2).trans s3, st3, fr3, by simp [Fr.get_putT], by simp [Fr.get_putT], by simp [Fr.get_putT], by simp [Fr.get_putT, g23], by decide, hl0, by simp [Fr.nt_putT, nt2], by simp [Fr.df_putT, df2]⟩
  have head : ∀ (i : Nat) (m' : BM) (f' : Fr) a' w', St N m' H' w' → FrRel m' none f' a' → f'.get 9 = nA n → f'.get 10 = nA i → f'.nt = 33 → ∀ Q, (∀ m2 a2 w2, Stp m' H' w' m2 H' w2 → St N m2 H' w2 → FrRel m2 none (f'.putT 11 (.bool (Nat.ble (Nat.succ i) n))) a2 → Q .normal a2 w2) → (Code.region i3 r3 false).wpIn (FW none) 0 P Q a' w' := by
    intro i m' f' a' w' st' fr' g9 g10 nt' Q hQ
    have hr : seqS P [(some 11, .binOp .lss tI (.tmp 10) (.tmp 9) tI, none)] f' H' = some (f'.putT 11 (.bool (Nat.ble (Nat.succ i) n)), H') := by
      simp [seqS, opA, aev, vA, Fr.put_some, nt', g9, g10, opBin, bin_lss]
    exact (seqS_region e3 hr).2 N m' w' a' none hN st' fr' Q hQ
  refine wpIn_block (wpIn_loopN (loop_count (n := n) S ?hs ?he n 0 a3 w3 (by omega) start))
  case hs =>
    rintro i a' w' hi ⟨m', f', hh, q1, q2, q3, g8, g9, g10, g3, hlt, hc, nt', df'⟩
    refine wpIn_seq (head i m' f' a' w' q2 q3 g9 g10 nt' _ fun m4 a4 w4 s4 st4 fr4 => ?_)
    have hle : Nat.ble (Nat.succ i) n = true := Nat.ble_eq_true_of_le hi
    refine wpIn_seq (wpIn_cond_true (evalBool fr4 (t := 11) (b := true) (by rw [Fr.get_putT _ _ _ _ (by omega), if_pos rfl, hle])) (wpIn_skip (wpIn_seq (wpIn_block (wpIn_seq ?_)))))
    obtain ⟨f4, hf4⟩ : ∃ f4, f4 = f'.putT 11 (.bool (Nat.ble (Nat.succ i) n)) := ⟨_, rfl⟩
    rw [← hf4] at fr4
    have g48 : f4.get 8 = x := by rw [hf4]; simp [Fr.get_putT, g8]
    have g49 : f4.get 9 = nA n := by rw [hf4]; simp [Fr.get_putT, g9]
    have g410 : f4.get 10 = nA i := by rw [hf4]; simp [Fr.get_putT, g10]
    have g43 : f4.get 3 = u32 hh := by rw [hf4]; simp [Fr.get_putT, g3]
    have nt4 : f4.nt = 33 := by rw [hf4]; simp [Fr.nt_putT, nt']
    have df4 : f4.df = [] := by rw [hf4]; simp [Fr.df_putT, df']
    have hil : i < l.length := by omega
    rw [List.drop_eq_getElem_cons hil] at hc
    obtain ⟨y, hy, hy256, hc'⟩ := crcL_cons hc
    obtain ⟨b, o, c, hx, hld⟩ := hload i hi
    rw [List.getElem?_eq_getElem hil, hy] at hld
    have hidx : indexAddrA P tS x (natOf (nA i)) = some (.ptr b (o + i)) := by
      rw [hx]
      show indexAddrN P (.slice b o n c) i (P.underlying tS) = _
      rw [sh.slS]
      show atIndex b o i n (sizeT P tE) = _
      rw [sh.szE]
      unfold atIndex
      have : Nat.ble n i = false := by
        cases hb : Nat.ble n i with
        | false => rfl
        | true => have := Nat.le_of_ble_eq_true hb; omega
      rw [this]
      show some (AV.ptr b (o + i * 1)) = _
      rw [Nat.mul_one]
    have hr4 : seqS P [(some 12, .indexAddr tS (.tmp 8) (.tmp 10), none), (some 13, .load tE (.tmp 12), none), (some 5, .assign (.tmp 13), none)] f4 H' =
        some (((f4.putT 12 (.ptr b (o + i))).putT 13 (.int .u8 (.ofNat y))).putT 5 (.int .u8 (.ofNat y)), H') := by
      simp only [seqS, opA, aev, vA, Fr.put_some, nt4, Fr.nt_putT, g48, g410, Fr.get_putT, opIndexAddr, hidx, opLoad, loadVarA, sh.aggE, hld, Nat.reduceLT, Nat.reduceEqDiff, if_true, if_false]
    refine (seqS_region e4 hr4).2 N m4 w4 a4 none hN st4 fr4 _ fun m5 a5 w5 s5 st5 fr5 => wpIn_seq ?_
    obtain ⟨f5, hf5⟩ : ∃ f5, f5 = ((f4.putT 12 (.ptr b (o + i))).putT 13 (.int .u8 (.ofNat y))).putT 5 (.int .u8 (.ofNat y)) := ⟨_, rfl⟩
    rw [← hf5] at fr5
    have g58 : f5.get 8 = x := by rw [hf5]; simp [Fr.get_putT, g48]
    have g59 : f5.get 9 = nA n := by rw [hf5]; simp [Fr.get_putT, g49]
    have g510 : f5.get 10 = nA i := by rw [hf5]; simp [Fr.get_putT, g410]
    have g53 : f5.get 3 = u32 hh := by rw [hf5]; simp [Fr.get_putT, g43]
    have g55 : f5.get 5 = .int .u8 (.ofNat y) := by rw [hf5]; simp [Fr.get_putT]
    have nt5 : f5.nt = 33 := by rw [hf5]; simp [Fr.nt_putT, nt4]
    have df5 : f5.df = [] := by rw [hf5]; simp [Fr.df_putT, df4]
    have hconv : convA P tE tU (.int .u8 (.ofNat y)) H' = some (.val (u32 y) H') := by
      unfold convA
      rw [sh.inE, sh.inU]
      show some (AR.val (.int .u32 (wr .u32 (.ofNat y))) H') = _
      unfold wr
      have : Nat.ble (top .u32) y = false := by
        cases hb : Nat.ble (top .u32) y with
        | false => rfl
        | true => have : 4294967296 ≤ y := Nat.le_of_ble_eq_true hb; omega
      simp only [this]
      rfl
    have hxor : binA P .xor tU (u32 hh) (u32 y) = some (u32 (Nat.xor hh y)) := bin_xor hlt (by omega)
    have hr5 : seqS P [(some 14, .move (.tmp 3), none), (some 15, .move (.tmp 5), none), (some 16, .convert tE tU (.tmp 15), none), (some 17, .binOp .xor tU (.tmp 14) (.tmp 16) tU, none), (some 3, .assign (.tmp 17), none)] f5 H' =
        some (((((f5.putT 14 (u32 hh)).putT 15 (.int .u8 (.ofNat y))).putT 16 (u32 y)).putT 17 (u32 (Nat.xor hh y))).putT 3 (u32 (Nat.xor hh y)), H') := by
      simp only [seqS, opA, aev, vA, Fr.put_some, nt5, Fr.nt_putT, g53, g55, Fr.get_putT, opConv, hconv, opBin, hxor, Nat.reduceLT, Nat.reduceEqDiff, if_true, if_false]
    refine (seqS_region e5 hr5).2 N m5 w5 a5 none hN st5 fr5 _ fun m6 a6 w6 s6 st6 fr6 => wpIn_seq ?_
    obtain ⟨f6, hf6⟩ : ∃ f6, f6 = ((((f5.putT 14 (u32 hh)).putT 15 (.int .u8 (.ofNat y))).putT 16 (u32 y)).putT 17 (u32 (Nat.xor hh y))).putT 3 (u32 (Nat.xor hh y)) := ⟨_, rfl⟩
    rw [← hf6] at fr6
    have g68 : f6.get 8 = x := by rw [hf6]; simp [Fr.get_putT, g58]
    have g69 : f6.get 9 = nA n := by rw [hf6]; simp [Fr.get_putT, g59]
    have g610 : f6.get 10 = nA i := by rw [hf6]; simp [Fr.get_putT, g510]
    have g63 : f6.get 3 = u32 (Nat.xor hh y) := by rw [hf6]; simp [Fr.get_putT]
    have nt6 : f6.nt = 33 := by rw [hf6]; simp [Fr.nt_putT, nt5]
    have df6 : f6.df = [] := by rw [hf6]; simp [Fr.df_putT, df5]
    have hr6 : seqS P [(some 6, .assign (.const (.int .i64 0)), none)] f6 H' = some (f6.putT 6 (nA 0), H') := by
      simp only [seqS, opA, aev, vA, c2, Fr.put_some, nt6, Nat.reduceLT]
    refine (seqS_region e6 hr6).2 N m6 w6 a6 none hN st6 fr6 _ fun m7 a7 w7 s7 st7 fr7 => ?_
    have hx0 : Nat.xor hh y < 4294967296 := xor_lt hlt (by omega)
    -- the inner loop
    let T : Nat → Act → World → Prop := fun j a' w' => ∃ m' f', Stp m H' w m' H' w' ∧ St N m' H' w' ∧ FrRel m' none f' a' ∧ f'.get 8 = x ∧ f'.get 9 = nA n ∧ f'.get 10 = nA i ∧ f'.get 6 = nA j ∧ f'.get 3 = u32 (crc8 (Nat.xor hh y) j) ∧ f'.nt = 33 ∧ f'.df = []
    have start2 : T 0 a7 w7 := ⟨m7, _, ((q1.trans s4).trans (s5.trans s6)).trans s7, st7, fr7, by simp [Fr.get_putT, g68], by simp [Fr.get_putT, g69], by simp [Fr.get_putT, g610], by simp [Fr.get_putT], by simp [Fr.get_putT, g63, crc8_zero], by simp [Fr.nt_putT, nt6], by simp [Fr.df_putT, df6]⟩
    have head2 : ∀ (j : Nat) (m' : BM) (f' : Fr) a' w', St N m' H' w' → FrRel m' none f' a' → f'.get 6 = nA j → f'.nt = 33 → ∀ Q, (∀ m2 a2 w2, Stp m' H' w' m2 H' w2 → St N m2 H' w2 → FrRel m2 none ((f'.putT 18 (nA j)).putT 19 (.bool (Nat.ble (Nat.succ j) 8))) a2 → Q .normal a2 w2) → (Code.region i7 r7 false).wpIn (FW none) 0 P Q a' w' := by
      intro j m' f' a' w' st' fr' g6 nt' Q hQ
      have hr : seqS P [(some 18, .move (.tmp 6), none), (some 19, .binOp .lss tI (.tmp 18) (.const (.int .i64 8)) tI, none)] f' H' = some ((f'.putT 18 (nA j)).putT 19 (.bool (Nat.ble (Nat.succ j) 8)), H') := by
        simp only [seqS, opA, aev, vA, c3, Fr.put_some, nt', Fr.nt_putT, g6, Fr.get_putT, opBin, bin_lss, Nat.reduceLT, if_true]
      exact (seqS_region e7 hr).2 N m' w' a' none hN st' fr' Q hQ
    refine wpIn_block (wpIn_loopN (loop_count (n := 8) T ?hs2 ?he2 8 0 a7 w7 rfl start2))
    case hs2 =>
      rintro j a' w' hj ⟨m', f', q1, q2, q3, g8, g9, g10, g6, g3, nt', df'⟩
      refine wpIn_seq (wpIn_seq (head2 j m' f' a' w' q2 q3 g6 nt' _ fun m4 a4 w4 s4 st4 fr4 => ?_))
      have hle : Nat.ble (Nat.succ j) 8 = true := Nat.ble_eq_true_of_le hj
      refine wpIn_cond_true (evalBool fr4 (t := 19) (b := true) (by rw [Fr.get_putT _ _ _ _ (by omega), if_pos rfl, hle])) (wpIn_skip (wpIn_seq (wpIn_block (wpIn_seq ?_))))
      obtain ⟨f4, hf4⟩ : ∃ f4, f4 = (f'.putT 18 (nA j)).putT 19 (.bool (Nat.ble (Nat.succ j) 8)) := ⟨_, rfl⟩
      rw [← hf4] at fr4
      have g48 : f4.get 8 = x := by rw [hf4]; simp [Fr.get_putT, g8]
      have g49 : f4.get 9 = nA n := by rw [hf4]; simp [Fr.get_putT, g9]
      have g410 : f4.get 10 = nA i := by rw [hf4]; simp [Fr.get_putT, g10]
      have g46 : f4.get 6 = nA j := by rw [hf4]; simp [Fr.get_putT, g6]
      have nt4 : f4.nt = 33 := by rw [hf4]; simp [Fr.nt_putT, nt']
      have df4 : f4.df = [] := by rw [hf4]; simp [Fr.df_putT, df']
      obtain ⟨h, hh'⟩ : ∃ h, h = crc8 (Nat.xor hh y) j := ⟨_, rfl⟩
      have hlt' : h < 4294967296 := by rw [hh']; exact crc8_lt j hx0
      have hnext : crc8 (Nat.xor hh y) (j + 1) = step8 h := by rw [crc8_succ, hh']
      have g43 : f4.get 3 = u32 h := by rw [hf4]; simp [Fr.get_putT, g3, hh']
      have hr9 : seqS P [(some 22, .move (.tmp 3), none), (some 23, .binOp .and tU (.tmp 22) (.const (.int .u32 1)) tU, none), (some 7, .assign (.tmp 23), none)] f4 H' =
          some (((f4.putT 22 (u32 h)).putT 23 (u32 (Nat.land h 1))).putT 7 (u32 (Nat.land h 1)), H') := by
        have hb : binA P .and tU (u32 h) (u32 1) = some (u32 (Nat.land h 1)) := bin_and hlt' (by decide)
        simp only [seqS, opA, aev, vA, c4, Fr.put_some, nt4, Fr.nt_putT, g43, Fr.get_putT, opBin, hb, Nat.reduceLT, Nat.reduceEqDiff, if_true, if_false]
      refine (seqS_region e9 hr9).2 N m4 w4 a4 none hN st4 fr4 _ fun m5 a5 w5 s5 st5 fr5 => wpIn_seq ?_
      obtain ⟨f5, hf5⟩ : ∃ f5, f5 = ((f4.putT 22 (u32 h)).putT 23 (u32 (Nat.land h 1))).putT 7 (u32 (Nat.land h 1)) := ⟨_, rfl⟩
      rw [← hf5] at fr5
      have g58 : f5.get 8 = x := by rw [hf5]; simp [Fr.get_putT, g48]
      have g59 : f5.get 9 = nA n := by rw [hf5]; simp [Fr.get_putT, g49]
      have g510 : f5.get 10 = nA i := by rw [hf5]; simp [Fr.get_putT, g410]
      have g56 : f5.get 6 = nA j := by rw [hf5]; simp [Fr.get_putT, g46]
      have g53 : f5.get 3 = u32 h := by rw [hf5]; simp [Fr.get_putT, g43]
      have g57 : f5.get 7 = u32 (Nat.land h 1) := by rw [hf5]; simp [Fr.get_putT]
      have nt5 : f5.nt = 33 := by rw [hf5]; simp [Fr.nt_putT, nt4]
      have df5 : f5.df = [] := by rw [hf5]; simp [Fr.df_putT, df4]
      have hr10 : seqS P [(some 24, .move (.tmp 3), none), (some 25, .binOp .shr tU (.tmp 24) (.const (.int .u64 1)) tV, none), (some 3, .assign (.tmp 25), none)] f5 H' =
          some (((f5.putT 24 (u32 h)).putT 25 (u32 (Nat.shiftRight h 1))).putT 3 (u32 (Nat.shiftRight h 1)), H') := by
        simp only [seqS, opA, aev, vA, c5, Fr.put_some, nt5, Fr.nt_putT, g53, Fr.get_putT, opBin, bin_shr, Nat.reduceLT, Nat.reduceEqDiff, if_true, if_false]
      refine (seqS_region e10 hr10).2 N m5 w5 a5 none hN st5 fr5 _ fun m6 a6 w6 s6 st6 fr6 => wpIn_seq ?_
      obtain ⟨f6, hf6⟩ : ∃ f6, f6 = ((f5.putT 24 (u32 h)).putT 25 (u32 (Nat.shiftRight h 1))).putT 3 (u32 (Nat.shiftRight h 1)) := ⟨_, rfl⟩
      rw [← hf6] at fr6
      have g68 : f6.get 8 = x := by rw [hf6]; simp [Fr.get_putT, g58]
      have g69 : f6.get 9 = nA n := by rw [hf6]; simp [Fr.get_putT, g59]
      have g610 : f6.get 10 = nA i := by rw [hf6]; simp [Fr.get_putT, g510]
      have g66 : f6.get 6 = nA j := by rw [hf6]; simp [Fr.get_putT, g56]
      have g63 : f6.get 3 = u32 (Nat.shiftRight h 1) := by rw [hf6]; simp [Fr.get_putT]
      have g67 : f6.get 7 = u32 (Nat.land h 1) := by rw [hf6]; simp [Fr.get_putT, g57]
      have nt6 : f6.nt = 33 := by rw [hf6]; simp [Fr.nt_putT, nt5]
      have df6 : f6.df = [] := by rw [hf6]; simp [Fr.df_putT, df5]
      have hr11 : seqS P [(some 26, .move (.tmp 7), none), (some 27, .binOp .eql tU (.tmp 26) (.const (.int .u32 1)) tU, none)] f6 H' =
          some ((f6.putT 26 (u32 (Nat.land h 1))).putT 27 (.bool (Nat.beq (Nat.land h 1) 1)), H') := by
        simp only [seqS, opA, aev, vA, c4, Fr.put_some, nt6, Fr.nt_putT, g67, Fr.get_putT, opBin, bin_eql, Nat.reduceLT, if_true]
      refine (seqS_region e11 hr11).2 N m6 w6 a6 none hN st6 fr6 _ fun m7 a7 w7 s7 st7 fr7 => ?_
      obtain ⟨f7, hf7⟩ : ∃ f7, f7 = (f6.putT 26 (u32 (Nat.land h 1))).putT 27 (.bool (Nat.beq (Nat.land h 1) 1)) := ⟨_, rfl⟩
      rw [← hf7] at fr7
      have g78 : f7.get 8 = x := by rw [hf7]; simp [Fr.get_putT, g68]
      have g79 : f7.get 9 = nA n := by rw [hf7]; simp [Fr.get_putT, g69]
      have g710 : f7.get 10 = nA i := by rw [hf7]; simp [Fr.get_putT, g610]
      have g76 : f7.get 6 = nA j := by rw [hf7]; simp [Fr.get_putT, g66]
      have g73 : f7.get 3 = u32 (Nat.shiftRight h 1) := by rw [hf7]; simp [Fr.get_putT, g63]
      have g727 : f7.get 27 = .bool (Nat.beq (Nat.land h 1) 1) := by rw [hf7]; simp [Fr.get_putT]
      have nt7 : f7.nt = 33 := by rw [hf7]; simp [Fr.nt_putT, nt6]
      have df7 : f7.df = [] := by rw [hf7]; simp [Fr.df_putT, df6]
      -- the round's end
      have fin : ∀ (m' : BM) (f' : Fr) a' w', Stp m H' w m' H' w' → St N m' H' w' → FrRel m' none f' a' → f'.get 8 = x → f'.get 9 = nA n → f'.get 10 = nA i → f'.get 6 = nA j → f'.get 3 = u32 (step8 h) → f'.nt = 33 → f'.df = [] → ∀ Q : Exit → Act → World → Prop, (∀ a2 w2, T (j + 1) a2 w2 → Q .normal a2 w2) → (Code.region i8 r8 false).wpIn (FW none) 0 P Q a' w' := by
        intro m' f' a' w' q1 q2 q3 g8 g9 g10 g6 g3 nt' df' Q hQ
        have hb : binA P .add tI (nA j) (nA 1) = some (nA (j + 1)) := bin_add (by omega)
        have hr8 : seqS P [(some 20, .move (.tmp 6), none), (some 21, .binOp .add tI (.tmp 20) (.const (.int .i64 1)) tI, none), (some 6, .assign (.tmp 21), none)] f' H' =
            some (((f'.putT 20 (nA j)).putT 21 (nA (j + 1))).putT 6 (nA (j + 1)), H') := by
          simp only [seqS, opA, aev, vA, c7, Fr.put_some, nt', Fr.nt_putT, g6, Fr.get_putT, opBin, hb, Nat.reduceLT, Nat.reduceEqDiff, if_true, if_false]
        refine (seqS_region e8 hr8).2 N m' w' a' none hN q2 q3 Q fun m9 a9 w9 s9 st9 fr9 => hQ a9 w9 ⟨m9, _, q1.trans s9, st9, fr9, by simp [Fr.get_putT, g8], by simp [Fr.get_putT, g9], by simp [Fr.get_putT, g10], by simp [Fr.get_putT], ?_, by simp [Fr.nt_putT, nt'], by simp [Fr.df_putT, df']⟩
        rw [hnext]
        simp [Fr.get_putT, g3]
      cases hbit : Nat.beq (Nat.land h 1) 1 with
      | true =>
        have hb : binA P .xor tU (u32 (Nat.shiftRight h 1)) (u32 2197175160) = some (u32 (Nat.xor (Nat.shiftRight h 1) 2197175160)) := bin_xor (shiftRight_lt hlt') (by decide)
        have hr12 : seqS P [(some 28, .move (.tmp 3), none), (some 29, .binOp .xor tU (.tmp 28) (.const (.int .u32 2197175160)) tU, none), (some 3, .assign (.tmp 29), none)] f7 H' =
            some (((f7.putT 28 (u32 (Nat.shiftRight h 1))).putT 29 (u32 (Nat.xor (Nat.shiftRight h 1) 2197175160))).putT 3 (u32 (Nat.xor (Nat.shiftRight h 1) 2197175160)), H') := by
          simp only [seqS, opA, aev, vA, c6, Fr.put_some, nt7, Fr.nt_putT, g73, Fr.get_putT, opBin, hb, Nat.reduceLT, Nat.reduceEqDiff, if_true, if_false]
        refine wpIn_cond_true (evalBool fr7 (by rw [g727, hbit])) ((seqS_region e12 hr12).2 N m7 w7 a7 none hN st7 fr7 _ fun m8 a8 w8 s8 st8 fr8 => ?_)
        refine fin m8 _ a8 w8 (((q1.trans s4).trans (s5.trans s6)).trans (s7.trans s8)) st8 fr8 (by simp [Fr.get_putT, g78]) (by simp [Fr.get_putT, g79]) (by simp [Fr.get_putT, g710]) (by simp [Fr.get_putT, g76]) ?_ (by simp [Fr.nt_putT, nt7]) (by simp [Fr.df_putT, df7]) _ fun a2 w2 ht => ht
        have hst : step8 h = Nat.xor (Nat.shiftRight h 1) 2197175160 := by unfold step8; rw [hbit]
        rw [hst]
        simp [Fr.get_putT]
      | false =>
        refine wpIn_cond_false (evalBool fr7 (by rw [g727, hbit])) (wpIn_skip ?_)
        refine fin m7 f7 a7 w7 (((q1.trans s4).trans (s5.trans s6)).trans s7) st7 fr7 g78 g79 g710 g76 ?_ nt7 df7 _ fun a2 w2 ht => ht
        have hst : step8 h = Nat.shiftRight h 1 := by unfold step8; rw [hbit]
        rw [hst]
        exact g73
    case he2 =>
      rintro a' w' K ⟨m', f', q1, q2, q3, g8, g9, g10, g6, g3, nt', df'⟩
      refine wpIn_seq (wpIn_seq (head2 8 m' f' a' w' q2 q3 g6 nt' _ fun m4 a4 w4 s4 st4 fr4 => ?_))
      refine wpIn_cond_false (evalBool fr4 (t := 19) (b := false) (by rw [Fr.get_putT _ _ _ _ (by omega), if_pos rfl]; rfl)) (wpIn_exit ?_)
      show Exit.inBlock id2 _ (.exit id2) a4 w4
      simp only [Exit.inBlock, if_true]
      have hb : binA P .add tI (nA i) (nA 1) = some (nA (i + 1)) := bin_add (by omega)
      have h13 : seqS P [(some 30, .binOp .add tI (.tmp 10) (.const (.int .i64 1)) tI, none), (some 10, .move (.tmp 30), none)] ((f'.putT 18 (nA 8)).putT 19 (.bool (Nat.ble (Nat.succ 8) 8))) H' =
          some (((((f'.putT 18 (nA 8)).putT 19 (.bool (Nat.ble (Nat.succ 8) 8))).putT 30 (nA (i + 1))).putT 10 (nA (i + 1))), H') := by
        simp only [seqS, opA, aev, vA, c7, Fr.put_some, nt', Fr.nt_putT, g10, Fr.get_putT, opBin, hb, Nat.reduceLT, Nat.reduceEqDiff, if_true, if_false]
      refine (seqS_region e13 h13).2 N m4 w4 a4 none hN st4 fr4 _ fun m5 a5 w5 s5 st5 fr5 => ?_
      exact ⟨m5, _, _, (q1.trans s4).trans s5, st5, fr5, by simp [Fr.get_putT, g8], by simp [Fr.get_putT, g9], by simp [Fr.get_putT], by simp [Fr.get_putT, g3], crc8_lt 8 hx0, hc', by simp [Fr.nt_putT, nt'], by simp [Fr.df_putT, df']⟩
  case he =>
    rintro a' w' K ⟨m', f', hh, q1, q2, q3, g8, g9, g10, g3, hlt, hc, nt', df'⟩
    refine wpIn_seq (head n m' f' a' w' q2 q3 g9 g10 nt' _ fun m4 a4 w4 s4 st4 fr4 => ?_)
    have hle : Nat.ble (Nat.succ n) n = false := by
      cases hb : Nat.ble (Nat.succ n) n with
      | false => rfl
      | true => have := Nat.le_of_ble_eq_true hb; omega
    refine wpIn_seq (wpIn_cond_false (evalBool fr4 (t := 11) (b := false) (by rw [Fr.get_putT _ _ _ _ (by omega), if_pos rfl, hle])) (wpIn_exit ?_))
    show Exit.inBlock id0 _ (.exit id0) a4 w4
    simp only [Exit.inBlock, if_true]
    have hhf : hh = hf := by
      rw [List.drop_eq_nil_of_le (by omega)] at hc
      have hc : some hh = some hf := hc
      injection hc
    subst hhf
    have hnot := not_u32 hlt
    have h14 : seqS P [(some 31, .move (.tmp 3), none), (some 32, .unOp .xor tU (.tmp 31), none), (some 2, .assign (.tmp 32), none)] (f'.putT 11 (.bool (Nat.ble (Nat.succ n) n))) H' =
        some ((((f'.putT 11 (.bool (Nat.ble (Nat.succ n) n))).putT 31 (u32 hh)).putT 32 (u32 (Nat.xor hh 4294967295))).putT 2 (u32 (Nat.xor hh 4294967295)), H') := by
      simp only [seqS, opA, aev, vA, Fr.put_some, nt', Fr.nt_putT, g3, Fr.get_putT, opUn, hnot, Nat.reduceLT, Nat.reduceEqDiff, if_true, if_false]
    refine wpIn_seq ((seqS_region e14 h14).2 N m4 w4 a4 none hN st4 fr4 _ fun m5 a5 w5 s5 st5 fr5 => wpIn_ret ⟨.inr rfl, m5, _, [u32 (Nat.xor hh 4294967295)], (q1.trans s4).trans s5, st5, fr5, by simp [Fr.df_putT, df'], ?_, hv.symm⟩)
    rw [sh.res]
    simp [resA, res1, consO, Fr.get_putT]
end
end Go.Ev
/- What a run without primitives comes to, the call comes to; a closed call leaves all as it was. -/
namespace Go.Ev
open Go Go.RowKit Go.ChangeMaps

section
variable {P : Program}
def noPrim : FuncId → Option Prim := fun _ => none
theorem noPrim_ok : PrimOk P noPrim := fun _ _ _ _ _ _ h => by cases h
def pairR : AV → AH → Option (AV × AH) := fun v H => some (v, H)
theorem calls_of_ev (hp : Plain P) (hm : P.follows .mixedOrders = true) {prim : FuncId → Option Prim} (hpr : PrimOk P prim) {m n : Nat} {g : FuncId} {args : List AV} {H H' : AH} {v : AV} (h : ev P prim m n (.call g args H) pairR = some (v, H')) :
    H.nx ≤ H'.nx ∧ CallS P g args H v H' := by
  obtain ⟨v1, H1, h1, h2, h3⟩ := ev_sound (R := AV × AH) hp hm hpr m n _ _ _ h
  have h1 : some (v1, H1) = some (v, H') := h1
  injection h1 with h1
  injection h1 with h4 h5
  subst h4; subst h5
  exact ⟨h2, h3⟩
/-- A closed call that gives a bool: from any state, it leaves the state as it was. -/
theorem closed_call {g : FuncId} {b : Bool} {H1 : AH} (h : CallS P g [] AH.empty (.bool b) H1) (H : AH) : CallS P g [] H (.bool b) H := by
  intro N m w us hN st hla
  have hla' : LRel (fun _ => none) [] us.toList := by
    generalize us.toList = l at hla
    cases hla
    exact .nil
  obtain ⟨nx, w1, h4, h5⟩ := h H1.nx (fun _ => none) w us (Nat.le_refl _) (st_empty _ w) hla'
  refine ⟨nx, w1, h4, NextS.mono (fun v w' => ?_) h5⟩
  rintro ⟨m', s, _, hr⟩
  have hbl := below_of_step s
  have hsz : w.heap.size ≤ w'.heap.size := hbl.size
  refine ⟨m, ⟨.refl m, fun _ h1 h2 => absurd h1 h2, Nat.le_refl _, hsz, hbl.tape, hbl.os, hbl.output, fun B c e f h1 => ⟨c, (hbl.block B (lt_of_get h1)).trans h1, rfl, fun _ _ => rfl⟩, fun B o h1 _ _ => (hbl.block B (lt_of_get h1)).trans h1, fun _ _ h => .inl h⟩, ⟨⟨fun j cb e => ?_, fun j x cb h1 h2 => ?_, st.rel.apart⟩, st.ok, st.free⟩, ?_⟩
  · have := st.rel.dom j cb e; exact ⟨this.1, by omega⟩
  · exact (st.rel.live j x cb h1 h2).of_heap (.refl m) (hbl.block _ (st.rel.dom j cb h2).2)
  · cases hr; exact .bool b
/-- A closed function as a primitive. -/
def boolP (b : Bool) : Prim := fun args H => match args with
  | [] => some (.bool b, H)
  | _ => none
theorem boolP_ok {g : FuncId} {b : Bool} {H1 : AH} (h : CallS P g [] AH.empty (.bool b) H1) {args : List AV} {H H' : AH} {v : AV} (hp : boolP b args H = some (v, H')) : H.nx ≤ H'.nx ∧ CallS P g args H v H' := by
  unfold boolP at hp
  split at hp
  · injection hp with hp
    injection hp with h1 h2
    subst h1; subst h2
    exact ⟨Nat.le_refl _, closed_call h H⟩
  · cases hp
theorem prim4_ok {u n s c : Nat} (hu : ∀ {args H v H'}, usedP args H = some (v, H') → H.nx ≤ H'.nx ∧ CallS P u args H v H') (hn : ∀ {args H v H'}, namesP args H = some (v, H') → H.nx ≤ H'.nx ∧ CallS P n args H v H')
    (hs : ∀ {args H v H'}, settleP args H = some (v, H') → H.nx ≤ H'.nx ∧ CallS P s args H v H') (hc : ∀ {args H v H'}, sumP args H = some (v, H') → H.nx ≤ H'.nx ∧ CallS P c args H v H') : PrimOk P (primOf u n s c) := by
  intro g p args H v H' hg hv
  unfold primOf at hg
  split at hg
  · rename_i h
    have h := Nat.eq_of_beq_eq_true h
    injection hg with hg; subst h; subst hg
    exact hu hv
  · split at hg
    · rename_i h
      have h := Nat.eq_of_beq_eq_true h
      injection hg with hg; subst h; subst hg
      exact hn hv
    · split at hg
      · rename_i h
        have h := Nat.eq_of_beq_eq_true h
        injection hg with hg; subst h; subst hg
        exact hs hv
      · split at hg
        · rename_i h
          have h := Nat.eq_of_beq_eq_true h
          injection hg with hg; subst h; subst hg
          exact hc hv
        · cases hg
theorem bool_call (hp : Plain P) (hm : P.follows .mixedOrders = true) {prim : FuncId → Option Prim} (hpr : PrimOk P prim) {m n : Nat} {g : FuncId} {b : Bool} (h : ev P prim m n (.call g [] AH.empty) boolR = some b) : ∃ H1, CallS P g [] AH.empty (.bool b) H1 := by
  obtain ⟨v, H1, h1, h2, h3⟩ := ev_sound (R := Bool) hp hm hpr m n _ _ _ h
  unfold boolR at h1
  split at h1
  · injection h1 with h1
    subst h1
    exact ⟨H1, h3⟩
  · cases h1
/-- One function more. -/
noncomputable def orPrim (k : Nat) (p : Prim) (prim : FuncId → Option Prim) (g : FuncId) : Option Prim :=
  match Nat.beq g k with
  | true => some p
  | false => prim g
theorem orPrim_ok {k : Nat} {p : Prim} {prim : FuncId → Option Prim} (h : ∀ {args H v H'}, p args H = some (v, H') → H.nx ≤ H'.nx ∧ CallS P k args H v H') (hp : PrimOk P prim) : PrimOk P (orPrim k p prim) := by
  intro g q args H v H' hg hv
  unfold orPrim at hg
  split at hg
  · rename_i he
    have he := Nat.eq_of_beq_eq_true he
    injection hg with hg; subst he; subst hg
    exact h hv
  · exact hp g q args H v H' hg hv
/-- Is no function one of the model's own? -/
def plainB (P : Program) : Bool := P.funcs.toList.all fun fn => !(fn.name == "runtime.NumGoroutine")
theorem plain_of (h : plainB P = true) : Plain P := by
  intro g fn hg he
  have hm : fn ∈ P.funcs.toList := by
    rw [← Array.getElem?_toList] at hg
    exact List.mem_of_getElem? hg
  have := List.all_eq_true.1 h fn hm
  rw [he] at this
  simp at this
end
end Go.Ev
/- Calls told by what they came to: what the table says, the call does. -/
namespace Go.Ev
open Go Go.RowKit Go.ChangeMaps

section
variable {P : Program}
theorem sameEs_eq : ∀ {a b : List (AV × AV)}, sameEs a b = true → a = b
  | [], [], _ => rfl
  | [], _ :: _, h => by cases h
  | _ :: _, [], h => by cases h
  | x :: a, y :: b, h => by
    have h' : (sbeq x.1 y.1 && (sbeq x.2 y.2 && sameEs a b)) = true := h
    simp only [Bool.and_eq_true] at h'
    have h1 := sbeq_eq h'.1
    have h2 := sbeq_eq h'.2.1
    rw [sameEs_eq h'.2.2, show x = y from Prod.ext h1 h2]
theorem sameBlk_eq {a b : ABlk} (h : sameBlk a b = true) : a = b := by
  unfold sameBlk at h
  split at h
  · split at h
    · have h' : (bEq _ _ && (Nat.beq _ _ && lbeq _ _)) = true := h
      simp only [Bool.and_eq_true, bEq_iff, Nat.beq_eq] at h'
      rw [h'.1, h'.2.1, lbeq_eq h'.2.2]
    · cases h
  · split at h
    · rw [sameEs_eq h]
    · cases h
  · cases h
theorem covers_mem {H : AH} : ∀ {l : Bl}, covers H l = true → ∀ e ∈ l, e.1 < mH ∧ H.get e.1 = some e.2
  | [], _, e, he => by cases he
  | x :: l, h, e, he => by
    have h' : (Nat.ble (Nat.succ x.1) mH && (sameAt x.2 (H.get x.1) && covers H l)) = true := h
    simp only [Bool.and_eq_true] at h'
    rcases List.mem_cons.1 he with rfl | he
    · refine ⟨Nat.le_of_ble_eq_true h'.1, ?_⟩
      have h2 := h'.2.1
      unfold sameAt at h2
      split at h2
      · rename_i y hy
        rw [hy, sameBlk_eq h2]
      · cases h2
    · exact covers_mem h'.2.2 e he
theorem lbeqA_eq : ∀ {a b : List AV}, lbeqA a b = true → a = b
  | [], [], _ => rfl
  | [], _ :: _, h => by cases h
  | _ :: _, [], h => by cases h
  | x :: a, y :: b, h => by
    have h' : (abeq x y && lbeqA a b) = true := h
    rw [Bool.and_eq_true] at h'
    rw [abeq_eq h'.1, lbeqA_eq h'.2]
theorem vsame_eq {a b : AV} (h : vsame a b = true) : a = b := by
  unfold vsame at h
  split at h
  · split at h
    · rw [lbeq_eq h]
    · cases h
  · exact abeq_eq h
theorem putL_get : ∀ (l : Bl) (t : HT dH) (b : Nat), (∀ e ∈ l, e.1 < mH) → b < mH → (HT.get dH (putL t l) b = HT.get dH (putL (HT.empty dH) l) b ∧ ∃ e ∈ l, e.1 = b ∧ HT.get dH (putL t l) b = some e.2) ∨ ((∀ e ∈ l, e.1 ≠ b) ∧ HT.get dH (putL t l) b = HT.get dH t b)
  | [], t, b, _, _ => .inr ⟨fun e he => (by cases he), rfl⟩
  | x :: l, t, b, hl, hb => by
    have hx := hl x List.mem_cons_self
    have h1 : HT.get dH (putL t (x :: l)) b = if b = x.1 then some x.2 else HT.get dH (putL t l) b := HT.get_put dH (putL t l) x.1 b (some x.2) hx hb
    have h2 : HT.get dH (putL (HT.empty dH) (x :: l)) b = if b = x.1 then some x.2 else HT.get dH (putL (HT.empty dH) l) b := HT.get_put dH (putL (HT.empty dH) l) x.1 b (some x.2) hx hb
    by_cases hbx : b = x.1
    · left
      rw [h1, h2, if_pos hbx, if_pos hbx]
      exact ⟨rfl, x, List.mem_cons_self, hbx.symm, rfl⟩
    · rw [h1, h2, if_neg hbx, if_neg hbx]
      rcases putL_get l t b (fun e he => hl e (List.mem_cons_of_mem _ he)) hb with ⟨h3, e, he, h4⟩ | ⟨h3, h4⟩
      · exact .inl ⟨h3, e, List.mem_cons_of_mem _ he, h4⟩
      · refine .inr ⟨fun e he => ?_, h4⟩
        rcases List.mem_cons.1 he with rfl | he
        · exact fun h => hbx h.symm
        · exact h3 e he
theorem killL_get : ∀ (l : Bl) (t : HT dH) (b : Nat), (∀ e ∈ l, e.1 < mH) → b < mH → ((∃ e ∈ l, e.1 = b) ∧ HT.get dH (killL t l) b = none) ∨ ((∀ e ∈ l, e.1 ≠ b) ∧ HT.get dH (killL t l) b = HT.get dH t b)
  | [], t, b, _, _ => .inr ⟨fun e he => (by cases he), rfl⟩
  | x :: l, t, b, hl, hb => by
    have hx := hl x List.mem_cons_self
    have h1 : HT.get dH (HT.put dH t x.1 none) b = if b = x.1 then none else HT.get dH t b := HT.get_put dH t x.1 b none hx hb
    rcases killL_get l (HT.put dH t x.1 none) b (fun e he => hl e (List.mem_cons_of_mem _ he)) hb with ⟨⟨e, he, h2⟩, h3⟩ | ⟨h2, h3⟩
    · exact .inl ⟨⟨e, List.mem_cons_of_mem _ he, h2⟩, h3⟩
    · by_cases hbx : b = x.1
      · left
        refine ⟨⟨x, List.mem_cons_self, hbx.symm⟩, ?_⟩
        show HT.get dH (killL (HT.put dH t x.1 none) l) b = none
        rw [h3, h1, if_pos hbx]
      · right
        refine ⟨fun e he => ?_, ?_⟩
        · rcases List.mem_cons.1 he with rfl | he
          · exact fun h => hbx h.symm
          · exact h2 e he
        · show HT.get dH (killL (HT.put dH t x.1 none) l) b = _
          rw [h3, h1, if_neg hbx]
theorem ofL_get {nx : Nat} {l : Bl} (hl : ∀ e ∈ l, e.1 < mH) {b : Nat} (hb : b < mH) {x : ABlk} (h : (ofL nx l).get b = some x) : ∃ e ∈ l, e.1 = b ∧ x = e.2 := by
  rcases putL_get l (HT.empty dH) b hl hb with ⟨_, e, he, h1, h2⟩ | ⟨_, h2⟩
  · have h : HT.get dH (putL (HT.empty dH) l) b = some x := h
    rw [h2] at h
    injection h with h
    exact ⟨e, he, h1, h.symm⟩
  · have h : HT.get dH (putL (HT.empty dH) l) b = some x := h
    rw [h2, HT.get_empty] at h
    cases h
/-- Part of a heap. -/
def HSub (K H : AH) : Prop := K.nx = H.nx ∧ ∀ b x, b < mH → K.get b = some x → H.get b = some x
theorem hsub_of {H : AH} {nx : Nat} {l : Bl} (hn : H.nx = nx) (hc : covers H l = true) : HSub (ofL nx l) H := by
  have hm := covers_mem hc
  refine ⟨hn.symm, fun b x hb h => ?_⟩
  obtain ⟨e, he, h1, h2⟩ := ofL_get (fun e he => (hm e he).1) hb h
  have := (hm e he).2
  rw [← h1, h2]
  exact this
theorem sub_st {N : Nat} {m : BM} {K H : AH} {w : World} (hs : HSub K H) (st : St N m H w) : St N m K w := by
  refine ⟨st.rel.sub fun b x h1 h2 => ?_, ⟨?_, fun b h1 h2 => ?_⟩, fun b h1 h2 => ?_⟩
  · obtain ⟨cb, hcb⟩ := Option.ne_none_iff_exists'.1 h2
    exact hs.2 b x (st.rel.dom b cb hcb).1 h1
  · rw [hs.1]; exact st.ok.1
  · rw [hs.1] at h1
    cases hk : K.get b with
    | none => rfl
    | some x =>
      have := hs.2 b x h2 hk
      rw [st.ok.2 b h1 h2] at this
      cases this
  · rw [hs.1] at h1
    exact st.free b h1 h2
theorem sub_stp {N : Nat} {m m' : BM} {H0 K H : AH} {w w' : World} (hs : HSub K H) (s : Stp m H0 w m' H w') (st : St N m' H w') : Stp m H0 w m' K w' := by
  refine ⟨s.ext, fun b h1 h2 => ?_, ?_, s.size, s.tape, s.os, s.output, s.cells, s.objs, fun B i ho => ?_⟩
  · rw [hs.1]; exact s.ids b h1 h2
  · rw [hs.1]; exact s.mono
  · obtain ⟨b, x, cb, h1, h2, h3⟩ := ho
    exact s.grow B i ⟨b, x, cb, hs.2 b x (st.rel.dom b cb h2).1 h1, h2, h3⟩
/-- What an entry says. -/
def TEntOk (P : Program) (g : FuncId) (e : TEnt) : Prop := e.nx ≤ e.nx' ∧ (∀ x ∈ e.new, x.1 < mH) ∧ CallS P g e.args (ofL e.nx e.pre) e.v (ofL e.nx' e.new)
theorem tent_ok (hp : Plain P) (hm : P.follows .mixedOrders = true) {prim : FuncId → Option Prim} (hpr : PrimOk P prim) {m n : Nat} {g : FuncId} {e : TEnt} (h : ev P prim m n (.call g e.args (ofL e.nx e.pre)) (chkR e) = some true) : TEntOk P g e := by
  obtain ⟨v, H1, h1, h2, h3⟩ := ev_sound (R := Bool) hp hm hpr m n _ _ _ h
  have h1 : some (vsame v e.v && (Nat.beq H1.nx e.nx' && covers H1 e.new)) = some true := h1
  injection h1 with h1
  simp only [Bool.and_eq_true, Nat.beq_eq] at h1
  obtain ⟨hv, hn, hc⟩ := h1
  have hv := vsame_eq hv
  subst hv
  have hsub := hsub_of hn hc
  refine ⟨by rw [← hn]; exact h2, fun x hx => (covers_mem hc x hx).1, fun N mm w us hN st hla => ?_⟩
  have hN : e.nx' ≤ N := hN
  obtain ⟨nx, w1, h4, h5⟩ := h3 N mm w us (by rw [hn]; exact hN) st hla
  refine ⟨nx, w1, h4, NextS.mono (fun u w' => ?_) h5⟩
  rintro ⟨m', s, st', hr⟩
  exact ⟨m', sub_stp hsub s st', sub_st hsub st', hr⟩
theorem entP_ok {g : FuncId} {e : TEnt} (he : TEntOk P g e) {args : List AV} {H H' : AH} {v : AV} (hn : H.nx = e.nx) (h : entP e args H = some (v, H')) : H.nx ≤ H'.nx ∧ CallS P g args H v H' := by
  unfold entP at h
  split at h
  · rename_i hchk
    have hchk : (lbeqA args e.args && covers H e.pre) = true := hchk
    rw [Bool.and_eq_true] at hchk
    have hargs := lbeqA_eq hchk.1
    have hcov := covers_mem hchk.2
    have hsub := hsub_of hn hchk.2
    injection h with h
    injection h with h1 h2
    subst h1
    obtain ⟨hle, hnew, hcall⟩ := he
    have hnx' : H'.nx = e.nx' := by rw [← h2]
    have hget : ∀ b, H'.get b = HT.get dH (putL (killL H.bl e.pre) e.new) b := fun b => by rw [← h2]; rfl
    refine ⟨by rw [hnx', hn]; exact hle, fun N m w us hN st hla => ?_⟩
    obtain ⟨nx, w1, h4, h5⟩ := hcall N m w us (by show e.nx' ≤ N; rw [← hnx']; exact hN) (sub_st hsub st) (hargs ▸ hla)
    refine ⟨nx, w1, h4, NextS.mono (fun u w' => ?_) h5⟩
    rintro ⟨m', s, st', hr⟩
    have hsome : ∀ b x, b < mH → H'.get b = some x → (ofL e.nx' e.new).get b = some x ∨ ((∀ y ∈ e.pre, y.1 ≠ b) ∧ H.get b = some x) := by
      intro b x hb hx
      rw [hget] at hx
      rcases putL_get e.new (killL H.bl e.pre) b hnew hb with ⟨k1, _⟩ | ⟨k1, k2⟩
      · left
        rw [k1] at hx
        exact hx
      · rw [k2] at hx
        rcases killL_get e.pre H.bl b (fun y hy => (hcov y hy).1) hb with ⟨_, k4⟩ | ⟨k3, k4⟩
        · rw [k4] at hx; cases hx
        · right
          rw [k4] at hx
          exact ⟨k3, hx⟩
    have hmb : ∀ b, b < mH → H.get b ≠ none → m' b ≠ none → m b ≠ none := by
      intro b hb h1 h2 h3
      have := (s.ids b h3 h2).1
      have this : e.nx ≤ b := this
      obtain ⟨x, hx⟩ := Option.ne_none_iff_exists'.1 h1
      have := st.ok.lt hb hx
      omega
    obtain ⟨r, s2⟩ := Rel.merge (NA := H.nx) (NB := H'.nx) (hh' := H'.get) st.rel (fun j y h1 h2 => by
        obtain ⟨c, hc⟩ := Option.ne_none_iff_exists'.1 h2
        exact hsub.2 j y (st.rel.dom j c hc).1 h1) s st'.rel (fun j y h1 h2 => by
        obtain ⟨c, hc⟩ := Option.ne_none_iff_exists'.1 h2
        have hj := (st'.rel.dom j c hc).1
        rcases hsome j y hj h1 with h3 | ⟨h3, h6⟩
        · exact .inl h3
        · right
          refine ⟨hmb j hj (by rw [h6]; exact Option.some_ne_none _) h2, ?_, h6⟩
          cases hk : (ofL e.nx e.pre).get j with
          | none => rfl
          | some z =>
            obtain ⟨y', hy', h7, _⟩ := ofL_get (fun y hy => (hcov y hy).1) hj hk
            exact absurd h7 (h3 y' hy')) (fun b h1 h2 => by rw [hn, hnx']; exact s.ids b h1 h2) (by rw [hn, hnx']; exact hle)
    refine ⟨m', s2, ⟨r, ⟨by rw [hnx']; exact st'.ok.1, fun b h1 h2 => ?_⟩, fun b h1 h2 => ?_⟩, hr⟩
    · cases hk : H'.get b with
      | none => rfl
      | some x =>
        rw [hnx'] at h1
        rcases hsome b x h2 hk with h3 | ⟨_, h3⟩
        · rw [st'.ok.2 b h1 h2] at h3; cases h3
        · have := st.ok.lt h2 h3
          omega
    · rw [hnx'] at h1
      exact st'.free b h1 h2
  · cases h
theorem tabP_ok {g : FuncId} : ∀ {l : List TEnt}, (∀ e ∈ l, TEntOk P g e) → ∀ {args : List AV} {H H' : AH} {v : AV}, tabP l args H = some (v, H') → H.nx ≤ H'.nx ∧ CallS P g args H v H'
  | [], _, args, H, H', v, h => by cases h
  | e :: l, hl, args, H, H', v, h => by
    have h : (match Nat.beq H.nx e.nx with
      | true => entP e args H
      | false => tabP l args H) = some (v, H') := h
    split at h
    · rename_i hn
      exact entP_ok (hl e List.mem_cons_self) (Nat.eq_of_beq_eq_true hn) h
    · exact tabP_ok (fun x hx => hl x (List.mem_cons_of_mem _ hx)) h
theorem tent_of (e : TEnt) {g : FuncId} {v : AV} {H1 : AH} (hc : chk e v H1 = true) (h : QS P (.call g e.args (ofL e.nx e.pre)) v H1) : TEntOk P g e := by
  obtain ⟨h2, h3⟩ := h
  have h1 : (vsame v e.v && (Nat.beq H1.nx e.nx' && covers H1 e.new)) = true := hc
  simp only [Bool.and_eq_true, Nat.beq_eq] at h1
  obtain ⟨hv, hn, hcv⟩ := h1
  have hv := vsame_eq hv
  subst hv
  have hsub := hsub_of hn hcv
  refine ⟨by rw [← hn]; exact h2, fun x hx => (covers_mem hcv x hx).1, fun N mm w us hN st hla => ?_⟩
  have hN : e.nx' ≤ N := hN
  obtain ⟨nx, w1, h4, h5⟩ := h3 N mm w us (by rw [hn]; exact hN) st hla
  refine ⟨nx, w1, h4, NextS.mono (fun u w' => ?_) h5⟩
  rintro ⟨m', s, st', hr⟩
  exact ⟨m', sub_stp hsub s st', sub_st hsub st', hr⟩
theorem runs_ok (hp : Plain P) (hm : P.follows .mixedOrders = true) {prim : FuncId → Option Prim} (hpr : PrimOk P prim) {m n : Nat} : ∀ {l : List (FuncId × TEnt)}, runsP P prim m n l = some true → ∀ x ∈ l, TEntOk P x.1 x.2
  | [], _, x, hx => by cases hx
  | y :: l, h, x, hx => by
    have h : ev P prim m n (.call y.1 y.2.args (ofL y.2.nx y.2.pre)) (fun v H => ifC (chk y.2 v H) (runsP P prim m n l)) = some true := h
    obtain ⟨v, H1, h1, h2⟩ := ev_sound (R := Bool) hp hm hpr m n _ _ _ h
    have h1 : ifC (chk y.2 v H1) (runsP P prim m n l) = some true := h1
    unfold ifC at h1
    split at h1
    · rename_i hc
      rcases List.mem_cons.1 hx with rfl | hx
      · exact tent_of _ hc h2
      · exact runs_ok hp hm hpr h1 x hx
    · cases h1
end
end Go.Ev
