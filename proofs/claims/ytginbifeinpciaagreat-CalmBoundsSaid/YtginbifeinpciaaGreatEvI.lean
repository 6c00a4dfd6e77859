/- An abstract machine for the model's code, and its soundness: part I. -/
import Derived.Test.YtginbifeinpciaaGreatEvH
/- Code by what it comes to, piece by piece; regions with guards and pure calls. -/
namespace Go.Ev
open Go Go.RowKit Go.ChangeMaps

section
variable {P : Program}
/-! Code -/
theorem codeS_skip {f : Fr} {H : AH} : CodeS P .skip f H .normal f H := ⟨Nat.le_refl _, fun _ m w a _ _ st fr _ hQ => wpIn_skip (hQ m a w .refl st fr)⟩
theorem codeS_ret {f : Fr} {H : AH} : CodeS P .ret f H .ret f H := ⟨Nat.le_refl _, fun _ m w a _ _ st fr _ hQ => wpIn_ret (hQ m a w .refl st fr)⟩
theorem codeS_exit {id : Nat} {f : Fr} {H : AH} : CodeS P (.exit id) f H (.exit id) f H := ⟨Nat.le_refl _, fun _ m w a _ _ st fr _ hQ => wpIn_exit (hQ m a w .refl st fr)⟩
theorem codeS_seq {x y : Code} {f f1 f2 : Fr} {H H1 H2 : AH} {e : Ex} (g1 : CodeS P x f H .normal f1 H1) (g2 : CodeS P y f1 H1 e f2 H2) : CodeS P (.seq x y) f H e f2 H2 :=
  ⟨Nat.le_trans g1.1 g2.1, fun N m w a r hN st fr Q hQ => wpIn_seq (g1.2 N m w a r (Nat.le_trans g2.1 hN) st fr _ fun m1 a1 w1 s1 st1 fr1 => g2.2 N m1 w1 a1 r hN st1 fr1 Q fun m2 a2 w2 s2 st2 fr2 => hQ m2 a2 w2 (s1.trans s2) st2 fr2)⟩
theorem codeS_out {x y : Code} {f f1 : Fr} {H H1 : AH} {e : Ex} (g1 : CodeS P x f H e f1 H1) (he : e ≠ .normal) : CodeS P (.seq x y) f H e f1 H1 := by
  refine ⟨g1.1, fun N m w a r hN st fr Q hQ => wpIn_seq (g1.2 N m w a r hN st fr _ fun m1 a1 w1 s1 st1 fr1 => ?_)⟩
  have := hQ m1 a1 w1 s1 st1 fr1
  cases e with
  | normal => exact absurd rfl he
  | exit id => exact this
  | ret => exact this
theorem eval_bool {m : BM} {r : Option Nat} {f : Fr} {a : Act} (fr : FrRel m r f a) {c : Operand} {b : Bool} (h : aev f c = some (.bool b)) : a.eval c = .bool b := by
  have := aev_rel fr.ev h
  generalize a.eval c = u at this
  cases this
  rfl
theorem codeS_true {c : Operand} {x y : Code} {f f1 : Fr} {H H1 : AH} {e : Ex} (h : aev f c = some (.bool true)) (g : CodeS P x f H e f1 H1) : CodeS P (.cond c x y) f H e f1 H1 :=
  ⟨g.1, fun N m w a r hN st fr Q hQ => wpIn_cond_true (eval_bool fr h) (g.2 N m w a r hN st fr Q hQ)⟩
theorem codeS_false {c : Operand} {x y : Code} {f f1 : Fr} {H H1 : AH} {e : Ex} (h : aev f c = some (.bool false)) (g : CodeS P y f H e f1 H1) : CodeS P (.cond c x y) f H e f1 H1 :=
  ⟨g.1, fun N m w a r hN st fr Q hQ => wpIn_cond_false (eval_bool fr h) (g.2 N m w a r hN st fr Q hQ)⟩
theorem codeS_block {id : Nat} {x : Code} {f f1 : Fr} {H H1 : AH} {e : Ex} (g : CodeS P x f H e f1 H1) (he : e ≠ .exit id) : CodeS P (.block id x) f H e f1 H1 := by
  refine ⟨g.1, fun N m w a r hN st fr Q hQ => wpIn_block (g.2 N m w a r hN st fr _ fun m1 a1 w1 s1 st1 fr1 => ?_)⟩
  have := hQ m1 a1 w1 s1 st1 fr1
  cases e with
  | normal => exact this
  | exit id' =>
    have hne : ¬ id' = id := fun h => he (by rw [h])
    show Exit.inBlock id Q (.exit id') a1 w1
    simp only [Exit.inBlock, if_neg hne]
    exact this
  | ret => exact this
theorem codeS_leave {id : Nat} {x : Code} {f f1 : Fr} {H H1 : AH} (g : CodeS P x f H (.exit id) f1 H1) : CodeS P (.block id x) f H .normal f1 H1 := by
  refine ⟨g.1, fun N m w a r hN st fr Q hQ => wpIn_block (g.2 N m w a r hN st fr _ fun m1 a1 w1 s1 st1 fr1 => ?_)⟩
  show Exit.inBlock id Q (.exit id) a1 w1
  simp only [Exit.inBlock, if_true]
  exact hQ m1 a1 w1 s1 st1 fr1
theorem codeS_scope {x : Code} {f f1 : Fr} {H H1 : AH} {e : Ex} (g : CodeS P x f H e f1 H1) : CodeS P (.scope x) f H e f1 H1 := by
  refine ⟨g.1, fun N m w a r hN st fr Q hQ => wpIn_scope (g.2 N m w a r hN st fr _ fun m1 a1 w1 s1 st1 fr1 => ?_)⟩
  have := hQ m1 a1 w1 s1 st1 fr1
  cases e with
  | normal => exact this
  | exit id => exact this
  | ret => exact this
/-- A function. -/
theorem fn_codeS (hp : Plain P) {g : FuncId} {fn : Func} {c : Code} (hg : P.funcs[g]? = some fn) (hb : fn.body = some c) {args : List AV} {H H' : AH} {v : AV} (hn : fn.ntmps ≤ 256) (hal : args.length ≤ fn.ntmps)
    (hw : ∀ f : Fr, f.df = [] → f.rd = none → f.nt = fn.ntmps → (∀ t, f.get t = (args[t]?).getD Ev.und) → ∃ e f1 vs, (e = .normal ∨ e = .ret) ∧ CodeS P c f H e f1 H' ∧ f1.df = [] ∧ resA P H' f1 fn.results.toList = some vs ∧ packA vs = v) :
    H.nx ≤ H'.nx ∧ CallS P g args H v H' := by
  have hle : H.nx ≤ H'.nx := by
    obtain ⟨e, f1, vs, _, h, _⟩ := hw ⟨putArgs args 0 .und, [], fn.ntmps, none, g⟩ rfl rfl rfl fun (t : Nat) => by
      show (putArgs args 0 FT.und).get t = _
      rw [putArgs_get args 0 FT.und (by omega) t, FT.und_get]
      by_cases ht : t < args.length
      · rw [if_pos ⟨Nat.zero_le _, by omega⟩]; rfl
      · rw [if_neg (by omega), List.getElem?_eq_none (by omega)]; rfl
    exact h.1
  refine ⟨hle, walk_fn hp hg hb hn hal fun N m w a f hN st fr hdf hrd hnt hget => ?_⟩
  obtain ⟨e, f1, vs, he, h, hdf1, hres, hv⟩ := hw f hdf hrd hnt hget
  refine h.2 N m w a none hN st fr _ fun m1 a1 w1 s1 st1 fr1 => ?_
  rcases he with rfl | rfl
  · exact ⟨.inl rfl, m1, f1, vs, s1, st1, fr1, hdf1, hres, hv⟩
  · exact ⟨.inr rfl, m1, f1, vs, s1, st1, fr1, hdf1, hres, hv⟩

/-! A call that leaves the heap as it was, but for new blocks -/
theorem CallS.keep {g : FuncId} {args : List AV} {H H' : AH} {v : AV} {n : Nat} (h : CallS P g args H v H') (hn : H'.nx = n) (hs : ∀ b x, b < H.nx → b < mH → H.get b = some x → H'.get b = some x) : CallS P g args H v ⟨H.bl, n⟩ := by
  intro N m w us hN st hla
  obtain ⟨nx, w1, h4, h5⟩ := h N m w us (by rw [hn]; exact hN) st hla
  refine ⟨nx, w1, h4, NextS.mono (fun u w' => ?_) h5⟩
  rintro ⟨m', s, st', hr⟩
  have hsub : HSub ⟨H.bl, n⟩ H' := ⟨hn.symm, fun b x hb hx => hs b x (st.ok.lt hb hx) hb hx⟩
  exact ⟨m', sub_stp hsub s st', sub_st hsub st', hr⟩
/-- Pure functions: what they give, and how many numbers of blocks they use up. -/
def PureOk (P : Program) (tbl : FuncId → List AV → Option (AV × Nat)) : Prop := ∀ g args v d, tbl g args = some (v, d) → ∀ H : AH, H.nx + d < mH → CallS P g args H v ⟨H.bl, H.nx + d⟩
def gdOk (ds : List (Option Tmp)) (f : Fr) : Option (Nat × Bool) → Bool
  | none => true
  | some (j, w) => match (ds[j]?).bind id with
    | some d => boolIs w (f.get d)
    | none => false
def isLoad : Op → Bool
  | .load _ _ => true
  | _ => false
def kdPR (v : AV) (op : Op) : Kd → Bool
  | .pure => true
  | .read => and (isLoad op) (abeq v v)
  | _ => false
/-- A region in the text's order, in which nothing is turned. -/
noncomputable def seqK (P : Program) (tbl : FuncId → List AV → Option (AV × Nat)) (ds : List (Option Tmp)) : List S3 → Fr → AH → Option (Fr × AH)
  | [], f, H => some (f, H)
  | o :: l, f, H => match gdOk ds f o.2.2 with
    | true => match opA P f H o.2.1 with
      | some (.val v _) => match kdPR v o.2.1 (kindOf P o.2.1) with
        | true => match f.put o.1 v with
          | some f1 => seqK P tbl ds l f1 H
          | none => none
        | false => none
      | some (.enter g args) => match tbl g args with
        | some (v, d) => match Nat.ble (Nat.succ (H.nx + d)) mH with
          | true => match f.put o.1 v with
            | some f1 => seqK P tbl ds l f1 ⟨H.bl, H.nx + d⟩
            | none => none
          | false => none
        | none => none
      | _ => none
    | false => match f.put o.1 Ev.und with
      | some f1 => seqK P tbl ds l f1 H
      | none => none
/-- What is known of an entry of such a run. -/
structure EntC (P : Program) (t : HT dH) (e : Ent) : Prop where
  bl : e.H.bl = t
  read : e.ran = true → kindOf P e.o.op = .read → isLoad e.o.op = true ∧ abeq e.v e.v = true ∧ opA P e.f e.H e.o.op = some (.val e.v e.H)
  new : e.ran = true → kindOf P e.o.op ≠ .new
theorem val_kind {f : Fr} {H H1 : AH} {op : Op} {v : AV} (h : opA P f H op = some (.val v H1)) (hk : kdPR v op (kindOf P op) = true) : H1 = H := by
  cases hkk : kindOf P op with
  | pure =>
    obtain ⟨y, hy⟩ := kind_pure (f := f) hkk
    rw [hy H] at h
    cases y with
    | none => cases h
    | some y => injection h with h; injection h with _ h; exact h.symm
  | read =>
    obtain ⟨y, hy⟩ := kind_read (f := f) hkk H
    rw [hy] at h
    cases y with
    | none => cases h
    | some y => injection h with h; injection h with _ h; exact h.symm
  | new => rw [hkk] at hk; cases hk
  | chain => rw [hkk] at hk; cases hk
theorem enter_kind {f : Fr} {H : AH} {op : Op} {g : FuncId} {args : List AV} (h : opA P f H op = some (.enter g args)) : kindOf P op = .chain := by
  cases hkk : kindOf P op with
  | pure =>
    obtain ⟨y, hy⟩ := kind_pure (f := f) hkk
    rw [hy H] at h
    cases y with
    | none => cases h
    | some y => injection h with h; cases h
  | read =>
    obtain ⟨y, hy⟩ := kind_read (f := f) hkk H
    rw [hy] at h
    cases y with
    | none => cases h
    | some y => injection h with h; cases h
  | new =>
    rcases kind_new (f := f) hkk with hy | ⟨b, k, hy⟩
    · rw [hy H] at h; cases h
    · rw [hy H] at h
      unfold newA at h
      split at h
      · injection h with h; cases h
      · cases h
  | chain => rfl
theorem enter_defer {op : Op} {f : Fr} {H : AH} {g : FuncId} {args : List AV} (h : opA P f H op = some (.enter g args)) : ∀ c, op ≠ .defer c := by
  intro c hc
  subst hc
  have h : opDefer f c.callee (aevs f c.args.toList) = some (.enter g args) := h
  unfold opDefer at h
  split at h
  · split at h
    · unfold dfrA at h
      split at h
      · injection h with h; cases h
      · cases h
    · cases h
  · cases h
theorem gdOk_spec {ops : Array Oper} {ds : List (Option Tmp)} (hds : ops.toList.map (·.dst) = ds) (f : Fr) (g : Option (Nat × Bool)) :
    (gdOk ds f g = true → ∀ j want, g = some (j, want) → ∃ d, dstAt ops j = some d ∧ f.get d = .bool want) ∧ (gdOk ds f g = false → ∃ j want, g = some (j, want) ∧ ¬ ∃ d, dstAt ops j = some d ∧ f.get d = .bool want) := by
  have hd : ∀ j : Nat, (ds[j]?).bind id = dstAt ops j := by
    intro j
    rw [← hds, List.getElem?_map, Array.getElem?_toList]
    unfold dstAt
    cases ops[j]? <;> rfl
  cases g with
  | none => exact ⟨fun _ j want h => (by cases h), fun h => (by cases h)⟩
  | some jw =>
    obtain ⟨j, w⟩ := jw
    refine ⟨fun h j' want e => ?_, fun h => ⟨j, w, rfl, ?_⟩⟩
    · injection e with e
      injection e with e1 e2
      subst e1; subst e2
      unfold gdOk at h
      dsimp only at h
      rw [hd] at h
      split at h
      · rename_i d hdd
        exact ⟨d, hdd, boolIs_iff.1 h⟩
      · cases h
    · rintro ⟨d, h1, h2⟩
      unfold gdOk at h
      dsimp only at h
      rw [hd, h1] at h
      have h : boolIs w (f.get d) = false := h
      rw [boolIs_iff.2 h2] at h
      cases h
theorem seqK_tr {tbl : FuncId → List AV → Option (AV × Nat)} (htb : PureOk P tbl) {ops : Array Oper} {ds : List (Option Tmp)} (hds : ops.toList.map (·.dst) = ds) : ∀ (l : List Oper) {f f' : Fr} {H H' : AH}, seqK P tbl ds (l.map strip) f H = some (f', H') →
    H'.bl = H.bl ∧ (∀ o ∈ l, ∀ c, o.op ≠ .defer c → True) ∧ ∃ tr, Tr P ops l f H tr f' H' ∧ ∀ e ∈ tr, EntC P H.bl e
  | [], f, f', H, H', h => by
    have h : some (f, H) = some (f', H') := h
    injection h with h
    injection h with h1 h2
    subst h1; subst h2
    exact ⟨rfl, fun _ _ _ _ => trivial, [], .nil f H, fun e he => (by cases he)⟩
  | o :: l, f, f', H, H', h => by
    obtain ⟨gs1, gs2⟩ := gdOk_spec hds f o.guard
    simp only [List.map_cons, seqK, strip] at h
    split at h
    · rename_i hg
      split at h
      · rename_i v H1 hop
        split at h
        · rename_i hk
          split at h
          · rename_i f1 hput
            have hH1 := val_kind hop hk
            subst hH1
            obtain ⟨hb, _, tr, ht, hc⟩ := seqK_tr htb hds l h
            refine ⟨hb, fun _ _ _ _ => trivial, ⟨o, f, H1, v, true, none⟩ :: tr, .cons (e := ⟨o, f, H1, v, true, none⟩) ⟨hput, (fun h => by cases h), fun _ => gs1 hg, fun _ => ⟨_, hop, rfl, rfl⟩, fun _ _ => rfl, fun _ _ => rfl, (fun _ hkk => by rw [show kindOf P o.op = .new from hkk] at hk; cases hk), fun _ _ => Nat.le_refl _⟩ ht, fun e he => ?_⟩
            rcases List.mem_cons.1 he with rfl | he
            · refine ⟨rfl, fun _ hkk => ?_, fun _ hkk => ?_⟩
              · have hkk : kindOf P o.op = .read := hkk
                rw [hkk] at hk
                have hk : (isLoad o.op && abeq v v) = true := hk
                rw [Bool.and_eq_true] at hk
                exact ⟨hk.1, hk.2, hop⟩
              · have hkk : kindOf P o.op = .new := hkk
                rw [hkk] at hk; cases hk
            · exact hc e he
          · cases h
        · cases h
      · rename_i g args hop
        split at h
        · rename_i v d htv
          split at h
          · rename_i hroom
            split at h
            · rename_i f1 hput
              have hkc := enter_kind hop
              obtain ⟨hb, _, tr, ht, hc⟩ := seqK_tr htb hds l h
              have hcall := htb g args v d htv H (Nat.le_of_ble_eq_true hroom)
              refine ⟨hb, fun _ _ _ _ => trivial, ⟨o, f, H, v, true, none⟩ :: tr, .cons (e := ⟨o, f, H, v, true, none⟩) ⟨hput, (fun h => by cases h), fun _ => gs1 hg, fun _ => ⟨_, hop, Nat.le_add_right _ _, hcall⟩, (fun _ hkk => by rw [show kindOf P o.op = .pure from hkk] at hkc; cases hkc), (fun _ hkk => by rw [show kindOf P o.op = .read from hkk] at hkc; cases hkc), (fun _ hkk => by rw [show kindOf P o.op = .new from hkk] at hkc; cases hkc), fun _ _ => Nat.le_add_right _ _⟩ ht, fun e he => ?_⟩
              rcases List.mem_cons.1 he with rfl | he
              · refine ⟨rfl, fun _ hkk => ?_, fun _ hkk => ?_⟩
                · rw [show kindOf P o.op = .read from hkk] at hkc; cases hkc
                · rw [show kindOf P o.op = .new from hkk] at hkc; cases hkc
              · exact hc e he
            · cases h
          · cases h
        · cases h
      · cases h
    · rename_i hg
      split at h
      · rename_i f1 hput
        obtain ⟨hb, _, tr, ht, hc⟩ := seqK_tr htb hds l h
        refine ⟨hb, fun _ _ _ _ => trivial, ⟨o, f, H, Ev.und, false, none⟩ :: tr, .cons (e := ⟨o, f, H, Ev.und, false, none⟩) ⟨hput, fun _ => ⟨gs2 hg, rfl, rfl⟩, (fun h => by cases h), (fun h => by cases h), (fun h => by cases h), (fun h => by cases h), (fun h => by cases h), (fun h => by cases h)⟩ ht, fun e he => ?_⟩
        rcases List.mem_cons.1 he with rfl | he
        · exact ⟨rfl, (fun h => by cases h), (fun h => by cases h)⟩
        · exact hc e he
      · cases h
theorem recOk_const {r : Rec} {t : HT dH} (h : ∀ n, sameNow P r ⟨t, n⟩ = true) : ∀ {L : List Epoch}, (∀ e ∈ L, e.H.bl = t) → recOk P r L = true
  | [], _ => rfl
  | e :: L, hL => by
    have he : sameNow P r e.H = true := by
      have := hL e List.mem_cons_self
      have h2 := h e.H.nx
      rw [← this] at h2
      exact h2
    have ih := recOk_const h (L := L) fun x hx => hL x (List.mem_cons_of_mem _ hx)
    unfold recOk
    split
    · exact he
    · rename_i c pre _
      have : ((match bit r.pre c with
        | true => true
        | false => sameNow P r e.H) && (match bit pre r.i with
        | true => true
        | false => recOk P r L)) = true := by
        rw [Bool.and_eq_true]
        constructor
        · split
          · rfl
          · exact he
        · split
          · rfl
          · exact ih
      exact this
theorem load_nx {f : Fr} {op : Op} (hl : isLoad op = true) {v : AV} {t : HT dH} {n : Nat} {H1 : AH} (h : opA P f ⟨t, n⟩ op = some (.val v H1)) (n2 : Nat) : opA P f ⟨t, n2⟩ op = some (.val v ⟨t, n2⟩) := by
  unfold isLoad at hl
  split at hl
  · rename_i ty x
    have h : opLoad P ⟨t, n⟩ ty (aev f x) = some (.val v H1) := h
    show opLoad P ⟨t, n2⟩ ty (aev f x) = _
    cases hx : aev f x with
    | none => rw [hx] at h; cases h
    | some w =>
      rw [hx] at h
      cases w with
      | ptr b o =>
        have h : vA ⟨t, n⟩ (loadVarA P ⟨t, n⟩ ty b o) = some (.val v H1) := h
        have e : loadVarA P ⟨t, n2⟩ ty b o = loadVarA P ⟨t, n⟩ ty b o := rfl
        show vA ⟨t, n2⟩ (loadVarA P ⟨t, n2⟩ ty b o) = _
        rw [e]
        cases hu : loadVarA P ⟨t, n⟩ ty b o with
        | none => rw [hu] at h; cases h
        | some u =>
          rw [hu] at h
          injection h with h
          injection h with h1 h2
          subst h1
          rfl
      | _ => cases h
  · cases hl
theorem eps_bl {b : Array Nat} {t : HT dH} : ∀ (i : Nat) (tr : List Ent) (H' : AH), (∀ e ∈ tr, e.H.bl = t) → H'.bl = t → ∀ ep ∈ eps P b i tr H', ep.H.bl = t
  | i, [], H', _, h2, ep, hep => by
    simp [eps] at hep
    subst hep
    exact h2
  | i, e :: tr, H', h1, h2, ep, hep => by
    unfold eps at hep
    split at hep
    · rcases List.mem_cons.1 hep with rfl | hep
      · exact h1 e List.mem_cons_self
      · exact eps_bl (i + 1) tr H' (fun x hx => h1 x (List.mem_cons_of_mem _ hx)) h2 ep hep
    · exact eps_bl (i + 1) tr H' (fun x hx => h1 x (List.mem_cons_of_mem _ hx)) h2 ep hep
/-- A region in which nothing is turned, drawn or not. -/
theorem seqK_region (hm : P.follows .mixedOrders = true) {tbl : FuncId → List AV → Option (AV × Nat)} (htb : PureOk P tbl) {id : Nat} {ops : Array Oper} {l : List S3} (hl : ops.toList.map strip = l) {draw : Bool} (hreg : draw = true → regOk P ops = true)
    (hnd : ∀ s ∈ l, isDefer s.2.1 = false) {f f' : Fr} {H H' : AH} (h : seqK P tbl (l.map (·.1)) l f H = some (f', H')) : CodeS P (.region id ops draw) f H .normal f' H' := by
  have hds : ops.toList.map (·.dst) = l.map (·.1) := by rw [← hl, List.map_map]; rfl
  obtain ⟨hb, _, tr, ht, hc⟩ := seqK_tr htb hds ops.toList (by rw [hl]; exact h)
  have hnd' : ∀ o ∈ ops.toList, ∀ c, o.op ≠ .defer c := by
    intro o ho c he
    have := hnd (strip o) (by rw [← hl]; exact List.mem_map.2 ⟨o, ho, rfl⟩)
    have this : isDefer o.op = false := this
    rw [he] at this
    cases this
  cases draw with
  | false => exact plain_tr ht hnd'
  | true =>
    refine drawn_tr hm (hreg rfl) ht ⟨fun j e he hr hk => ?_, fun j e he hr hk => ?_⟩
    · have hec := hc e (List.mem_of_getElem? he)
      obtain ⟨h1, h2, h3⟩ := hec.read hr hk
      refine recOk_const (t := H.bl) (fun n => ?_) (eps_bl 0 tr H' (fun x hx => (hc x hx).bl) hb)
      show sameV e.v (opA P e.f ⟨H.bl, n⟩ e.o.op) = true
      have h4 : opA P e.f ⟨H.bl, e.H.nx⟩ e.o.op = some (.val e.v e.H) := by
        have := hec.bl
        rw [← this]
        exact h3
      rw [load_nx h1 h4 n]
      exact h2
    · exact absurd hk ((hc e (List.mem_of_getElem? he)).new hr)
end
end Go.Ev
