/- Regions by what their operations are; Disk.Used. -/
import Derived.Test.YtginbifeinpciaaGreatEvS32
namespace Go.Ev
open Go Go.RowKit Go.ChangeMaps

section
variable {P : Program}
abbrev S3 := Option Tmp × Op × Option (Nat × Bool)
def strip (o : Oper) : S3 := (o.dst, o.op, o.guard)
noncomputable def seqS (P : Program) : List S3 → Fr → AH → Option (Fr × AH)
  | [], f, H => some (f, H)
  | o :: l, f, H => match o.2.2 with
    | some _ => none
    | none => match opA P f H o.2.1 with
      | some (.val v H1) => match f.put o.1 v with
        | some f1 => seqS P l f1 H1
        | none => none
      | _ => none
theorem seqA_strip : ∀ (l : List Oper) (f : Fr) (H : AH), seqA P l f H = seqS P (l.map strip) f H
  | [], f, H => rfl
  | o :: l, f, H => by
    simp only [seqA, List.map_cons, seqS, strip]
    cases o.guard with
    | some g => rfl
    | none =>
      cases opA P f H o.op with
      | none => rfl
      | some ar =>
        cases ar with
        | val v H1 =>
          dsimp only
          cases f.put o.dst v with
          | none => rfl
          | some f1 => exact seqA_strip l f1 H1
        | enter _ _ => rfl
        | round _ _ => rfl
        | dfr _ _ _ => rfl
theorem seqS_region {id : Nat} {ops : Array Oper} {l : List S3} (hl : ops.toList.map strip = l) {f f' : Fr} {H H' : AH} (h : seqS P l f H = some (f', H')) : CodeS P (.region id ops false) f H .normal f' H' :=
  seqA_region (by rw [seqA_strip, hl]; exact h)
theorem range_regionS {id : Nat} {ops : Array Oper} {l : List S3} {t k e : TypeId} {x : Operand} {ti bm : Nat} {es : List (AV × AV)} {f f1 : Fr} {H H1 : AH} (hops : ops.toList.map strip = l ++ [(some ti, .range t x, none)])
    (hseq : seqS P l f H = some (f1, H1)) (hx : aev f1 x = some (.map bm)) (hbm : H1.get bm = some (.map es)) (ht : P.underlying t = some (.map k e)) (hroom : H1.nx < mH) (hti : ti < f1.nt)
    {N : Nat} {m : BM} {w : World} {a : Act} {r : Option Nat} (hN : H1.nx < N) (st : St N m H w) (fr : FrRel m r f a) (Q : Exit → Act → World → Prop)
    (hQ : ∀ m1 w1 m' a' w' it cb clock ces ps, Stp m H w m1 H1 w1 → St N m1 H1 w1 → m1 bm = some cb → ps.map (·.1) = es → (ps.map (·.2)).Perm ces.toList → BornOk ces clock → RangeAt N m1 (H1.kill bm) w1 r H1.nx it cb.blk clock ces ps #[] m' (H1.kill bm).bump w' (f1.putT ti (.ptr H1.nx 0)) a' → Q .normal a' w') :
    (Code.region id ops false).wpIn (FW r) 0 P Q a w := by
  obtain ⟨l1, l2, h1, h2, h3⟩ := List.map_eq_append_iff.1 hops
  obtain ⟨o, h4, h5⟩ := List.map_eq_singleton_iff.1 h3
  subst h4
  have e1 : o.op = .range t x := congrArg (fun s : S3 => s.2.1) h5
  have e2 : o.guard = none := congrArg (fun s : S3 => s.2.2) h5
  have e3 : o.dst = some ti := congrArg (fun s : S3 => s.1) h5
  exact range_region h1 e1 e2 e3 (by rw [seqA_strip, h2]; exact hseq) hx hbm ht hroom hti hN st fr Q hQ
/-- A region that begins with the entry that the step has brought. -/
theorem entry_region {id : Nat} {ops : Array Oper} {l : List S3} {tt ti b0 it : Nat} {f f' : Fr} {H H' : AH} {k v : AV} {key val : Value} (hops : ops.toList.map strip = (some tt, .entry (.tmp ti), none) :: l) (hseq : seqS P l (f.putT tt (.tup [k, v])) H = some (f', H'))
    {N : Nat} {m : BM} {w : World} {a : Act} {r : Option Nat} (hN : H'.nx ≤ N) (hti : f.get ti = .ptr b0 0) (itm : m b0 = some ⟨it, 0, 0, 1, 0⟩) (htt : tt < f.nt) (hrun : (Instr.entry (.pointer (some ⟨it, 0, none⟩))).run P w = .ok (.tuple #[key, val]) w)
    (hk : VRel m k key) (hv : VRel m v val) (st : St N m H w) (fr : FrRel m r f a) (Q : Exit → Act → World → Prop) (hQ : ∀ m' a' w', Stp m H w m' H' w' → St N m' H' w' → FrRel m' r f' a' → Q .normal a' w') : (Code.region id ops false).wpIn (FW r) 0 P Q a w := by
  obtain ⟨o, l', h1, h2, h3⟩ := List.map_eq_cons_iff.1 hops
  have e1 : o.op = .entry (.tmp ti) := congrArg (fun s : S3 => s.2.1) h2
  have e2 : o.guard = none := congrArg (fun s : S3 => s.2.2) h2
  have e3 : o.dst = some tt := congrArg (fun s : S3 => s.1) h2
  have hev : a.eval (.tmp ti) = .pointer (some ⟨it, 0, none⟩) := by
    have := aev_rel fr.ev (x := .tmp ti) rfl
    rw [hti] at this
    generalize a.eval (.tmp ti) = u at this
    cases this with
    | ptr h =>
      rw [itm] at h
      injection h with h
      rw [← h]
  refine wpIn_region ?_
  have hlen : List.range ops.size = List.range' 0 (l'.length + 1) := by
    rw [List.range_eq_range', ← Array.length_toList, h1, List.length_cons]
  rw [hlen]
  refine wpOps_special (o := o) (u := .tuple #[key, val]) (w1 := w) (by rw [← Array.getElem?_toList, h1]; rfl) e2 (by rw [e1]; intro c h; cases h) (by simp [execOp, e1, hev, hrun]) ?_
  have fr1 := fr.put (d := o.dst) (v := .tup [k, v]) (u := .tuple #[key, val]) (by rw [e3]; exact Fr.put_some htt) (.tup (.cons hk (.cons hv .nil)))
  have := (seqA_sound (P := P) (ops := ops) l' (by rw [seqA_strip, h3]; exact hseq)).2 [o] [] (by simp [h1]) N m w _ r hN st fr1 Q fun m' a' w' s st' fr' => by
    simpa [wpOpsIn] using hQ m' a' w' s st' fr'
  simpa using this

/-! Used -/
structure UsedShape (P : Program) (fn : Func) (tD tM tB tI tS tK tE tL : TypeId) : Prop where
  nt : fn.ntmps = 25
  res : fn.results.toList = [.tmp 2]
  code : ∃ i0 i1 i2 i3 i4 i5 i6 i7 id0 id1 r0 r1 r2 o1 o2 r4 r5 r6 r7, fn.body = some (.seq (.region i0 r0 false) (.seq (.region i1 r1 false) (.seq (.seq (.region i2 r2 false) (.block id0 (.loop (.seq (.region i3 #[o1, o2] false) (.seq (.cond (.tmp 12) .skip (.exit id0)) (.block id1
      (.seq (.region i4 r4 false) (.seq (.region i5 r5 false) (.cond (.tmp 19) (.region i6 r6 false) .skip))))))))) (.seq (.region i7 r7 false) .ret)))) ∧
    r0.toList.map strip = [(some 2, .assign (.const (goInt 0)), none)] ∧ r1.toList.map strip = [(some 3, .assign (.const (goInt 0)), none)] ∧
    r2.toList.map strip = [(some 6, .move (.tmp 0), none), (some 7, .nilCheck (.tmp 6), none), (some 8, .fieldAddr tD (.tmp 7) 2, none), (some 9, .load tM (.tmp 8), none)] ++ [(some 10, .range tM (.tmp 9), none)] ∧
    strip o1 = (some 11, .next (.tmp 10) false, none) ∧ strip o2 = (some 12, .extract (.tmp 11) 0, none) ∧
    r4.toList.map strip = (some 13, .entry (.tmp 10), none) :: [(some 14, .extract (.tmp 13) 1, none), (some 5, .assign (.tmp 14), none)] ∧
    r5.toList.map strip = [(some 15, .move (.tmp 0), none), (some 16, .nilCheck (.tmp 15), none), (some 17, .fieldAddr tD (.tmp 16) 5, none), (some 18, .load tB (.tmp 17), none), (some 19, .unOp .not tB (.tmp 18), none)] ∧
    r6.toList.map strip = [(some 20, .move (.tmp 3), none), (some 21, .move (.tmp 5), none), (some 22, .call ⟨.builtin .len, #[.tmp 21], #[tS]⟩, none), (some 23, .binOp .add tI (.tmp 20) (.tmp 22) tI, none), (some 3, .assign (.tmp 23), none)] ∧
    r7.toList.map strip = [(some 24, .move (.tmp 3), none), (some 2, .assign (.tmp 24), none)]
  fld2 : fieldOff P (fieldOf 2 (P.underlying tD)) = some 2
  fld5 : fieldOff P (fieldOf 5 (P.underlying tD)) = some 5
  aggM : aggT P tM = some false
  aggB : aggT P tB = some false
  mapM : P.underlying tM = some (.map tK tE)
  slS : P.underlying tS = some (.slice tL)
theorem diskOf_some {H : AH} {args : List AV} {d : DiskA} (h : diskOf H args = some d) : args = [.ptr d.b d.o] ∧ (∃ c1 c3, loadA H d.b d.o 6 = some [d.c0, c1, .map d.now, c3, d.c4, .bool d.down]) ∧ d.c5 = .bool d.down ∧ H.get d.now = some (.map d.es) := by
  unfold diskOf at h
  split at h
  · unfold diskC at h
    split at h
    · rename_i hl
      unfold diskE at h
      split at h
      · rename_i he
        injection h with h
        subst h
        exact ⟨rfl, ⟨_, _, hl⟩, rfl, entriesOf_some he⟩
      · cases h
    · cases h
  · cases h
theorem load_nth {H : AH} {b o n i : Nat} {l : List AV} {v : AV} (h : loadA H b o n = some l) (hi : l[i]? = some v) : load1 H b (o + i) = some v := by
  unfold loadA at h
  split at h
  · rename_i c hc
    unfold load1
    rw [hc]
    unfold inRange at h
    split at h
    · injection h with h
      subst h
      rw [cut_eq] at hi
      show nth c (o + i) = _
      rw [nth_eq]
      have hlt : i < n := by
        rcases Nat.lt_or_ge i n with h1 | h1
        · exact h1
        · rw [List.getElem?_take, if_neg (by omega)] at hi
          cases hi
      rw [List.getElem?_take_of_lt hlt, List.getElem?_drop] at hi
      exact hi
    · cases h
  · cases h
theorem load1_same {H H' : AH} {b o : Nat} (h : H'.get b = H.get b) : load1 H' b o = load1 H b o := by unfold load1; rw [h]
theorem stepL_some {v : AV} {o : Option Nat} {n : Nat} (h : stepL v o = some n) : ∃ k x, o = some x ∧ n = k + x ∧ ∀ y, stepL v (some y) = some (k + y) := by
  unfold stepL at h
  split at h
  · cases o with
    | none => cases h
    | some x =>
      simp only [addO] at h
      injection h with h
      exact ⟨_, x, rfl, h.symm, fun y => rfl⟩
  · exact ⟨0, n, h, by omega, fun y => by rw [Nat.zero_add]; rfl⟩
  · cases h
theorem lens_append : ∀ {l1 l2 : List (AV × AV)} {n : Nat}, lens (l1 ++ l2) = some n → ∃ a b, lens l1 = some a ∧ lens l2 = some b ∧ n = a + b
  | [], l2, n, h => ⟨0, n, rfl, h, by omega⟩
  | e :: l1, l2, n, h => by
    have h : stepL e.2 (lens (l1 ++ l2)) = some n := h
    obtain ⟨k, x, h1, h2, h3⟩ := stepL_some h
    obtain ⟨a, b, h4, h5, h6⟩ := lens_append h1
    refine ⟨k + a, b, ?_, h5, by omega⟩
    show stepL e.2 (lens l1) = _
    rw [h4]; exact h3 a
theorem lens_join : ∀ {l1 l2 : List (AV × AV)} {a b : Nat}, lens l1 = some a → lens l2 = some b → lens (l1 ++ l2) = some (a + b)
  | [], l2, a, b, h1, h2 => by
    have h1 : some 0 = some a := h1
    injection h1 with h1
    subst h1
    rw [Nat.zero_add]; exact h2
  | e :: l1, l2, a, b, h1, h2 => by
    have h1 : stepL e.2 (lens l1) = some a := h1
    obtain ⟨k, x, h3, h4, h5⟩ := stepL_some h1
    show stepL e.2 (lens (l1 ++ l2)) = _
    rw [lens_join h3 h2, h5, h4]
    congr 1
    omega
theorem lens_perm {l1 l2 : List (AV × AV)} (h : l1.Perm l2) : ∀ {n : Nat}, lens l1 = some n → lens l2 = some n := by
  induction h with
  | nil => intro n h; exact h
  | cons x h ih =>
    intro n hn
    obtain ⟨a, b, h1, h2, h3⟩ := lens_append (l1 := [x]) (l2 := _) hn
    subst h3
    exact lens_join (l1 := [x]) h1 (ih h2)
  | swap x y l =>
    intro n hn
    obtain ⟨a, b, h1, h2, h3⟩ := lens_append (l1 := [y]) (l2 := x :: l) hn
    obtain ⟨a', b', h1', h2', h3'⟩ := lens_append (l1 := [x]) (l2 := l) h2
    subst h3; subst h3'
    have := lens_join (l1 := [x]) h1' (lens_join (l1 := [y]) h1 h2')
    rw [show a + (a' + b') = a' + (a + b') from by omega]
    exact this
  | trans h1 h2 ih1 ih2 => intro n hn; exact ih2 (ih1 hn)
def tot (down : Bool) (l : List (AV × AV)) : Option Nat := match down with
  | true => some 0
  | false => lens l
theorem used_some {args : List AV} {H H' : AH} {v : AV} (h : usedP args H = some (v, H')) : ∃ d n, diskOf H args = some d ∧ tot d.down d.es = some n ∧ n < 9223372036854775808 ∧ H.nx < mH ∧ v = nA n ∧ H' = H.bump := by
  unfold usedP usedD at h
  split at h
  · rename_i d hd
    have key : ∀ o : Option Nat, usedN H o = some (v, H') → ∃ n, o = some n ∧ n < 9223372036854775808 ∧ H.nx < mH ∧ v = nA n ∧ H' = H.bump := by
      intro o ho
      unfold usedN at ho
      split at ho
      · rename_i n
        split at ho
        · rename_i hn
          unfold usedR at ho
          split at ho
          · rename_i hroom
            injection ho with ho
            injection ho with h1 h2
            refine ⟨n, rfl, ?_, AH.room_lt hroom, h1.symm, h2.symm⟩
            rcases Nat.lt_or_ge n 9223372036854775808 with h3 | h3
            · exact h3
            · have : Nat.ble (top .i64) n = true := Nat.ble_eq_true_of_le h3
              rw [this] at hn; cases hn
          · cases ho
        · cases ho
      · cases ho
    split at h
    · rename_i hdn
      obtain ⟨n, h1, h2⟩ := key _ h
      refine ⟨d, n, hd, ?_, h2⟩
      rw [hdn]; exact h1
    · rename_i hdn
      obtain ⟨n, h1, h2⟩ := key _ h
      refine ⟨d, n, hd, ?_, h2⟩
      rw [hdn]; exact h1
  · cases h
end
end Go.Ev
