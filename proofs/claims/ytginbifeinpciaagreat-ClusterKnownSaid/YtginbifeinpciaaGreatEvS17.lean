/- What it means that a run of the abstract machine stands for one of the model's; operations one by one; regions in the text's order. -/
import Derived.Test.YtginbifeinpciaaGreatEvS16
import Derived.RangeFuncCalls
import Derived.RangeFuncRecord
namespace Go.Ev
open Go

/-- The wide fence; of a round's frames, if r says so. -/
def FW (r : Option Nat) : Fence := { Fence.wide with round := r }
/-- No block lies at a number from here on below N. -/
def Free (N : Nat) (m : BM) (H : AH) : Prop := ∀ b, H.nx ≤ b → b < N → m b = none
/-- The two states. -/
structure St (N : Nat) (m : BM) (H : AH) (w : World) : Prop where
  rel : Rel m H.get w
  ok : HOk H
  free : Free N m H
abbrev Stp (m : BM) (H : AH) (w : World) (m' : BM) (H' : AH) (w' : World) : Prop := Step m H.get H.nx w m' H'.get H'.nx w'
theorem Free.step {N : Nat} {m m' : BM} {H H' : AH} {w w' : World} (d : Free N m H) (s : Stp m H w m' H' w') : Free N m' H' := by
  intro b h1 h2
  have h3 := s.mono
  have hb := d b (by omega) h2
  cases h : m' b with
  | none => rfl
  | some cb =>
    have := (s.ids b hb (by rw [h]; exact Option.some_ne_none cb)).2
    omega

inductive DRel (m : BM) : List ADef → List Deferred → Prop where
  | nil : DRel m [] []
  | coll {b : Nat} {cb : CB} {l : List ADef} {r : List Deferred} (h : m b = some cb) (t : DRel m l r) : DRel m (.coll b :: l) ({ target := .collected cb.blk, args := #[] } :: r)
  | call {g : FuncId} {cap args : List AV} {cap' args' : Array Value} {l : List ADef} {r : List Deferred} (hc : LRel m cap cap'.toList) (ha : LRel m args args'.toList) (t : DRel m l r) :
      DRel m (.call g cap args :: l) ({ target := .fn (.func g) cap', args := args' } :: r)
theorem DRel.mono {m m' : BM} (e : Ext m m') : ∀ {l : List ADef} {r : List Deferred}, DRel m l r → DRel m' l r
  | _, _, .nil => .nil
  | _, _, .coll h t => .coll (e _ _ h) (t.mono e)
  | _, _, .call hc ha t => .call (hc.mono e) (ha.mono e) (t.mono e)
def RdRel (m : BM) (rd r : Option Nat) : Prop :=
  match rd with
  | none => r = none
  | some l => ∃ cb, m l = some cb ∧ r = some cb.blk
structure FrRel (m : BM) (r : Option Nat) (f : Fr) (a : Act) : Prop where
  tm : TRel m f.nt f.tm a.tmps
  df : DRel m f.df a.defers
  rd : RdRel m f.rd r
theorem TRel.mono {m m' : BM} (e : Ext m m') {nt : Nat} {tm : FT} {ts : Array Value} (h : TRel m nt tm ts) : TRel m' nt tm ts := ⟨h.1, h.2.1, fun t => (h.2.2 t).mono e⟩
theorem RdRel.mono {m m' : BM} (e : Ext m m') {rd r : Option Nat} (h : RdRel m rd r) : RdRel m' rd r := by
  cases rd with
  | none => exact h
  | some l => obtain ⟨cb, h1, h2⟩ := h; exact ⟨cb, e _ _ h1, h2⟩
theorem FrRel.mono {m m' : BM} (e : Ext m m') {r : Option Nat} {f : Fr} {a : Act} (h : FrRel m r f a) : FrRel m' r f a := ⟨h.tm.mono e, h.df.mono e, h.rd.mono e⟩
theorem FrRel.ev {m : BM} {r : Option Nat} {f : Fr} {a : Act} (h : FrRel m r f a) : EvalRel m f a := fun t => h.tm.2.2 t
theorem TRel.put {m : BM} {nt : Nat} {tm : FT} {ts : Array Value} (h : TRel m nt tm ts) {t : Nat} (ht : t < nt) {v : AV} {u : Value} (hv : VRel m v u) : TRel m nt (tm.put t v) (ts.setIfInBounds t u) := by
  refine ⟨by simp [h.1], h.2.1, fun j => ?_⟩
  rw [FT.get_put tm t v j (Nat.lt_of_lt_of_le ht h.2.1)]
  have hts : t < ts.size := by rw [h.1]; exact ht
  by_cases hj : j = t
  · subst hj
    rw [if_pos rfl]
    have : (ts.setIfInBounds j u).getD j undef = u := by simp [Array.getD, hts]
    rw [this]
    exact hv
  · rw [if_neg hj]
    have : (ts.setIfInBounds t u).getD j undef = ts.getD j undef := by
      rw [Array.getD_eq_getD_getElem?, Array.getD_eq_getD_getElem?, Array.getElem?_setIfInBounds_ne (Ne.symm hj)]
    rw [this]
    exact h.2.2 j
theorem FrRel.put {m : BM} {r : Option Nat} {f f' : Fr} {a : Act} (h : FrRel m r f a) {d : Option Tmp} {v : AV} {u : Value} (hp : f.put d v = some f') (hv : VRel m v u) : FrRel m r f' (a.put d u) := by
  unfold Fr.put at hp
  cases d with
  | none => injection hp with hp; subst hp; exact h
  | some t =>
    dsimp only at hp
    split at hp
    · rename_i hle
      injection hp with hp
      subst hp
      have ht : t < f.nt := Nat.le_of_ble_eq_true hle
      exact ⟨h.tm.put ht hv, h.df, h.rd⟩
    · cases hp

section
variable (P : Program)
/-- What a step leads to. -/
def NextS (K : Value → World → Prop) : Next → World → Prop
  | .value v, w => K v w
  | .skip, w => K undef w
  | .enter f args, w => CallsIn Fence.wide 0 P f args w fun e w' => ∃ v, e = .returned v ∧ K v w'
  | .round l f tmps assign body, w => RoundIn Fence.wide 0 P l f tmps assign body w fun e w' => ∃ v, e = .returned v ∧ K v w'
  | _, _ => False
/-- Behind it. -/
def Post (N : Nat) (m : BM) (H : AH) (w : World) (v : AV) (H' : AH) (u : Value) (w' : World) : Prop := ∃ m', Stp m H w m' H' w' ∧ St N m' H' w' ∧ VRel m' v u
def CallS (g : FuncId) (args : List AV) (H : AH) (v : AV) (H' : AH) : Prop :=
  ∀ N m w us, H'.nx ≤ N → St N m H w → LRel m args us.toList → ∃ nx w1, (callFunc g us).run P w = .ok nx w1 ∧ NextS P (Post N m H w v H') nx w1
def RoundS (l : Nat) (args : List AV) (H : AH) (v : AV) (H' : AH) : Prop :=
  ∀ N m w us cb, H'.nx ≤ N → St N m H w → m l = some cb → LRel m args us.toList → ∃ nx w1, (Instr.yield cb.blk us).run P w = .ok nx w1 ∧ NextS P (Post N m H w v H') nx w1
def DCallS (g : FuncId) (args : List AV) (H H' : AH) : Prop :=
  ∀ N m w us, H'.nx ≤ N → St N m H w → LRel m args us.toList → (callFunc g us).run P w = .ok (.enter g us) w ∧
    CallsDIn Fence.wide 0 P g us .returning w fun e u' w' => (∃ v, e = .returned v) ∧ u' = .returning ∧ ∃ m', Stp m H w m' H' w' ∧ St N m' H' w'
def QS : Rq → AV → AH → Prop
  | .call g args H, v, H' => H.nx ≤ H'.nx ∧ CallS P g args H v H'
  | .dcall g args H, _, H' => H.nx ≤ H'.nx ∧ DCallS P g args H H'
  | .round l args H, v, H' => H.nx ≤ H'.nx ∧ RoundS P l args H v H'
def IhOk {R : Type} (ih : Ih R) : Prop := ∀ q k res, ih q k = some res → ∃ v H', k v H' = some res ∧ QS P q v H'
/-- An operation, its result behind it. -/
def OpS (o : Oper) (f : Fr) (H : AH) (v : AV) (H' : AH) : Prop :=
  H.nx ≤ H'.nx ∧ ∀ N m w a, H'.nx ≤ N → St N m H w → EvalRel m f a → ∃ nx w1, (execOp a.eval o).run P w = .ok nx w1 ∧ NextS P (Post N m H w v H') nx w1
/-- An operation, the frame and all. -/
def OperS (o : Oper) (f : Fr) (H : AH) (f' : Fr) (H' : AH) : Prop :=
  H.nx ≤ H'.nx ∧ ∀ N m w a r, H'.nx ≤ N → St N m H w → FrRel m r f a → ∀ K Q, (∀ m' a' w', Stp m H w m' H' w' → St N m' H' w' → FrRel m' r f' a' → K a' w') → o.wpIn (FW r) 0 P a w K Q
end

section
variable {P : Program} {R : Type}
theorem NextS.mono {K K' : Value → World → Prop} (hk : ∀ v w, K v w → K' v w) {nx : Next} {w : World} (h : NextS P K nx w) : NextS P K' nx w := by
  cases nx <;> first
    | exact hk _ _ h
    | exact CallsIn.mono h fun e w' ⟨v, he, hv⟩ => ⟨v, he, hk _ _ hv⟩
    | exact RoundIn.mono h fun e w' ⟨v, he, hv⟩ => ⟨v, he, hk _ _ hv⟩
    | exact absurd h id
theorem NextS.upon {o : Oper} {a : Act} {next : Act → World → Prop} {Q : Exit → Act → World → Prop} {r : Option Nat} {nx : Next} {w : World} (h : NextS P (fun u w' => next (a.put o.dst u) w') nx w) : o.uponIn (FW r) 0 P a next Q (.ok nx w) := by
  cases nx with
  | value v => exact h
  | skip => exact h
  | enter f args =>
    have h' : CallsIn (FW r) 0 P f args w fun e w' => ∃ v, e = .returned v ∧ next (a.put o.dst v) w' := h
    refine ⟨(fun h => by cases h), CallsIn.mono h' fun e w' he => ?_⟩
    obtain ⟨v, rfl, hv⟩ := he
    exact hv
  | round l f tmps assign body =>
    have h' : RoundIn (FW r) 0 P l f tmps assign body w fun e w' => ∃ v, e = .returned v ∧ next (a.put o.dst v) w' := h
    refine ⟨(fun h => by cases h), RoundIn.mono h' fun e w' he => ?_⟩
    obtain ⟨v, rfl, hv⟩ := he
    exact hv
  | _ => exact absurd h id
theorem fw_fn (r : Option Nat) (f : FuncId) : (FW r).fn f := trivial

theorem post_of_res {s : Sem Next} {v : AV} {N : Nat} {m : BM} {H H' : AH} {w : World} (d : Free N m H) (h : Res P s (Gives v) m H w H') : ∃ nx w1, s.run P w = .ok nx w1 ∧ NextS P (Post N m H w v H') nx w1 := by
  obtain ⟨m', nx, w', h1, h2, h3, h4, z, hz, hv⟩ := h
  refine ⟨nx, w', h1, ?_⟩
  rcases hz with rfl | ⟨rfl, rfl⟩
  · exact ⟨m', h2, ⟨h3, h4, d.step h2⟩, hv⟩
  · exact ⟨m', h2, ⟨h3, h4, d.step h2⟩, hv⟩

/-- Is what comes out a value? -/
def IsVal (H : AH) (x : Option AR) : Prop := ∀ ar, x = some ar → ∃ v H', ar = .val v H' ∧ H.nx ≤ H'.nx
/-- Are the numbers no fewer? -/
def Grows (H : AH) (x : Option AH) : Prop := ∀ H', x = some H' → H.nx ≤ H'.nx
theorem isVal_none {H : AH} : IsVal H none := fun _ h => by cases h
theorem grows_none {H : AH} : Grows H none := fun _ h => by cases h
theorem grows_some {H H' : AH} (hn : H.nx ≤ H'.nx) : Grows H (some H') := fun _ h => by injection h with h; rw [← h]; exact hn
theorem isVal_some {v : AV} {H : AH} : IsVal H (some (.val v H)) := fun _ h => by injection h with h; exact ⟨v, H, h.symm, Nat.le_refl _⟩
theorem isVal_vA {x : Option AV} {H : AH} : IsVal H (vA H x) := by unfold vA; split <;> first | exact isVal_some | exact isVal_none
theorem isVal_hA {x : Option AH} {v : AV} {H : AH} (hx : Grows H x) : IsVal H (hA v x) := by
  intro ar h
  unfold hA at h
  split at h
  · rename_i H'
    injection h with h
    exact ⟨v, H', h.symm, hx H' rfl⟩
  · cases h
theorem isVal_newA {x : ABlk} {k : Nat → AV} {H H0 : AH} (h0 : H0.nx ≤ H.nx) : IsVal H0 (newA H x k) := by
  intro ar h
  unfold newA at h
  split at h
  · injection h with h
    exact ⟨_, _, h.symm, Nat.le_succ_of_le h0⟩
  · cases h
theorem grows_store {b o : Nat} {vs : List AV} {H : AH} : Grows H (storeA H b o vs) := by
  unfold storeA
  split
  · exact grows_some (Nat.le_refl _)
  · split
    · unfold storeAt
      split
      · unfold putCells
        split
        · exact grows_some (Nat.le_refl _)
        · exact grows_none
      · exact grows_none
    · exact grows_none
theorem grows_kill {s : AV} {size : Nat} {H : AH} : Grows H (killFor H size s) := by
  unfold killFor
  split
  · exact grows_some (Nat.le_refl _)
  · unfold killAt
    repeat' split
    all_goals first | exact grows_none | exact grows_some (Nat.le_refl _)
  · exact grows_none
theorem grows_clear {t : TypeId} {x : AV} {H : AH} : Grows H (clearA P t x H) := by
  unfold clearA
  repeat' split
  all_goals first | exact grows_none | exact grows_some (Nat.le_refl _) | skip
  unfold clearTo
  repeat' split
  all_goals first | exact grows_none | exact grows_store
theorem grows_map {t : TypeId} {x k : AV} {H : AH} {f : List (AV × AV) → List (AV × AV)} {nl : Option AH} (hn : Grows H nl) : Grows H (mapDo P t x k H f nl) := by
  unfold mapDo
  repeat' split
  all_goals first | exact grows_none | exact hn | skip
  unfold mapPut
  repeat' split
  all_goals first | exact grows_none | exact grows_some (Nat.le_refl _)
theorem isVal_append {sType xType : TypeId} {s x : AV} {H : AH} : IsVal H (appendA P sType xType s x H) := by
  have g2 : ∀ {H : AH} {need size : Nat} {old new : List AV} {x : Option AH}, Grows H x → IsVal H (grown2 need size old new x) := by
    intro H need size old new x hx
    unfold grown2
    split
    · exact isVal_newA (hx _ rfl)
    · exact isVal_none
  have g1 : ∀ {H : AH} {s : AV} {need size : Nat} {new : List AV} {x : Option (List AV)}, IsVal H (grown1 H s need size new x) := by
    intros; unfold grown1; split <;> first | exact g2 grows_kill | exact isVal_none
  have gp : ∀ {H : AH} {need size : Nat} {new : List AV} {s : AV}, IsVal H (inPlace H need size new s) := by
    intros; unfold inPlace; split <;> first | exact isVal_hA grows_store | exact isVal_some | exact isVal_none
  have gn : ∀ {H : AH} {s : AV} {sLen sCap n size bytes : Nat} {z : AV} {x : Option (List AV)}, IsVal H (appendN H s sLen sCap n size bytes z x) := by
    intros; unfold appendN; repeat' split
    all_goals first | exact gp | exact g1 | exact isVal_none
  unfold appendA
  repeat' split
  all_goals first | exact isVal_none | skip
  unfold append1
  repeat' split
  all_goals first | exact isVal_none | skip
  unfold append2
  repeat' split
  all_goals first | exact isVal_none | exact gn
theorem isVal_copy {t : TypeId} {d s : AV} {H : AH} : IsVal H (copyA P t d s H) := by
  unfold copyA
  repeat' split
  all_goals first | exact isVal_none | skip
  unfold copy1
  repeat' split
  all_goals first | exact isVal_none | skip
  unfold copy2
  repeat' split
  all_goals first | exact isVal_none | skip
  unfold copyTo
  repeat' split
  all_goals first | exact isVal_none | exact isVal_hA grows_store | exact isVal_some
theorem isVal_builtin {b : Builtin} {ts : List TypeId} {args : List AV} {H : AH} : IsVal H (builtinA P b ts args H) := by
  have gm : ∀ {m : List AV → AV → Option AV} {l : List AV}, IsVal H (mm H m l) := by
    intros; unfold mm; split <;> first | exact isVal_vA | exact isVal_none
  unfold builtinA
  split
  · exact gm
  · exact gm
  · unfold builtinR
    repeat' split
    all_goals first | exact isVal_none | skip
    · unfold builtin1
      split <;> first | exact isVal_vA | exact isVal_hA grows_clear | exact isVal_none
    · unfold builtin2
      split <;> first | exact isVal_append | exact isVal_copy | exact isVal_hA (grows_map (grows_some (Nat.le_refl _))) | exact isVal_none
theorem isVal_conv {s d : TypeId} {x : AV} {H : AH} : IsVal H (convA P s d x H) := by
  unfold convA
  split
  · unfold convTo
    repeat' split
    all_goals first | exact isVal_none | exact isVal_some | exact isVal_vA | exact isVal_newA (Nat.le_refl _)
  · exact isVal_none
theorem isVal_makeSlice {t : TypeId} {l c : AV} {H : AH} : IsVal H (makeSliceA P t l c H) := by
  unfold makeSliceA
  split
  · unfold makeSl1
    split
    · unfold makeSl
      repeat' split
      all_goals first | exact isVal_none | exact isVal_newA (Nat.le_refl _)
    · exact isVal_none
  · exact isVal_none
/-- An operation gives a value at once, or it calls, or it defers. -/
theorem opA_cases (f : Fr) (H : AH) (op : Op) : IsVal H (opA P f H op) ∨ (∃ c g, op = .call c ∧ c.callee = .value g) ∨ ∃ c, op = .defer c := by
  unfold opA
  split
  case h_25 c =>
    cases hc : c.callee with
    | builtin b =>
      left
      unfold opCall
      split
      · unfold opCallee
        rw [hc]
        exact isVal_builtin
      · exact isVal_none
    | value g => exact .inr (.inl ⟨c, g, rfl, hc⟩)
    | invoke x n =>
      left
      unfold opCall
      split
      · unfold opCallee
        rw [hc]
        exact isVal_none
      · exact isVal_none
  case h_26 c => exact .inr (.inr ⟨c, rfl⟩)
  all_goals left
  · exact isVal_vA
  · exact isVal_vA
  · unfold opPick; repeat' split
    all_goals first | exact isVal_none | exact isVal_vA
  · unfold newVarA; split <;> first | exact isVal_none | exact isVal_newA (Nat.le_refl _)
  · unfold newVarA; split <;> first | exact isVal_none | exact isVal_newA (Nat.le_refl _)
  · unfold opBuild; split <;> first | exact isVal_none | exact isVal_vA
  · unfold opBuildSlice; split
    · unfold newSl; split <;> first | exact isVal_none | exact isVal_newA (Nat.le_refl _)
    · exact isVal_none
  · unfold opLoad; split <;> first | exact isVal_none | exact isVal_vA
  · unfold opStore; repeat' split
    all_goals first | exact isVal_none | skip
    unfold storeN; repeat' split
    all_goals first | exact isVal_none | exact isVal_hA grows_store
  · unfold opNilCheck; split <;> first | exact isVal_none | exact isVal_some
  · unfold opBin; split <;> first | exact isVal_none | exact isVal_vA
  · unfold opUn; split <;> first | exact isVal_none | exact isVal_vA
  · unfold opConv; split <;> first | exact isVal_none | exact isVal_conv
  · unfold opFunc; repeat' split
    all_goals first | exact isVal_none | exact isVal_some
  · unfold opMakeMap; repeat' split
    all_goals first | exact isVal_none | exact isVal_newA (Nat.le_refl _)
  · unfold opMakeSlice; split <;> first | exact isVal_none | exact isVal_makeSlice
  · unfold opSlice; split
    · unfold opSlice1; split
      · unfold opSlice2; split
        · unfold opSlice3; split <;> first | exact isVal_none | exact isVal_vA
        · exact isVal_none
      · exact isVal_none
    · exact isVal_none
  · unfold opFieldAddr; split <;> first | exact isVal_none | exact isVal_vA
  · unfold opField; split <;> first | exact isVal_none | exact isVal_vA
  · unfold opIndexAddr; split <;> first | exact isVal_none | exact isVal_vA
  · unfold opIndex; split <;> first | exact isVal_none | exact isVal_vA
  · unfold opLookup; split <;> first | exact isVal_none | exact isVal_vA
  · unfold opUpdate; repeat' split
    all_goals first | exact isVal_none | exact isVal_hA (grows_map grows_none)
  · unfold opExtract; split <;> first | exact isVal_none | exact isVal_vA
  · exact isVal_none

theorem opA_grows {f : Fr} {H : AH} {op : Op} {v : AV} {H' : AH} (h : opA P f H op = some (.val v H')) : H.nx ≤ H'.nx := by
  rcases opA_cases (P := P) f H op with h1 | ⟨c, gx, ho, hc⟩ | ⟨c, ho⟩
  · obtain ⟨v', H2, e, hn⟩ := h1 _ h
    injection e with e1 e2
    rw [e2]
    exact hn
  · subst ho
    have h : opCall P f H c (aevs f c.args.toList) = some _ := h
    unfold opCall at h
    split at h
    · simp only [opCallee, hc] at h
      unfold invokeA at h
      split at h <;> cases h
    · cases h
  · subst ho
    have h : opDefer f c.callee (aevs f c.args.toList) = some _ := h
    unfold opDefer at h
    split at h
    · split at h
      · unfold dfrA at h
        split at h <;> cases h
      · cases h
    · cases h
theorem opS_val {o : Oper} {f : Fr} {H : AH} {v : AV} {H' : AH} (h : opA P f H o.op = some (.val v H')) : OpS P o f H v H' :=
  ⟨opA_grows h, fun _ _ _ _ hN st hf => post_of_res st.free (opA_val st.rel st.ok hf h fun b hb hb' => st.free b hb (Nat.lt_of_lt_of_le hb' hN))⟩

/-- The operations that call. -/
theorem opA_call {f : Fr} {H : AH} {o : Oper} {ar : AR} (h : opA P f H o.op = some ar) (hn : ∀ v H', ar ≠ .val v H') (hd : ∀ c, o.op ≠ .defer c) {m : BM} {a : Act} (hf : EvalRel m f a) (w : World) :
    (∃ g args us, ar = .enter g args ∧ LRel m args us.toList ∧ (execOp a.eval o).run P w = (callFunc g us).run P w) ∨
    ∃ l args us cb, ar = .round l args ∧ m l = some cb ∧ LRel m args us.toList ∧ (execOp a.eval o).run P w = (Instr.yield cb.blk us).run P w := by
  rcases opA_cases (P := P) f H o.op with h1 | ⟨c, gx, ho, hc⟩ | ⟨c, ho⟩
  · obtain ⟨v, H', e, _⟩ := h1 ar h
    exact absurd e (hn v H')
  · rw [ho] at h
    have h : opCall P f H c (aevs f c.args.toList) = some ar := h
    unfold opCall at h
    split at h
    · rename_i as has
      simp only [opCallee, hc] at h
      have hl := aevs_rel hf has
      unfold invokeA at h
      split at h
      · rename_i g' first captured hg
        injection h with h
        have hgr := aev_rel hf hg
        generalize hu : a.eval gx = u at hgr
        cases hgr with
        | func h1 h2 =>
          rename_i first' captured'
          refine .inl ⟨g', _, first' ++ c.args.map a.eval ++ captured', h.symm, ?_, ?_⟩
          · rw [app_eq, app_eq]
            have := h1.append (hl.append h2)
            simpa using this
          · simp [execOp, ho, resolve, hc, Deferred.ofValue, hu, invoke]
      · rename_i l hg
        injection h with h
        have hgr := aev_rel hf hg
        generalize hu : a.eval gx = u at hgr
        cases hgr with
        | yield hb =>
          refine .inr ⟨l, _, c.args.map a.eval, _, h.symm, hb, by simpa using hl, ?_⟩
          simp [execOp, ho, resolve, hc, Deferred.ofValue, hu, invoke]
      · cases h
    · cases h
  · exact absurd ho (hd c)

/-- What an operation comes to, with what it calls. -/
def ArS (P : Program) (H : AH) (v : AV) (H' : AH) : AR → Prop
  | .val v' H2 => v' = v ∧ H2 = H'
  | .enter g args => H.nx ≤ H'.nx ∧ CallS P g args H v H'
  | .round l args => H.nx ≤ H'.nx ∧ RoundS P l args H v H'
  | .dfr _ _ _ => False
theorem opS_of {o : Oper} {f : Fr} {H : AH} {ar : AR} {v : AV} {H' : AH} (hd : ∀ c, o.op ≠ .defer c) (har : opA P f H o.op = some ar) (h : ArS P H v H' ar) : OpS P o f H v H' := by
  cases ar with
  | val v' H2 => obtain ⟨rfl, rfl⟩ := h; exact opS_val har
  | enter g args =>
    refine ⟨h.1, fun N m w a hN st hf => ?_⟩
    rcases opA_call har (fun _ _ h => by cases h) hd hf w with ⟨g', args', us, e, hl, hrun⟩ | ⟨l, args', us, cb, e, _⟩
    · injection e with e1 e2
      subst e1; subst e2
      obtain ⟨nx, w1, h5, h6⟩ := h.2 N m w us hN st hl
      exact ⟨nx, w1, hrun.trans h5, h6⟩
    · cases e
  | round l args =>
    refine ⟨h.1, fun N m w a hN st hf => ?_⟩
    rcases opA_call har (fun _ _ h => by cases h) hd hf w with ⟨g', args', us, e, _⟩ | ⟨l', args', us, cb, e, hb, hl, hrun⟩
    · cases e
    · injection e with e1 e2
      subst e1; subst e2
      obtain ⟨nx, w1, h5, h6⟩ := h.2 N m w us cb hN st hb hl
      exact ⟨nx, w1, hrun.trans h5, h6⟩
  | dfr g captured args => exact absurd h id
/-- An operation, run with what it calls. -/
theorem arK_sound {ih : Ih R} (hi : IhOk P ih) {o : Oper} {f : Fr} {H : AH} {k : AV → Fr → AH → Option R} {res : R} (hd : ∀ c, o.op ≠ .defer c) (h : arK ih (cPut o.dst).put f H k (opA P f H o.op) = some res) :
    ∃ ar v f' H', opA P f H o.op = some ar ∧ k v f' H' = some res ∧ f.put o.dst v = some f' ∧ ArS P H v H' ar := by
  cases har : opA P f H o.op with
  | none => rw [har] at h; cases h
  | some ar =>
    rw [har] at h
    cases ar with
    | val v H' =>
      obtain ⟨f', h1, h2⟩ := cPut_put h
      exact ⟨_, v, f', H', rfl, h2, h1, rfl, rfl⟩
    | enter g args =>
      obtain ⟨v, H', h1, h2⟩ := hi _ _ _ h
      obtain ⟨f', h3, h4⟩ := cPut_put h1
      exact ⟨_, v, f', H', rfl, h4, h3, h2⟩
    | round l args =>
      obtain ⟨v, H', h1, h2⟩ := hi _ _ _ h
      obtain ⟨f', h3, h4⟩ := cPut_put h1
      exact ⟨_, v, f', H', rfl, h4, h3, h2⟩
    | dfr g captured args =>
      exfalso
      rcases opA_cases (P := P) f H o.op with h1 | ⟨c, gx, ho, hc⟩ | ⟨c, ho⟩
      · obtain ⟨v, H', e, _⟩ := h1 _ har
        cases e
      · rw [ho] at har
        have har : opCall P f H c (aevs f c.args.toList) = some _ := har
        unfold opCall at har
        split at har
        · simp only [opCallee, hc] at har
          unfold invokeA at har
          split at har <;> cases har
        · cases har
      · exact hd c ho
end
end Go.Ev
