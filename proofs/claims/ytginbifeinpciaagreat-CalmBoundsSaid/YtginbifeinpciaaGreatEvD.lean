/- An abstract machine for the model's code, and its soundness: part D. -/
import Derived.Test.YtginbifeinpciaaGreatEvC
import Derived.RangeFuncCalls
import Derived.RangeFuncRecord
import Derived.ControlIn
import Derived.RangeFuncIn
import Derived.RangeFuncLeaves
import Derived.RangeFuncNested
/- What it means that a run of the abstract machine stands for one of the model's; operations one by one; regions in the text's order. -/
namespace Go.Ev
open Go

/-- The wide fence; of a round's frames, if r says so. -/
def FW (r : Option Nat) : Fence := { Fence.wide with round := r }
/-- No block lies at a number from here on below N. -/
def Free (N : Nat) (m : BM) (H : AH) : Prop := ∀ b, H.nx ≤ b → b < N → m b = none
/-- The two states. -/
structure St (N : Nat) (m : BM) (H : AH) (w : World) : Prop where
  rel : Rel m H.get w
  ok : HOk H
  free : Free N m H
abbrev Stp (m : BM) (H : AH) (w : World) (m' : BM) (H' : AH) (w' : World) : Prop := Step m H.get H.nx w m' H'.get H'.nx w'
theorem Free.step {N : Nat} {m m' : BM} {H H' : AH} {w w' : World} (d : Free N m H) (s : Stp m H w m' H' w') : Free N m' H' := by
  intro b h1 h2
  have h3 := s.mono
  have hb := d b (by omega) h2
  cases h : m' b with
  | none => rfl
  | some cb =>
    have := (s.ids b hb (by rw [h]; exact Option.some_ne_none cb)).2
    omega

inductive DRel (m : BM) : List ADef → List Deferred → Prop where
  | nil : DRel m [] []
  | coll {b : Nat} {cb : CB} {l : List ADef} {r : List Deferred} (h : m b = some cb) (t : DRel m l r) : DRel m (.coll b :: l) ({ target := .collected cb.blk, args := #[] } :: r)
  | call {g : FuncId} {cap args : List AV} {cap' args' : Array Value} {l : List ADef} {r : List Deferred} (hc : LRel m cap cap'.toList) (ha : LRel m args args'.toList) (t : DRel m l r) :
      DRel m (.call g cap args :: l) ({ target := .fn (.func g) cap', args := args' } :: r)
theorem DRel.mono {m m' : BM} (e : Ext m m') : ∀ {l : List ADef} {r : List Deferred}, DRel m l r → DRel m' l r
  | _, _, .nil => .nil
  | _, _, .coll h t => .coll (e _ _ h) (t.mono e)
  | _, _, .call hc ha t => .call (hc.mono e) (ha.mono e) (t.mono e)
def RdRel (m : BM) (rd r : Option Nat) : Prop :=
  match rd with
  | none => r = none
  | some l => ∃ cb, m l = some cb ∧ r = some cb.blk
structure FrRel (m : BM) (r : Option Nat) (f : Fr) (a : Act) : Prop where
  tm : TRel m f.nt f.tm a.tmps
  df : DRel m f.df a.defers
  rd : RdRel m f.rd r
theorem TRel.mono {m m' : BM} (e : Ext m m') {nt : Nat} {tm : FT} {ts : Array Value} (h : TRel m nt tm ts) : TRel m' nt tm ts := ⟨h.1, h.2.1, fun t => (h.2.2 t).mono e⟩
theorem RdRel.mono {m m' : BM} (e : Ext m m') {rd r : Option Nat} (h : RdRel m rd r) : RdRel m' rd r := by
  cases rd with
  | none => exact h
  | some l => obtain ⟨cb, h1, h2⟩ := h; exact ⟨cb, e _ _ h1, h2⟩
theorem FrRel.mono {m m' : BM} (e : Ext m m') {r : Option Nat} {f : Fr} {a : Act} (h : FrRel m r f a) : FrRel m' r f a := ⟨h.tm.mono e, h.df.mono e, h.rd.mono e⟩
theorem FrRel.ev {m : BM} {r : Option Nat} {f : Fr} {a : Act} (h : FrRel m r f a) : EvalRel m f a := fun t => h.tm.2.2 t
theorem TRel.put {m : BM} {nt : Nat} {tm : FT} {ts : Array Value} (h : TRel m nt tm ts) {t : Nat} (ht : t < nt) {v : AV} {u : Value} (hv : VRel m v u) : TRel m nt (tm.put t v) (ts.setIfInBounds t u) := by
  refine ⟨by simp [h.1], h.2.1, fun j => ?_⟩
  rw [FT.get_put tm t v j (Nat.lt_of_lt_of_le ht h.2.1)]
  have hts : t < ts.size := by rw [h.1]; exact ht
  by_cases hj : j = t
  · subst hj
    rw [if_pos rfl]
    have : (ts.setIfInBounds j u).getD j undef = u := by simp [Array.getD, hts]
    rw [this]
    exact hv
  · rw [if_neg hj]
    have : (ts.setIfInBounds t u).getD j undef = ts.getD j undef := by
      rw [Array.getD_eq_getD_getElem?, Array.getD_eq_getD_getElem?, Array.getElem?_setIfInBounds_ne (Ne.symm hj)]
    rw [this]
    exact h.2.2 j
theorem FrRel.put {m : BM} {r : Option Nat} {f f' : Fr} {a : Act} (h : FrRel m r f a) {d : Option Tmp} {v : AV} {u : Value} (hp : f.put d v = some f') (hv : VRel m v u) : FrRel m r f' (a.put d u) := by
  unfold Fr.put at hp
  cases d with
  | none => injection hp with hp; subst hp; exact h
  | some t =>
    dsimp only at hp
    split at hp
    · rename_i hle
      injection hp with hp
      subst hp
      have ht : t < f.nt := Nat.le_of_ble_eq_true hle
      exact ⟨h.tm.put ht hv, h.df, h.rd⟩
    · cases hp

section
variable (P : Program)
/-- What a step leads to. -/
def NextS (K : Value → World → Prop) : Next → World → Prop
  | .value v, w => K v w
  | .skip, w => K undef w
  | .enter f args, w => CallsIn Fence.wide 0 P f args w fun e w' => ∃ v, e = .returned v ∧ K v w'
  | .round l f tmps assign body, w => RoundIn Fence.wide 0 P l f tmps assign body w fun e w' => ∃ v, e = .returned v ∧ K v w'
  | _, _ => False
/-- Behind it. -/
def Post (N : Nat) (m : BM) (H : AH) (w : World) (v : AV) (H' : AH) (u : Value) (w' : World) : Prop := ∃ m', Stp m H w m' H' w' ∧ St N m' H' w' ∧ VRel m' v u
def CallS (g : FuncId) (args : List AV) (H : AH) (v : AV) (H' : AH) : Prop :=
  ∀ N m w us, H'.nx ≤ N → St N m H w → LRel m args us.toList → ∃ nx w1, (callFunc g us).run P w = .ok nx w1 ∧ NextS P (Post N m H w v H') nx w1
def RoundS (l : Nat) (args : List AV) (H : AH) (v : AV) (H' : AH) : Prop :=
  ∀ N m w us cb, H'.nx ≤ N → St N m H w → m l = some cb → LRel m args us.toList → ∃ nx w1, (Instr.yield cb.blk us).run P w = .ok nx w1 ∧ NextS P (Post N m H w v H') nx w1
def DCallS (g : FuncId) (args : List AV) (H H' : AH) : Prop :=
  ∀ N m w us, H'.nx ≤ N → St N m H w → LRel m args us.toList → (callFunc g us).run P w = .ok (.enter g us) w ∧
    CallsDIn Fence.wide 0 P g us .returning w fun e u' w' => (∃ v, e = .returned v) ∧ u' = .returning ∧ ∃ m', Stp m H w m' H' w' ∧ St N m' H' w'
def QS : Rq → AV → AH → Prop
  | .call g args H, v, H' => H.nx ≤ H'.nx ∧ CallS P g args H v H'
  | .dcall g args H, _, H' => H.nx ≤ H'.nx ∧ DCallS P g args H H'
  | .round l args H, v, H' => H.nx ≤ H'.nx ∧ RoundS P l args H v H'
def IhOk {R : Type} (ih : Ih R) : Prop := ∀ q k res, ih q k = some res → ∃ v H', k v H' = some res ∧ QS P q v H'
/-- An operation, its result behind it. -/
def OpS (o : Oper) (f : Fr) (H : AH) (v : AV) (H' : AH) : Prop :=
  H.nx ≤ H'.nx ∧ ∀ N m w a, H'.nx ≤ N → St N m H w → EvalRel m f a → ∃ nx w1, (execOp a.eval o).run P w = .ok nx w1 ∧ NextS P (Post N m H w v H') nx w1
/-- An operation, the frame and all. -/
def OperS (o : Oper) (f : Fr) (H : AH) (f' : Fr) (H' : AH) : Prop :=
  H.nx ≤ H'.nx ∧ ∀ N m w a r, H'.nx ≤ N → St N m H w → FrRel m r f a → ∀ K Q, (∀ m' a' w', Stp m H w m' H' w' → St N m' H' w' → FrRel m' r f' a' → K a' w') → o.wpIn (FW r) 0 P a w K Q
end

section
variable {P : Program} {R : Type}
theorem NextS.mono {K K' : Value → World → Prop} (hk : ∀ v w, K v w → K' v w) {nx : Next} {w : World} (h : NextS P K nx w) : NextS P K' nx w := by
  cases nx <;> first
    | exact hk _ _ h
    | exact CallsIn.mono h fun e w' ⟨v, he, hv⟩ => ⟨v, he, hk _ _ hv⟩
    | exact RoundIn.mono h fun e w' ⟨v, he, hv⟩ => ⟨v, he, hk _ _ hv⟩
    | exact absurd h id
theorem NextS.upon {o : Oper} {a : Act} {next : Act → World → Prop} {Q : Exit → Act → World → Prop} {r : Option Nat} {nx : Next} {w : World} (h : NextS P (fun u w' => next (a.put o.dst u) w') nx w) : o.uponIn (FW r) 0 P a next Q (.ok nx w) := by
  cases nx with
  | value v => exact h
  | skip => exact h
  | enter f args =>
    have h' : CallsIn (FW r) 0 P f args w fun e w' => ∃ v, e = .returned v ∧ next (a.put o.dst v) w' := h
    refine ⟨(fun h => by cases h), CallsIn.mono h' fun e w' he => ?_⟩
    obtain ⟨v, rfl, hv⟩ := he
    exact hv
  | round l f tmps assign body =>
    have h' : RoundIn (FW r) 0 P l f tmps assign body w fun e w' => ∃ v, e = .returned v ∧ next (a.put o.dst v) w' := h
    refine ⟨(fun h => by cases h), RoundIn.mono h' fun e w' he => ?_⟩
    obtain ⟨v, rfl, hv⟩ := he
    exact hv
  | _ => exact absurd h id
theorem fw_fn (r : Option Nat) (f : FuncId) : (FW r).fn f := trivial

theorem post_of_res {s : Sem Next} {v : AV} {N : Nat} {m : BM} {H H' : AH} {w : World} (d : Free N m H) (h : Res P s (Gives v) m H w H') : ∃ nx w1, s.run P w = .ok nx w1 ∧ NextS P (Post N m H w v H') nx w1 := by
  obtain ⟨m', nx, w', h1, h2, h3, h4, z, hz, hv⟩ := h
  refine ⟨nx, w', h1, ?_⟩
  rcases hz with rfl | ⟨rfl, rfl⟩
  · exact ⟨m', h2, ⟨h3, h4, d.step h2⟩, hv⟩
  · exact ⟨m', h2, ⟨h3, h4, d.step h2⟩, hv⟩

/-- Is what comes out a value? -/
def IsVal (H : AH) (x : Option AR) : Prop := ∀ ar, x = some ar → ∃ v H', ar = .val v H' ∧ H.nx ≤ H'.nx
/-- Are the numbers no fewer? -/
def Grows (H : AH) (x : Option AH) : Prop := ∀ H', x = some H' → H.nx ≤ H'.nx
theorem isVal_none {H : AH} : IsVal H none := fun _ h => by cases h
theorem grows_none {H : AH} : Grows H none := fun _ h => by cases h
theorem grows_some {H H' : AH} (hn : H.nx ≤ H'.nx) : Grows H (some H') := fun _ h => by injection h with h; rw [← h]; exact hn
theorem isVal_some {v : AV} {H : AH} : IsVal H (some (.val v H)) := fun _ h => by injection h with h; exact ⟨v, H, h.symm, Nat.le_refl _⟩
theorem isVal_vA {x : Option AV} {H : AH} : IsVal H (vA H x) := by unfold vA; split <;> first | exact isVal_some | exact isVal_none
theorem isVal_hA {x : Option AH} {v : AV} {H : AH} (hx : Grows H x) : IsVal H (hA v x) := by
  intro ar h
  unfold hA at h
  split at h
  · rename_i H'
    injection h with h
    exact ⟨v, H', h.symm, hx H' rfl⟩
  · cases h
theorem isVal_newA {x : ABlk} {k : Nat → AV} {H H0 : AH} (h0 : H0.nx ≤ H.nx) : IsVal H0 (newA H x k) := by
  intro ar h
  unfold newA at h
  split at h
  · injection h with h
    exact ⟨_, _, h.symm, Nat.le_succ_of_le h0⟩
  · cases h
theorem grows_store {b o : Nat} {vs : List AV} {H : AH} : Grows H (storeA H b o vs) := by
  unfold storeA
  split
  · exact grows_some (Nat.le_refl _)
  · split
    · unfold storeAt
      split
      · unfold putCells
        split
        · exact grows_some (Nat.le_refl _)
        · exact grows_none
      · exact grows_none
    · exact grows_none
theorem grows_kill {s : AV} {size : Nat} {H : AH} : Grows H (killFor H size s) := by
  unfold killFor
  split
  · exact grows_some (Nat.le_refl _)
  · unfold killAt
    repeat' split
    all_goals first | exact grows_none | exact grows_some (Nat.le_refl _)
  · exact grows_none
theorem grows_clear {t : TypeId} {x : AV} {H : AH} : Grows H (clearA P t x H) := by
  unfold clearA
  repeat' split
  all_goals first | exact grows_none | exact grows_some (Nat.le_refl _) | skip
  unfold clearTo
  repeat' split
  all_goals first | exact grows_none | exact grows_store
theorem grows_map {t : TypeId} {x k : AV} {H : AH} {f : List (AV × AV) → List (AV × AV)} {nl : Option AH} (hn : Grows H nl) : Grows H (mapDo P t x k H f nl) := by
  unfold mapDo
  repeat' split
  all_goals first | exact grows_none | exact hn | skip
  unfold mapPut
  repeat' split
  all_goals first | exact grows_none | exact grows_some (Nat.le_refl _)
theorem isVal_append {sType xType : TypeId} {s x : AV} {H : AH} : IsVal H (appendA P sType xType s x H) := by
  have g2 : ∀ {H : AH} {need size : Nat} {old new : List AV} {x : Option AH}, Grows H x → IsVal H (grown2 need size old new x) := by
    intro H need size old new x hx
    unfold grown2
    split
    · exact isVal_newA (hx _ rfl)
    · exact isVal_none
  have g1 : ∀ {H : AH} {s : AV} {need size : Nat} {new : List AV} {x : Option (List AV)}, IsVal H (grown1 H s need size new x) := by
    intros; unfold grown1; split <;> first | exact g2 grows_kill | exact isVal_none
  have gp : ∀ {H : AH} {need size : Nat} {new : List AV} {s : AV}, IsVal H (inPlace H need size new s) := by
    intros; unfold inPlace; split <;> first | exact isVal_hA grows_store | exact isVal_some | exact isVal_none
  have gn : ∀ {H : AH} {s : AV} {sLen sCap n size bytes : Nat} {z : AV} {x : Option (List AV)}, IsVal H (appendN H s sLen sCap n size bytes z x) := by
    intros; unfold appendN; repeat' split
    all_goals first | exact gp | exact g1 | exact isVal_none
  unfold appendA
  repeat' split
  all_goals first | exact isVal_none | skip
  unfold append1
  repeat' split
  all_goals first | exact isVal_none | skip
  unfold append2
  repeat' split
  all_goals first | exact isVal_none | exact gn
theorem isVal_copy {t : TypeId} {d s : AV} {H : AH} : IsVal H (copyA P t d s H) := by
  unfold copyA
  repeat' split
  all_goals first | exact isVal_none | skip
  unfold copy1
  repeat' split
  all_goals first | exact isVal_none | skip
  unfold copy2
  repeat' split
  all_goals first | exact isVal_none | skip
  unfold copyTo
  repeat' split
  all_goals first | exact isVal_none | exact isVal_hA grows_store | exact isVal_some
theorem isVal_builtin {b : Builtin} {ts : List TypeId} {args : List AV} {H : AH} : IsVal H (builtinA P b ts args H) := by
  have gm : ∀ {m : List AV → AV → Option AV} {l : List AV}, IsVal H (mm H m l) := by
    intros; unfold mm; split <;> first | exact isVal_vA | exact isVal_none
  unfold builtinA
  split
  · exact gm
  · exact gm
  · unfold builtinR
    repeat' split
    all_goals first | exact isVal_none | skip
    · unfold builtin1
      split <;> first | exact isVal_vA | exact isVal_hA grows_clear | exact isVal_none
    · unfold builtin2
      split <;> first | exact isVal_append | exact isVal_copy | exact isVal_hA (grows_map (grows_some (Nat.le_refl _))) | exact isVal_none
theorem isVal_conv {s d : TypeId} {x : AV} {H : AH} : IsVal H (convA P s d x H) := by
  unfold convA
  split
  · unfold convTo
    repeat' split
    all_goals first | exact isVal_none | exact isVal_some | exact isVal_vA | exact isVal_newA (Nat.le_refl _)
  · exact isVal_none
theorem isVal_makeSlice {t : TypeId} {l c : AV} {H : AH} : IsVal H (makeSliceA P t l c H) := by
  unfold makeSliceA
  split
  · unfold makeSl1
    split
    · unfold makeSl
      repeat' split
      all_goals first | exact isVal_none | exact isVal_newA (Nat.le_refl _)
    · exact isVal_none
  · exact isVal_none
/-- An operation gives a value at once, or it calls, or it defers. -/
theorem opA_cases (f : Fr) (H : AH) (op : Op) : IsVal H (opA P f H op) ∨ (∃ c g, op = .call c ∧ c.callee = .value g) ∨ ∃ c, op = .defer c := by
  unfold opA
  split
  case h_25 c =>
    cases hc : c.callee with
    | builtin b =>
      left
      unfold opCall
      split
      · unfold opCallee
        rw [hc]
        exact isVal_builtin
      · exact isVal_none
    | value g => exact .inr (.inl ⟨c, g, rfl, hc⟩)
    | invoke x n =>
      left
      unfold opCall
      split
      · unfold opCallee
        rw [hc]
        exact isVal_none
      · exact isVal_none
  case h_26 c => exact .inr (.inr ⟨c, rfl⟩)
  all_goals left
  · exact isVal_vA
  · exact isVal_vA
  · unfold opPick; repeat' split
    all_goals first | exact isVal_none | exact isVal_vA
  · unfold newVarA; split <;> first | exact isVal_none | exact isVal_newA (Nat.le_refl _)
  · unfold newVarA; split <;> first | exact isVal_none | exact isVal_newA (Nat.le_refl _)
  · unfold opBuild; split <;> first | exact isVal_none | exact isVal_vA
  · unfold opBuildSlice; split
    · unfold newSl; split <;> first | exact isVal_none | exact isVal_newA (Nat.le_refl _)
    · exact isVal_none
  · unfold opLoad; split <;> first | exact isVal_none | exact isVal_vA
  · unfold opStore; repeat' split
    all_goals first | exact isVal_none | skip
    unfold storeN; repeat' split
    all_goals first | exact isVal_none | exact isVal_hA grows_store
  · unfold opNilCheck; split <;> first | exact isVal_none | exact isVal_some
  · unfold opBin; split <;> first | exact isVal_none | exact isVal_vA
  · unfold opUn; split <;> first | exact isVal_none | exact isVal_vA
  · unfold opConv; split <;> first | exact isVal_none | exact isVal_conv
  · unfold opFunc; repeat' split
    all_goals first | exact isVal_none | exact isVal_some
  · unfold opMakeMap; repeat' split
    all_goals first | exact isVal_none | exact isVal_newA (Nat.le_refl _)
  · unfold opMakeSlice; split <;> first | exact isVal_none | exact isVal_makeSlice
  · unfold opSlice; split
    · unfold opSlice1; split
      · unfold opSlice2; split
        · unfold opSlice3; split <;> first | exact isVal_none | exact isVal_vA
        · exact isVal_none
      · exact isVal_none
    · exact isVal_none
  · unfold opFieldAddr; split <;> first | exact isVal_none | exact isVal_vA
  · unfold opField; split <;> first | exact isVal_none | exact isVal_vA
  · unfold opIndexAddr; split <;> first | exact isVal_none | exact isVal_vA
  · unfold opIndex; split <;> first | exact isVal_none | exact isVal_vA
  · unfold opLookup; split <;> first | exact isVal_none | exact isVal_vA
  · unfold opUpdate; repeat' split
    all_goals first | exact isVal_none | exact isVal_hA (grows_map grows_none)
  · unfold opExtract; split <;> first | exact isVal_none | exact isVal_vA
  · exact isVal_none

theorem opA_grows {f : Fr} {H : AH} {op : Op} {v : AV} {H' : AH} (h : opA P f H op = some (.val v H')) : H.nx ≤ H'.nx := by
  rcases opA_cases (P := P) f H op with h1 | ⟨c, gx, ho, hc⟩ | ⟨c, ho⟩
  · obtain ⟨v', H2, e, hn⟩ := h1 _ h
    injection e with e1 e2
    rw [e2]
    exact hn
  · subst ho
    have h : opCall P f H c (aevs f c.args.toList) = some _ := h
    unfold opCall at h
    split at h
    · simp only [opCallee, hc] at h
      unfold invokeA at h
      split at h <;> cases h
    · cases h
  · subst ho
    have h : opDefer f c.callee (aevs f c.args.toList) = some _ := h
    unfold opDefer at h
    split at h
    · split at h
      · unfold dfrA at h
        split at h <;> cases h
      · cases h
    · cases h
theorem opS_val {o : Oper} {f : Fr} {H : AH} {v : AV} {H' : AH} (h : opA P f H o.op = some (.val v H')) : OpS P o f H v H' :=
  ⟨opA_grows h, fun _ _ _ _ hN st hf => post_of_res st.free (opA_val st.rel st.ok hf h fun b hb hb' => st.free b hb (Nat.lt_of_lt_of_le hb' hN))⟩

/-- The operations that call. -/
theorem opA_call {f : Fr} {H : AH} {o : Oper} {ar : AR} (h : opA P f H o.op = some ar) (hn : ∀ v H', ar ≠ .val v H') (hd : ∀ c, o.op ≠ .defer c) {m : BM} {a : Act} (hf : EvalRel m f a) (w : World) :
    (∃ g args us, ar = .enter g args ∧ LRel m args us.toList ∧ (execOp a.eval o).run P w = (callFunc g us).run P w) ∨
    ∃ l args us cb, ar = .round l args ∧ m l = some cb ∧ LRel m args us.toList ∧ (execOp a.eval o).run P w = (Instr.yield cb.blk us).run P w := by
  rcases opA_cases (P := P) f H o.op with h1 | ⟨c, gx, ho, hc⟩ | ⟨c, ho⟩
  · obtain ⟨v, H', e, _⟩ := h1 ar h
    exact absurd e (hn v H')
  · rw [ho] at h
    have h : opCall P f H c (aevs f c.args.toList) = some ar := h
    unfold opCall at h
    split at h
    · rename_i as has
      simp only [opCallee, hc] at h
      have hl := aevs_rel hf has
      unfold invokeA at h
      split at h
      · rename_i g' first captured hg
        injection h with h
        have hgr := aev_rel hf hg
        generalize hu : a.eval gx = u at hgr
        cases hgr with
        | func h1 h2 =>
          rename_i first' captured'
          refine .inl ⟨g', _, first' ++ c.args.map a.eval ++ captured', h.symm, ?_, ?_⟩
          · rw [app_eq, app_eq]
            have := h1.append (hl.append h2)
            simpa using this
          · simp [execOp, ho, resolve, hc, Deferred.ofValue, hu, invoke]
      · rename_i l hg
        injection h with h
        have hgr := aev_rel hf hg
        generalize hu : a.eval gx = u at hgr
        cases hgr with
        | yield hb =>
          refine .inr ⟨l, _, c.args.map a.eval, _, h.symm, hb, by simpa using hl, ?_⟩
          simp [execOp, ho, resolve, hc, Deferred.ofValue, hu, invoke]
      · cases h
    · cases h
  · exact absurd ho (hd c)

/-- What an operation comes to, with what it calls. -/
def ArS (P : Program) (H : AH) (v : AV) (H' : AH) : AR → Prop
  | .val v' H2 => v' = v ∧ H2 = H'
  | .enter g args => H.nx ≤ H'.nx ∧ CallS P g args H v H'
  | .round l args => H.nx ≤ H'.nx ∧ RoundS P l args H v H'
  | .dfr _ _ _ => False
theorem opS_of {o : Oper} {f : Fr} {H : AH} {ar : AR} {v : AV} {H' : AH} (hd : ∀ c, o.op ≠ .defer c) (har : opA P f H o.op = some ar) (h : ArS P H v H' ar) : OpS P o f H v H' := by
  cases ar with
  | val v' H2 => obtain ⟨rfl, rfl⟩ := h; exact opS_val har
  | enter g args =>
    refine ⟨h.1, fun N m w a hN st hf => ?_⟩
    rcases opA_call har (fun _ _ h => by cases h) hd hf w with ⟨g', args', us, e, hl, hrun⟩ | ⟨l, args', us, cb, e, _⟩
    · injection e with e1 e2
      subst e1; subst e2
      obtain ⟨nx, w1, h5, h6⟩ := h.2 N m w us hN st hl
      exact ⟨nx, w1, hrun.trans h5, h6⟩
    · cases e
  | round l args =>
    refine ⟨h.1, fun N m w a hN st hf => ?_⟩
    rcases opA_call har (fun _ _ h => by cases h) hd hf w with ⟨g', args', us, e, _⟩ | ⟨l', args', us, cb, e, hb, hl, hrun⟩
    · cases e
    · injection e with e1 e2
      subst e1; subst e2
      obtain ⟨nx, w1, h5, h6⟩ := h.2 N m w us cb hN st hb hl
      exact ⟨nx, w1, hrun.trans h5, h6⟩
  | dfr g captured args => exact absurd h id
/-- An operation, run with what it calls. -/
theorem arK_sound {ih : Ih R} (hi : IhOk P ih) {o : Oper} {f : Fr} {H : AH} {k : AV → Fr → AH → Option R} {res : R} (hd : ∀ c, o.op ≠ .defer c) (h : arK ih (cPut o.dst).put f H k (opA P f H o.op) = some res) :
    ∃ ar v f' H', opA P f H o.op = some ar ∧ k v f' H' = some res ∧ f.put o.dst v = some f' ∧ ArS P H v H' ar := by
  cases har : opA P f H o.op with
  | none => rw [har] at h; cases h
  | some ar =>
    rw [har] at h
    cases ar with
    | val v H' =>
      obtain ⟨f', h1, h2⟩ := cPut_put h
      exact ⟨_, v, f', H', rfl, h2, h1, rfl, rfl⟩
    | enter g args =>
      obtain ⟨v, H', h1, h2⟩ := hi _ _ _ h
      obtain ⟨f', h3, h4⟩ := cPut_put h1
      exact ⟨_, v, f', H', rfl, h4, h3, h2⟩
    | round l args =>
      obtain ⟨v, H', h1, h2⟩ := hi _ _ _ h
      obtain ⟨f', h3, h4⟩ := cPut_put h1
      exact ⟨_, v, f', H', rfl, h4, h3, h2⟩
    | dfr g captured args =>
      exfalso
      rcases opA_cases (P := P) f H o.op with h1 | ⟨c, gx, ho, hc⟩ | ⟨c, ho⟩
      · obtain ⟨v, H', e, _⟩ := h1 _ har
        cases e
      · rw [ho] at har
        have har : opCall P f H c (aevs f c.args.toList) = some _ := har
        unfold opCall at har
        split at har
        · simp only [opCallee, hc] at har
          unfold invokeA at har
          split at har <;> cases har
        · cases har
      · exact hd c ho
end
end Go.Ev
/- Regions in the text's order; code. -/
namespace Go.Ev
open Go

section
variable {P : Program} {R : Type}
theorem operS_of {o : Oper} {f f' : Fr} {H H' : AH} {v : AV} (hd : ∀ c, o.op ≠ .defer c) (hp : f.put o.dst v = some f') (h : OpS P o f H v H') : OperS P o f H f' H' := by
  refine ⟨h.1, fun N m w a r hN st fr K Q hK => ⟨fun _ _ => trivial, ?_⟩⟩
  rw [Oper.semAt_eq _ _ _ hd]
  obtain ⟨nx, w1, h1, h2⟩ := h.2 N m w a hN st fr.ev
  rw [h1]
  refine NextS.upon (h2.mono fun u w' hu => ?_)
  obtain ⟨m', s, st', hv⟩ := hu
  exact hK m' _ w' s st' ((fr.mono s.ext).put hp hv)
theorem operS_defer {o : Oper} {f f' : Fr} {H : AH} {c : Call} {g : FuncId} {captured args : List AV} (ho : o.op = .defer c) (har : opA P f H o.op = some (.dfr g captured args)) (hrd : f.rd = none)
    (hp : (⟨f.tm, .call g captured args :: f.df, f.nt, none, f.fn⟩ : Fr).put o.dst Ev.und = some f') : OperS P o f H f' H := by
  refine ⟨Nat.le_refl _, fun N m w a r hN st fr K Q hK => ⟨fun _ _ => trivial, ?_⟩⟩
  have hr : r = none := by have := fr.rd; rw [hrd] at this; exact this
  subst hr
  rw [ho] at har
  have har : opDefer f c.callee (aevs f c.args.toList) = some (.dfr g captured args) := har
  unfold opDefer at har
  split at har
  · rename_i as has
    split at har
    · rename_i gx hc
      unfold dfrA at har
      split at har
      · rename_i g' first' captured' hg
        injection har with har
        injection har with h1 h2 h3
        subst h1; subst h2; subst h3
        have hgr := aev_rel fr.ev hg
        have hl := aevs_rel fr.ev has
        generalize hu : a.eval gx = u at hgr
        cases hgr with
        | func h1 h2 =>
          rename_i first2 captured2
          have hrun : (Oper.semAt none a.eval o).run P w = .ok (.defer { target := .fn (.func g') captured2, args := first2 ++ c.args.map a.eval }) w := by
            rw [Oper.semAt_none]
            simp [execOp, ho, resolve, hc, Deferred.ofValue, hu]
          show o.uponIn (FW none) 0 P a K Q ((Oper.semAt none a.eval o).run P w)
          rw [hrun]
          refine hK m _ w (.refl _ _ _ _) st ?_
          have fr2 : FrRel m none (⟨f.tm, .call g' captured' (app first' as) :: f.df, f.nt, none, f.fn⟩ : Fr) { a with defers := { target := .fn (.func g') captured2, args := first2 ++ c.args.map a.eval } :: a.defers } := by
            refine ⟨fr.tm, .call h2 ?_ fr.df, rfl⟩
            rw [app_eq, Array.toList_append, Array.toList_map]
            exact h1.append hl
          exact fr2.put hp (.und m)
      · cases har
    · cases har
  · cases har
/-- A compiled operation. -/
theorem cOp_sound {ih : Ih R} (hi : IhOk P ih) {o : Oper} {f : Fr} {H : AH} {k : AV → Fr → AH → Option R} {res : R} (h : (cOp P o).run ih f H k = some res) :
    ∃ v f' H', k v f' H' = some res ∧ OperS P o f H f' H' := by
  have h := cOp_runs (P := P) o ih f H k res h
  by_cases hd : ∀ c, o.op ≠ .defer c
  · obtain ⟨ar, v, f', H', har, h1, h2, h3⟩ := arK_sound hi hd h
    exact ⟨v, f', H', h1, operS_of hd h2 (opS_of hd har h3)⟩
  · have hd' : ∃ c, o.op = .defer c := Classical.byContradiction fun hn => hd fun c hc => hn ⟨c, hc⟩
    obtain ⟨c, ho⟩ := hd'
    cases har : opA P f H o.op with
    | none => rw [har] at h; cases h
    | some ar =>
      have hk : ∃ g captured args, ar = .dfr g captured args := by
        rw [ho] at har
        have har : opDefer f c.callee (aevs f c.args.toList) = some ar := har
        unfold opDefer at har
        split at har
        · split at har
          · unfold dfrA at har
            split at har
            · injection har with har; exact ⟨_, _, _, har.symm⟩
            · cases har
          · cases har
        · cases har
      obtain ⟨g, captured, args, rfl⟩ := hk
      rw [har] at h
      have h : deferK f (.call g captured args) (fun f' => (cPut o.dst).put Ev.und f' fun f2 => k Ev.und f2 H) = some res := h
      obtain ⟨tm, df, nt, rd, fn⟩ := f
      unfold deferK at h
      dsimp only at h
      split at h
      · obtain ⟨f', h1, h2⟩ := cPut_put h
        exact ⟨Ev.und, f', H, h2, operS_defer ho har rfl h1⟩
      · cases h

/-! Guards -/
/-- An operation under its guard. -/
def GuardS (P : Program) (ops : Array Oper) (o : Oper) (f : Fr) (H : AH) (f' : Fr) (H' : AH) : Prop :=
  H.nx ≤ H'.nx ∧ ∀ N m w a r, H'.nx ≤ N → St N m H w → FrRel m r f a → ∀ K Q, (∀ m' a' w', Stp m H w m' H' w' → St N m' H' w' → FrRel m' r f' a' → K a' w') →
    if Region.wanted o (yielded ops a.tmps) then o.wpIn (FW r) 0 P a w K Q else (∀ f, o.about P w a.eval = some f → (FW r).fn f) ∧ K (a.put o.dst undef) w
theorem bEq_iff (a b : Bool) : bEq a b = true ↔ a = b := by cases a <;> cases b <;> simp [bEq]
theorem boolIs_iff {w : Bool} {v : AV} : boolIs w v = true ↔ v = .bool w := by
  unfold boolIs
  split
  · rw [bEq_iff]
    exact ⟨fun h => by rw [h], fun h => by injection h⟩
  · rename_i h
    exact ⟨fun h => (by cases h), fun h1 => absurd h1 (h _)⟩
theorem wanted_iff {m : BM} {r : Option Nat} {f : Fr} {a : Act} (fr : FrRel m r f a) {ops : Array Oper} {o : Oper} {j : Nat} {want : Bool} (hg : o.guard = some (j, want)) :
    Region.wanted o (yielded ops a.tmps) = true ↔ ∃ d, dstAt ops j = some d ∧ f.get d = .bool want := by
  unfold Region.wanted
  rw [hg]
  simp only [beq_iff_eq]
  unfold yielded dstAt
  cases hd : (ops[j]?).bind (·.dst) with
  | none => simp
  | some d =>
    simp only [Option.bind_some, Option.some.injEq]
    have hr := fr.ev d
    rw [Array.getD_eq_getD_getElem?] at hr
    cases ht : a.tmps[d]? with
    | none =>
      rw [ht] at hr
      simp only [Option.getD_none] at hr
      refine ⟨fun h => by simp at h, fun ⟨d', e, hb⟩ => ?_⟩
      subst e
      rw [hb] at hr
      cases hr
    | some u =>
      rw [ht] at hr
      simp only [Option.getD_some] at hr
      constructor
      · intro h
        cases u <;> simp at h
        subst h
        refine ⟨d, rfl, ?_⟩
        generalize f.get d = x at hr
        cases hr
        rfl
      · rintro ⟨d', e, hb⟩
        subst e
        rw [hb] at hr
        cases hr
        rfl
theorem cOper_sound {ih : Ih R} (hi : IhOk P ih) {ops : Array Oper} {o : Oper} {f : Fr} {H : AH} {k : AV → Fr → AH → Option R} {res : R} (h : (cOper P ops o).run ih f H k = some res) :
    ∃ v f' H', k v f' H' = some res ∧ GuardS P ops o f H f' H' := by
  unfold cOper cGuard at h
  split at h
  · rename_i hg
    obtain ⟨v, f', H', h1, h2⟩ := cOp_sound hi h
    refine ⟨v, f', H', h1, h2.1, fun N m w a r hN st fr K Q hK => ?_⟩
    rw [if_pos (by simp [Region.wanted, hg])]
    exact h2.2 N m w a r hN st fr K Q hK
  · rename_i j want hg
    split at h
    · rename_i run hrun
      split at h
      · rename_i s hs
        have skip : s ih f H k = some res → ∃ v f' H', k v f' H' = some res ∧ H' = H ∧ f.put o.dst Ev.und = some f' := by
          intro h
          unfold skipK at hs
          split at hs
          rename_i p hp
          injection hs with hs
          subst hs
          have h : p Ev.und f (fun f' => k Ev.und f' H) = some res := h
          have h : (cPut (R := R) o.dst).put Ev.und f (fun f' => k Ev.und f' H) = some res := by rw [hp]; exact h
          obtain ⟨f', h1, h2⟩ := cPut_put h
          exact ⟨_, f', H, h2, rfl, h1⟩
        have skipS : ∀ {f' : Fr}, (¬ ∃ d, dstAt ops j = some d ∧ f.get d = .bool want) → f.put o.dst Ev.und = some f' → GuardS P ops o f H f' H := by
          intro f' hn hp
          refine ⟨Nat.le_refl _, fun N m w a r hN st fr K Q hK => ?_⟩
          rw [if_neg (by rw [wanted_iff fr hg]; exact hn)]
          exact ⟨fun _ _ => trivial, hK m _ w (.refl _ _ _ _) st (fr.put hp (.und m))⟩
        unfold guardAt guardG at h
        cases hd : dstAt ops j with
        | none =>
          rw [hd] at h
          obtain ⟨v, f', H', h1, rfl, h2⟩ := skip h
          exact ⟨v, f', H', h1, skipS (by rw [hd]; rintro ⟨d, e, _⟩; cases e) h2⟩
        | some d =>
          rw [hd] at h
          cases hg' : cGet (.tmp d) with
          | none => simp only [hg'] at h; simp only [cGet] at hg'; cases hg'
          | some g =>
            obtain ⟨g⟩ := g
            simp only [hg'] at h
            have hgf : g f = f.get d := by
              have := cGet_aev hg' f
              simp only [aev] at this
              injection this with this
              exact this.symm
            split at h
            · rename_i hb
              rw [hgf] at hb
              have hb := boolIs_iff.1 hb
              have h : (cOp P o).run ih f H k = some res := by rw [hrun]; exact h
              obtain ⟨v, f', H', h1, h2⟩ := cOp_sound hi h
              refine ⟨v, f', H', h1, h2.1, fun N m w a r hN st fr K Q hK => ?_⟩
              rw [if_pos ((wanted_iff fr hg).2 ⟨d, hd, hb⟩)]
              exact h2.2 N m w a r hN st fr K Q hK
            · rename_i hb
              rw [hgf] at hb
              obtain ⟨v, f', H', h1, rfl, h2⟩ := skip h
              refine ⟨v, f', H', h1, skipS ?_ h2⟩
              rintro ⟨d', e, hb'⟩
              rw [hd] at e
              injection e with e
              subst e
              rw [boolIs_iff.2 hb'] at hb
              cases hb

/-! The text's order -/
theorem cSeq_sound {ih : Ih R} (hi : IhOk P ih) {ops : Array Oper} : ∀ (l : List Oper) {f : Fr} {H : AH} {k : AV → Fr → AH → Option R} {res : R}, (cSeq P ops l).run ih f H k = some res →
    ∃ v f' H', k v f' H' = some res ∧ H.nx ≤ H'.nx ∧ ∀ pre, ops.toList = pre ++ l → ∀ N m w a r, H'.nx ≤ N → St N m H w → FrRel m r f a → ∀ Q : Exit → Act → World → Prop, (∀ m' a' w', Stp m H w m' H' w' → St N m' H' w' → FrRel m' r f' a' → Q .normal a' w') →
      wpOpsIn (FW r) 0 P ops Q (List.range' pre.length l.length) a w
  | [], f, H, k, res, h => ⟨Ev.und, f, H, h, Nat.le_refl _, fun pre _ N m w a r hN st fr Q hQ => hQ m a w (.refl _ _ _ _) st fr⟩
  | o :: l, f, H, k, res, h => by
    have h : (match cOper P ops o with
      | ⟨r⟩ => match cSeq P ops l with
        | ⟨s⟩ => (⟨fun ih f H k => r ih f H fun _ f H => s ih f H k⟩ : OpK R)).run ih f H k = some res := h
    have h : (cOper P ops o).run ih f H (fun _ f H => (cSeq P ops l).run ih f H k) = some res := h
    obtain ⟨v1, f1, H1, h1, g1⟩ := cOper_sound hi h
    obtain ⟨v2, f2, H2, h2, n2, g2⟩ := cSeq_sound hi l h1
    refine ⟨v2, f2, H2, h2, Nat.le_trans g1.1 n2, fun pre hpre N m w a r hN st fr Q hQ => ?_⟩
    have ho : ops[pre.length]? = some o := by rw [← Array.getElem?_toList, hpre]; simp
    have g1 := g1.2 N m w a r (Nat.le_trans n2 hN) st fr (wpOpsIn (FW r) 0 P ops Q (List.range' (pre.length + 1) l.length)) Q (fun m1 a1 w1 s1 st1 fr1 => by
      have := g2 (pre ++ [o]) (by simp [hpre]) N m1 w1 a1 r hN st1 fr1 Q (fun m' a' w' s2 st2 fr2 => hQ m' a' w' (s1.trans s2) st2 fr2)
      simpa using this)
    simp only [List.length_cons, List.range'_succ, wpOpsIn, ho]
    exact g1

/-! Code -/
def exOf : Ex → Exit
  | .normal => .normal
  | .exit id => .exit id
  | .ret => .ret
def CodeS (P : Program) (c : Code) (f : Fr) (H : AH) (x : Ex) (f' : Fr) (H' : AH) : Prop :=
  H.nx ≤ H'.nx ∧ ∀ N m w a r, H'.nx ≤ N → St N m H w → FrRel m r f a → ∀ Q : Exit → Act → World → Prop, (∀ m' a' w', Stp m H w m' H' w' → St N m' H' w' → FrRel m' r f' a' → Q (exOf x) a' w') → c.wpIn (FW r) 0 P Q a w
/-- Compiled code stands for the code. -/
def CodeOk (P : Program) (c : Code) (K : CodeRun R) : Prop :=
  ∀ n ih, IhOk P ih → ∀ f H k e res, K n ih f H k e = some res →
    (∃ f' H', k f' H' = some res ∧ CodeS P c f H .normal f' H') ∨ ∃ x f' H', x ≠ .normal ∧ e x f' H' = some res ∧ CodeS P c f H x f' H'
theorem codeOk_none {c : Code} : CodeOk P c (noneC (R := R)).run := fun _ _ _ _ _ _ _ _ h => by cases h
theorem codeOk_seq {x y : Code} {a b : CodeK R} (ha : CodeOk P x a.run) (hb : CodeOk P y b.run) : CodeOk P (.seq x y) (seqC a b).run := by
  intro n ih hi f H k e res h
  have h : a.run n ih f H (fun f H => b.run n ih f H k e) e = some res := h
  rcases ha n ih hi f H _ e res h with ⟨f1, H1, h1, g1⟩ | ⟨x1, f1, H1, hx, h1, g1⟩
  · rcases hb n ih hi f1 H1 k e res h1 with ⟨f2, H2, h2, g2⟩ | ⟨x2, f2, H2, hx, h2, g2⟩
    · exact .inl ⟨f2, H2, h2, Nat.le_trans g1.1 g2.1, fun N m w a r hN st fr Q hQ => wpIn_seq (g1.2 N m w a r (Nat.le_trans g2.1 hN) st fr _ fun m1 a1 w1 s1 st1 fr1 => g2.2 N m1 w1 a1 r hN st1 fr1 Q fun m2 a2 w2 s2 st2 fr2 => hQ m2 a2 w2 (s1.trans s2) st2 fr2)⟩
    · exact .inr ⟨x2, f2, H2, hx, h2, Nat.le_trans g1.1 g2.1, fun N m w a r hN st fr Q hQ => wpIn_seq (g1.2 N m w a r (Nat.le_trans g2.1 hN) st fr _ fun m1 a1 w1 s1 st1 fr1 => g2.2 N m1 w1 a1 r hN st1 fr1 Q fun m2 a2 w2 s2 st2 fr2 => hQ m2 a2 w2 (s1.trans s2) st2 fr2)⟩
  · refine .inr ⟨x1, f1, H1, hx, h1, g1.1, fun N m w a r hN st fr Q hQ => wpIn_seq (g1.2 N m w a r hN st fr _ fun m1 a1 w1 s1 st1 fr1 => ?_)⟩
    have := hQ m1 a1 w1 s1 st1 fr1
    cases x1 with
    | normal => exact absurd rfl hx
    | exit id => exact this
    | ret => exact this
theorem codeOk_block {id : Nat} {x : Code} {a : CodeK R} (ha : CodeOk P x a.run) : CodeOk P (.block id x) (blockC id a).run := by
  intro n ih hi f H k e res h
  have h : a.run n ih f H k (blockX id k e) = some res := h
  rcases ha n ih hi f H _ _ res h with ⟨f1, H1, h1, g1⟩ | ⟨x1, f1, H1, hx, h1, g1⟩
  · exact .inl ⟨f1, H1, h1, g1.1, fun N m w a r hN st fr Q hQ => wpIn_block (g1.2 N m w a r hN st fr _ fun m1 a1 w1 s1 st1 fr1 => hQ m1 a1 w1 s1 st1 fr1)⟩
  · unfold blockX at h1
    split at h1
    · rename_i id'
      split at h1
      · rename_i he
        have he := Nat.eq_of_beq_eq_true he
        subst he
        refine .inl ⟨f1, H1, h1, g1.1, fun N m w a r hN st fr Q hQ => wpIn_block (g1.2 N m w a r hN st fr _ fun m1 a1 w1 s1 st1 fr1 => ?_)⟩
        show Exit.inBlock id' Q (.exit id') a1 w1
        simp only [Exit.inBlock, if_true]
        exact hQ m1 a1 w1 s1 st1 fr1
      · rename_i he
        refine .inr ⟨.exit id', f1, H1, hx, h1, g1.1, fun N m w a r hN st fr Q hQ => wpIn_block (g1.2 N m w a r hN st fr _ fun m1 a1 w1 s1 st1 fr1 => ?_)⟩
        show Exit.inBlock id Q (.exit id') a1 w1
        have hne : ¬ id' = id := fun e => by rw [e] at he; rw [show Nat.beq id id = true from Nat.beq_refl id] at he; cases he
        simp only [Exit.inBlock, if_neg hne]
        exact hQ m1 a1 w1 s1 st1 fr1
    · rename_i hne
      refine .inr ⟨x1, f1, H1, hx, h1, g1.1, fun N m w a r hN st fr Q hQ => wpIn_block (g1.2 N m w a r hN st fr _ fun m1 a1 w1 s1 st1 fr1 => ?_)⟩
      have := hQ m1 a1 w1 s1 st1 fr1
      cases x1 with
      | normal => exact this
      | exit id' => exact absurd rfl (hne id')
      | ret => exact this
theorem codeOk_cond {c : Operand} {x y : Code} {a b : CodeK R} (ha : CodeOk P x a.run) (hb : CodeOk P y b.run) : CodeOk P (.cond c x y) (condC a b (cGet c)).run := by
  intro n ih hi f H k e res h
  unfold condC at h
  split at h
  · rename_i g hg
    have h : condR a.run b.run n ih f H k e (g f) = some res := h
    unfold condR at h
    split at h
    · rename_i t ht
      have hev : ∀ {m : BM} {r : Option Nat} {a : Act}, FrRel m r f a → a.eval c = .bool t := by
        intro m r a fr
        have := aev_rel fr.ev (cGet_aev hg f)
        rw [ht] at this
        generalize a.eval c = u at this
        cases this
        rfl
      split at h
      · rcases ha n ih hi f H k e res h with ⟨f1, H1, h1, g1⟩ | ⟨x1, f1, H1, hx, h1, g1⟩
        · exact .inl ⟨f1, H1, h1, g1.1, fun N m w a r hN st fr Q hQ => wpIn_cond_true (hev fr) (g1.2 N m w a r hN st fr Q hQ)⟩
        · exact .inr ⟨x1, f1, H1, hx, h1, g1.1, fun N m w a r hN st fr Q hQ => wpIn_cond_true (hev fr) (g1.2 N m w a r hN st fr Q hQ)⟩
      · rcases hb n ih hi f H k e res h with ⟨f1, H1, h1, g1⟩ | ⟨x1, f1, H1, hx, h1, g1⟩
        · exact .inl ⟨f1, H1, h1, g1.1, fun N m w a r hN st fr Q hQ => wpIn_cond_false (hev fr) (g1.2 N m w a r hN st fr Q hQ)⟩
        · exact .inr ⟨x1, f1, H1, hx, h1, g1.1, fun N m w a r hN st fr Q hQ => wpIn_cond_false (hev fr) (g1.2 N m w a r hN st fr Q hQ)⟩
    · cases h
  · cases h
/-- A loop, so many rounds of it. -/
def LoopN (F : Fence) (P : Program) (c : Code) (Q : Exit → Act → World → Prop) : Nat → Act → World → Prop
  | 0, _, _ => False
  | j + 1, a, w => c.wpIn F 0 P (Exit.then (LoopN F P c Q j) Q) a w
theorem least {p : Nat → Prop} (h : ∃ j, p j) : ∃ j, p j ∧ ∀ i, p i → j ≤ i := by
  obtain ⟨j, hj⟩ := h
  induction j using Nat.strongRecOn with
  | _ j ih =>
    by_cases h : ∃ i, i < j ∧ p i
    · obtain ⟨i, hi, hp⟩ := h
      exact ih i hi hp
    · exact ⟨j, hj, fun i hi => Nat.le_of_not_lt fun hlt => h ⟨i, hlt, hi⟩⟩
theorem wpIn_loopN {F : Fence} {c : Code} {Q : Exit → Act → World → Prop} {j : Nat} {a : Act} {w : World} (h : LoopN F P c Q j a w) : (Code.loop c).wpIn F 0 P Q a w := by
  classical
  refine wpIn_loop (fun a w => ∃ j, LoopN F P c Q j a w) (fun a w => if h : ∃ j, LoopN F P c Q j a w then (least h).choose else 0) ⟨j, h⟩ ?_
  intro a w hI
  have hsp := (least hI).choose_spec
  have hmu : (if h : ∃ j, LoopN F P c Q j a w then (least h).choose else 0) = (least hI).choose := dif_pos hI
  cases hj : (least hI).choose with
  | zero => rw [hj] at hsp; exact absurd hsp.1 id
  | succ j' =>
    rw [hj] at hsp
    have h1 : c.wpIn F 0 P (Exit.then (LoopN F P c Q j') Q) a w := hsp.1
    refine wpIn_mono h1 fun e a' w' hq => ?_
    cases e <;> first | exact hq | skip
    refine ⟨⟨j', hq⟩, ?_⟩
    rw [hmu, hj]
    have hI' : ∃ j, LoopN F P c Q j a' w' := ⟨j', hq⟩
    rw [dif_pos hI']
    have := (least hI').choose_spec.2 j' hq
    omega
theorem codeOk_loop {x : Code} {a : CodeK R} (ha : CodeOk P x a.run) : CodeOk P (.loop x) (loopC a).run := by
  intro n ih hi f H k e res h
  have h : again a.run ih e n n f H = some res := h
  have key : ∀ j (f : Fr) (H : AH), again a.run ih e n j f H = some res → ∃ x1 f' H', x1 ≠ .normal ∧ e x1 f' H' = some res ∧ H.nx ≤ H'.nx ∧ ∃ i, ∀ N m w a r, H'.nx ≤ N → St N m H w → FrRel m r f a → ∀ Q : Exit → Act → World → Prop,
      (∀ m' a' w', Stp m H w m' H' w' → St N m' H' w' → FrRel m' r f' a' → Q (exOf x1) a' w') → LoopN (FW r) P x Q i a w := by
    intro j
    induction j with
    | zero => intro f H h; cases h
    | succ j ihj =>
      intro f H h
      have h : a.run n ih f H (again a.run ih e n j) e = some res := h
      rcases ha n ih hi f H _ e res h with ⟨f1, H1, h1, g1⟩ | ⟨x1, f1, H1, hx, h1, g1⟩
      · obtain ⟨x2, f2, H2, hx2, h2, n2, i, g2⟩ := ihj f1 H1 h1
        exact ⟨x2, f2, H2, hx2, h2, Nat.le_trans g1.1 n2, i + 1, fun N m w a r hN st fr Q hQ => g1.2 N m w a r (Nat.le_trans n2 hN) st fr _ fun m1 a1 w1 s1 st1 fr1 => g2 N m1 w1 a1 r hN st1 fr1 Q fun m2 a2 w2 s2 st2 fr2 => hQ m2 a2 w2 (s1.trans s2) st2 fr2⟩
      · refine ⟨x1, f1, H1, hx, h1, g1.1, 1, fun N m w a r hN st fr Q hQ => g1.2 N m w a r hN st fr _ fun m1 a1 w1 s1 st1 fr1 => ?_⟩
        have := hQ m1 a1 w1 s1 st1 fr1
        cases x1 with
        | normal => exact absurd rfl hx
        | exit id => exact this
        | ret => exact this
  obtain ⟨x1, f', H', hx, h1, hn, i, g⟩ := key n f H h
  exact .inr ⟨x1, f', H', hx, h1, hn, fun N m w a r hN st fr Q hQ => wpIn_loopN (g N m w a r hN st fr Q hQ)⟩
end
end Go.Ev
/- Functions: entering and leaving; deferred calls; rounds; a range over a function. -/
namespace Go.Ev
open Go

section
variable {P : Program} {R : Type}
theorem Stp.refl {m : BM} {H : AH} {w : World} : Stp m H w m H w := Step.refl _ _ _ _
theorem St.of {N : Nat} {m m' : BM} {H H' : AH} {w w' : World} (st : St N m H w) (s : Stp m H w m' H' w') (r : Rel m' H'.get w') (hk : HOk H') : St N m' H' w' := ⟨r, hk, st.free.step s⟩

/-! Frames -/
theorem putArgs_get : ∀ (l : List AV) (i : Nat) (T : FT), i + l.length ≤ 256 → ∀ t : Nat, (putArgs l i T).get t = if i ≤ t ∧ t < i + l.length then (l[t - i]?).getD Ev.und else T.get t
  | [], i, T, _, t => by rw [if_neg (by simp)]; rfl
  | v :: l, i, T, h, t => by
    simp only [List.length_cons] at h
    show (putArgs l (i + 1) (T.put i v)).get t = _
    rw [putArgs_get l (i + 1) (T.put i v) (by omega) t]
    by_cases h1 : i + 1 ≤ t ∧ t < i + 1 + l.length
    · rw [if_pos h1, if_pos (by simp only [List.length_cons]; omega)]
      have : t - i = (t - (i + 1)) + 1 := by omega
      rw [this, List.getElem?_cons_succ]
    · rw [if_neg h1, FT.get_put T i v t (by omega)]
      by_cases h2 : t = i
      · subst h2
        rw [if_pos rfl, if_pos (by simp)]
        simp
      · rw [if_neg h2, if_neg (by simp only [List.length_cons]; omega)]
theorem frK_some {g : FuncId} {nt : Nat} {args : List AV} {k : Fr → Option R} {res : R} (h : frK g nt args k = some res) :
    ∃ f, k f = some res ∧ f.df = [] ∧ f.rd = none ∧ ∀ (m : BM) (us : Array Value), LRel m args us.toList → FrRel m none f { tmps := us ++ Array.replicate (nt - us.size) undef, defers := [] } := by
  unfold frK at h
  split at h
  · rename_i hle
    have hle := Nat.le_of_ble_eq_true hle
    rw [len_eq] at hle
    have hle : args.length + (nt - args.length) ≤ 256 := hle
    refine ⟨_, h, rfl, rfl, fun m us hl => ⟨⟨?_, ?_, fun (t : Nat) => ?_⟩, .nil, rfl⟩⟩
    · rw [len_eq]
      have := hl.length
      simp at this
      show _ = args.length + (nt - args.length)
      simp [this]
    · rw [len_eq]; exact hle
    · show VRel m ((putArgs args 0 FT.und).get t) _
      rw [putArgs_get args 0 FT.und (by omega) t, FT.und_get]
      have hlen := hl.length
      have hlen' : us.size = args.length := by simpa using hlen.symm
      rw [Array.getD_eq_getD_getElem?]
      by_cases ht : t < args.length
      · rw [if_pos ⟨Nat.zero_le _, by omega⟩]
        obtain ⟨u, hu, hr⟩ := hl.get (i := t) (v := args[t]) (by simp [ht])
        rw [Array.getElem?_append_left (by omega), ← Array.getElem?_toList, hu]
        simpa [ht] using hr
      · rw [if_neg (by omega), Array.getElem?_append_right (by omega)]
        have : ((Array.replicate (nt - us.size) undef)[t - us.size]?).getD undef = undef := by
          rw [Array.getElem?_replicate]
          split <;> rfl
        rw [this]
        exact .und m
  · cases h

/-! Leaving -/
theorem resA_run {m : BM} {H : AH} {w : World} (r : Rel m H.get w) {f : Fr} {ts : Array Value} (hf : ∀ t, VRel m (f.get t) (ts.getD t undef)) (G : ResultVar → Sem Value) (g1 : ∀ t, G (.tmp t) = pure (ts.getD t undef))
    (g2 : ∀ a t, G (.cell a t) = do loadVar t (← asAddr (ts.getD a undef))) : ∀ {rs : List ResultVar} {vs : List AV}, resA P H f rs = some vs → ∃ us : List Value, (rs.mapM G).run P w = .ok us w ∧ LRel m vs us
  | [], vs, h => by
    simp only [resA] at h
    injection h with h
    subst h
    exact ⟨[], by simp, .nil⟩
  | x :: rs, vs, h => by
    obtain ⟨v, vs', h1, h2, rfl⟩ := consO_some (by exact h)
    have hx : ∃ u, (G x).run P w = .ok u w ∧ VRel m v u := by
      cases x with
      | tmp t =>
        simp only [res1] at h1
        injection h1 with h1
        subst h1
        exact ⟨_, by rw [g1]; rfl, hf t⟩
      | cell a t =>
        simp only [res1] at h1
        unfold resCell at h1
        split at h1
        · rename_i b o hb
          have hr := hf a
          rw [hb] at hr
          rw [g2]
          generalize ts.getD a undef = u at hr
          cases hr with
          | ptr hb =>
            obtain ⟨z, hz, hzr⟩ := loadVarA_run (P := P) r h1 hb
            exact ⟨z, by simp [asAddr, hz], hzr⟩
        · cases h1
    obtain ⟨u, hu, hr⟩ := hx
    obtain ⟨us, hus, hrs⟩ := resA_run r hf G g1 g2 h2
    refine ⟨u :: us, ?_, .cons hr hrs⟩
    simp only [List.mapM_cons, Sem.run_bind, hu, hus, Result.andThen_ok, Sem.run_pure]
theorem results_run {m : BM} {H : AH} {w : World} (r : Rel m H.get w) {fn : Func} {f : Fr} {ts : Array Value} (hf : ∀ t, VRel m (f.get t) (ts.getD t undef)) {vs : List AV} (h : resA P H f fn.results.toList = some vs) :
    ∃ u, (results fn ts).run P w = .ok u w ∧ VRel m (packA vs) u := by
  unfold results
  generalize hG : (fun x : ResultVar => (_ : Sem Value)) = G
  obtain ⟨us, hus, hrs⟩ := resA_run r hf G (fun t => by rw [← hG]) (fun a t => by rw [← hG]) h
  refine ⟨if h : us.toArray.size = 1 then us.toArray[0] else .tuple us.toArray, ?_, ?_⟩
  · rw [Array.mapM_eq_mapM_toList]
    simp [hus]
  · cases hrs with
    | nil => exact .tup .nil
    | cons h1 t1 =>
      cases t1 with
      | nil => exact h1
      | cons h2 t2 => exact .tup (.cons h1 (.cons h2 t2))

theorem openAt_some {x : Option ABlk} (h : openAt x = true) : x = some (.deferred true) := by
  unfold openAt at h
  split at h
  · rw [h]
  · cases h
/-- The block of a range's deferred calls is shut. -/
theorem shut_run {N : Nat} {m : BM} {H : AH} {w : World} (st : St N m H w) {b : Nat} {cb : CB} (hg : H.get b = some (.deferred true)) (hb : m b = some cb) :
    ∃ w', (Instr.takeDeferred cb.blk).run P w = .ok [] w' ∧ Stp m H w m (H.put b (.deferred false)) w' ∧ St N m (H.put b (.deferred false)) w' := by
  obtain ⟨h1, h2, h3⟩ := st.rel.live b _ cb hg hb
  have hbd := st.rel.dom b cb hb
  obtain ⟨r', s'⟩ := Rel.obj (nx := H.nx) (h' := (H.put b (.deferred false)).get) (x' := .deferred false) (o := .deferred none) st.rel hb hg h1 h2 (fun c e f h => by rw [h3] at h; cases h) (fun j hj => AH.get_put H b _ j hbd.1 hj)
    ⟨h1, h2, turned_same hbd.2⟩
  exact ⟨_, run_takeDeferred h3, s', st.of s' r' (st.ok.put _ (st.ok.lt hbd.1 hg))⟩
theorem leaveK_sound {ih : Ih R} (hi : IhOk P ih) {fn : Func} {f : Fr} {k : AV → AH → Option R} {res : R} : ∀ (df : List ADef) {H : AH}, leaveK P ih fn.results.toList f k df H = some res →
    ∃ v H', k v H' = some res ∧ H.nx ≤ H'.nx ∧ ∀ N m w (ts : Array Value) ds, H'.nx ≤ N → St N m H w → (∀ t, VRel m (f.get t) (ts.getD t undef)) → DRel m df ds → ∀ RR : Ending → World → Prop, (∀ m' u w', Stp m H w m' H' w' → St N m' H' w' → VRel m' v u → RR (.returned u) w') →
      LeavesInM Fence.wide 0 P fn ts RR ds .returning w
  | [], H, h => by
    unfold leaveK at h
    unfold retK at h
    split at h
    · rename_i vs hvs
      refine ⟨packA vs, H, h, Nat.le_refl _, fun N m w ts ds hN st hf hd RR hR => ?_⟩
      cases hd
      obtain ⟨u, hu, hr⟩ := results_run st.rel hf hvs
      exact ⟨u, hu, hR m u w .refl st hr⟩
    · cases h
  | .coll b :: df, H, h => by
    unfold leaveK at h
    dsimp only at h
    split at h
    · rename_i ho
      have ho := openAt_some ho
      obtain ⟨v, H', h1, n1, g⟩ := leaveK_sound hi df h
      refine ⟨v, H', h1, n1, fun N m w ts ds hN st hf hd RR hR => ?_⟩
      cases hd with
      | coll hb hd =>
        obtain ⟨w1, hrun, s1, st1⟩ := shut_run (P := P) st ho hb
        exact ⟨(by intro h; cases h), .inl ⟨_, w1, rfl, hrun, g N m w1 ts _ hN st1 hf hd RR fun m' u w' s st' hv => hR m' u w' (s1.trans s) st' hv⟩⟩
    · cases h
  | .call g cap args :: df, H, h => by
    unfold leaveK at h
    dsimp only at h
    obtain ⟨v0, H1, h1, hq⟩ := hi _ _ _ h
    have hq : H.nx ≤ H1.nx ∧ DCallS P g (app args cap) H H1 := hq
    obtain ⟨v, H', h2, n2, gg⟩ := leaveK_sound hi df h1
    refine ⟨v, H', h2, Nat.le_trans hq.1 n2, fun N m w ts ds hN st hf hd RR hR => ?_⟩
    cases hd with
    | call hc ha hd =>
      rename_i cap' args' ds'
      have hl : LRel m (app args cap) (args' ++ cap').toList := by rw [app_eq, Array.toList_append]; exact ha.append hc
      obtain ⟨hrun, hcall⟩ := hq.2 N m w _ (Nat.le_trans n2 hN) st hl
      refine ⟨(by intro h; cases h), .inr ⟨(by intro h; cases h), .func g, cap', g, args' ++ cap', rfl, ?_, fun _ _ => trivial, ?_⟩⟩
      · exact hrun
      · refine CallsDIn.mono hcall fun e u' w' he => ?_
        obtain ⟨⟨v', rfl⟩, rfl, m', s', st'⟩ := he
        exact gg N m' w' ts _ hN st' (fun t => (hf t).mono s'.ext) (hd.mono s'.ext) RR fun m2 u2 w2 s2 st2 hv2 => hR m2 u2 w2 (s'.trans s2) st2 hv2

/-! Functions -/
/-- The program names no function that the model takes for its own. -/
def Plain (P : Program) : Prop := ∀ (g : Nat) (fn : Func), P.funcs[g]? = some fn → fn.name ≠ "runtime.NumGoroutine"
theorem callFunc_enter (hp : Plain P) {g : FuncId} {fn : Func} {c : Code} (hg : P.funcs[g]? = some fn) (hb : fn.body = some c) (us : Array Value) (w : World) : (callFunc g us).run P w = .ok (.enter g us) w := by
  have h1 := hp g fn hg
  simp [callFunc, hg, h1, hb]
theorem funC_sound {ih : Ih R} (hi : IhOk P ih) (hp : Plain P) {g : FuncId} {fn : Func} {c : Code} {K : CodeK R} (hg : P.funcs[g]? = some fn) (hb : fn.body = some c) (hc : CodeOk P c K.run) {n : Nat} {args : List AV} {H : AH} {k : AV → AH → Option R} {res : R}
    (h : (funC P g fn.ntmps fn.results.toList K).run n ih args H k = some res) : ∃ v H', k v H' = some res ∧ H.nx ≤ H'.nx ∧ CallS P g args H v H' := by
  obtain ⟨K⟩ := K
  have h : frK g fn.ntmps args (fun f => K n ih f H (fun f H => leaveK P ih fn.results.toList f k f.df H) (bodyX P ih fn.results.toList k)) = some res := h
  obtain ⟨f, h1, hdf, hrd, hfr⟩ := frK_some h
  have main : ∀ (x : Ex) (f1 : Fr) (H1 : AH), (x = .normal ∨ x = .ret) → leaveK P ih fn.results.toList f1 k f1.df H1 = some res → CodeS P c f H x f1 H1 → ∃ v H', k v H' = some res ∧ H.nx ≤ H'.nx ∧ CallS P g args H v H' := by
    intro x f1 H1 hx hl hcode
    obtain ⟨v, H', h2, n2, gl⟩ := leaveK_sound (fn := fn) hi f1.df hl
    refine ⟨v, H', h2, Nat.le_trans hcode.1 n2, fun N m w us hN st hla => ⟨.enter g us, w, callFunc_enter hp hg hb us w, ?_⟩⟩
    refine callsIn_of_wp_marks hg hb trivial (hcode.2 N m w _ none (Nat.le_trans n2 hN) st (hfr m us hla) _ fun m1 a1 w1 s1 st1 fr1 => ?_) rfl
    have key := gl N m1 w1 a1.tmps a1.defers hN st1 fr1.ev fr1.df (fun e w' => ∃ u, e = .returned u ∧ Post N m H w v H' u w') fun m2 u w2 s2 st2 hv => ⟨u, rfl, m2, s1.trans s2, st2, hv⟩
    rcases hx with rfl | rfl
    · exact key
    · exact key
  rcases hc n ih hi f H _ _ res h1 with ⟨f1, H1, h2, g2⟩ | ⟨x1, f1, H1, hx, h2, g2⟩
  · exact main .normal f1 H1 (.inl rfl) h2 g2
  · unfold bodyX at h2
    split at h2
    · cases h2
    · rename_i hne
      cases x1 with
      | normal => exact absurd rfl hx
      | exit id => exact absurd rfl (hne id)
      | ret => exact main .ret f1 H1 (.inr rfl) h2 g2
theorem dfunC_sound {ih : Ih R} (hi : IhOk P ih) (hp : Plain P) {g : FuncId} {fn : Func} {c : Code} {K : CodeK R} (hg : P.funcs[g]? = some fn) (hb : fn.body = some c) (hc : CodeOk P c K.run) {n : Nat} {args : List AV} {H : AH} {k : AV → AH → Option R} {res : R}
    (h : (dfunC P g fn.ntmps fn.results.toList K).run n ih args H k = some res) : ∃ v H', k v H' = some res ∧ H.nx ≤ H'.nx ∧ DCallS P g args H H' := by
  obtain ⟨K⟩ := K
  have h : frK g fn.ntmps args (fun f => K n ih f H (fun f H => dbodyX P fn.results.toList k .normal f H) (dbodyX P fn.results.toList k)) = some res := h
  obtain ⟨f, h1, hdf, hrd, hfr⟩ := frK_some h
  have main : ∀ (x : Ex) (f1 : Fr) (H1 : AH), (x = .normal ∨ x = .ret) → dbodyX P fn.results.toList k x f1 H1 = some res → CodeS P c f H x f1 H1 → ∃ v H', k v H' = some res ∧ H.nx ≤ H'.nx ∧ DCallS P g args H H' := by
    intro x f1 H1 hx hl hcode
    unfold dbodyX at hl
    split at hl
    · cases hl
    · split at hl
      · rename_i hd1
        unfold retK at hl
        split at hl
        · rename_i vs hvs
          refine ⟨packA vs, H1, hl, hcode.1, fun N m w us hN st hla => ⟨callFunc_enter hp hg hb us w, ?_⟩⟩
          refine CallsDIn.mono (callsDIn_of_wp (R := fun e w' => (∃ v, e = .returned v) ∧ ∃ m', Stp m H w m' H1 w' ∧ St N m' H1 w') hg hb trivial (hcode.2 N m w _ none hN st (hfr m us hla) _ fun m1 a1 w1 s1 st1 fr1 => ?_) rfl) fun e u' w' he => ⟨he.2.1, he.1, he.2.2⟩
          obtain ⟨u, hu, _⟩ := results_run st1.rel fr1.ev hvs
          have hd : a1.defers = [] := by
            have := fr1.df
            rw [hd1] at this
            generalize a1.defers = ds at this ⊢
            cases this
            rfl
          rcases hx with rfl | rfl
          · exact ⟨hd, u, hu, ⟨u, rfl⟩, m1, s1, st1⟩
          · exact ⟨hd, u, hu, ⟨u, rfl⟩, m1, s1, st1⟩
        · cases hl
      · cases hl
  rcases hc n ih hi f H _ _ res h1 with ⟨f1, H1, h2, g2⟩ | ⟨x1, f1, H1, hx, h2, g2⟩
  · exact main .normal f1 H1 (.inl rfl) h2 g2
  · cases x1 with
    | normal => exact absurd rfl hx
    | exit id => cases h2
    | ret => exact main .ret f1 H1 (.inr rfl) h2 g2
end
end Go.Ev
/- Rounds; a range over a function. -/
namespace Go.Ev
open Go

section
variable {P : Program} {R : Type}
/-- The loop's record in memory. -/
theorem St.loopAt {N : Nat} {m : BM} {H : AH} {w : World} (st : St N m H w) {b : Nat} {cb : CB} {x : ALoop} (hg : H.get b = some (.loop x)) (hb : m b = some cb) : ∃ L, w.heap[cb.blk]? = some (.loop L) ∧ LoopOk m x L := (st.rel.live b _ cb hg hb).2.2
theorem ALoop.set_eq (x : ALoop) (s : LoopState) (p : Option Code) : x.set s p = .loop ⟨s, p, x.fn, x.tm, x.nt, x.params, x.assign, x.body, x.defers⟩ := rfl
/-- The record is turned. -/
theorem St.loopSet {N : Nat} {m : BM} {H : AH} {w : World} (st : St N m H w) {b : Nat} {cb : CB} {x : ALoop} {L : Loop} (hg : H.get b = some (.loop x)) (hb : m b = some cb) (hw : w.heap[cb.blk]? = some (.loop L)) (hl : LoopOk m x L) (s : LoopState) (p : Option Code) :
    Stp m H w m (H.put b (x.set s p)) (w.putObj cb.blk (.loop { L with state := s, pending := p })) ∧ St N m (H.put b (x.set s p)) (w.putObj cb.blk (.loop { L with state := s, pending := p })) := by
  obtain ⟨h1, h2, _⟩ := st.rel.live b _ cb hg hb
  have hbd := st.rel.dom b cb hb
  obtain ⟨e1, e2, e3, e4, e5, e6, e7⟩ := hl
  obtain ⟨r', s'⟩ := Rel.obj (nx := H.nx) (h' := (H.put b (x.set s p)).get) (x' := x.set s p) (o := .loop { L with state := s, pending := p }) st.rel hb hg h1 h2 (fun c e f h => by rw [hw] at h; cases h) (fun j hj => AH.get_put H b _ j hbd.1 hj)
    ⟨h1, h2, _, turned_same hbd.2, rfl, rfl, e3, e4, e5, e6, e7⟩
  exact ⟨s', st.of s' r' (st.ok.put _ (st.ok.lt hbd.1 hg))⟩

theorem putParams_some {m : BM} {nt : Nat} : ∀ {ps : List Tmp} {vs : List AV} {us : List Value} {tm tm' : FT} {ts : Array Value}, putParams nt ps vs tm = some tm' → LRel m vs us → TRel m nt tm ts →
    ps.length = us.length ∧ TRel m nt tm' ((ps.zip us).foldl (fun ts p => ts.setIfInBounds p.1 p.2) ts)
  | [], vs, us, tm, tm', ts, h, hl, ht => by
    cases vs with
    | nil =>
      simp only [putParams] at h
      injection h with h
      subst h
      cases hl
      exact ⟨rfl, ht⟩
    | cons v vs => simp only [putParams] at h; cases h
  | p :: ps, vs, us, tm, tm', ts, h, hl, ht => by
    cases vs with
    | nil => simp only [putParams] at h; cases h
    | cons v vs =>
      simp only [putParams] at h
      cases hl with
      | cons hv hl =>
        split at h
        · rename_i hle
          obtain ⟨h3, h4⟩ := putParams_some h hl (ht.put (Nat.le_of_ble_eq_true hle) hv)
          exact ⟨by simp [h3], h4⟩
        · cases h

theorem round_end {l : Nat} {k : AV → AH → Option R} {x : Ex} {f : Fr} {H : AH} {res : R} (h : roundEnd l k x f H = some res) :
    ∃ v H', k v H' = some res ∧ H.nx = H'.nx ∧ ∀ N m w cb a, St N m H w → m l = some cb → ∃ u w', roundPost P cb.blk (fun e w'' => e = .returned u ∧ w'' = w') (exOf x) a w ∧ Stp m H w m H' w' ∧ St N m H' w' ∧ VRel m v u := by
  unfold roundEnd at h
  split at h
  · unfold roundEnd2 at h
    split at h
    · rename_i y hg
      unfold roundOut at h
      split at h
      · refine ⟨_, _, h, rfl, fun N m w cb a st hb => ?_⟩
        obtain ⟨L, hw, hl⟩ := st.loopAt hg hb
        obtain ⟨s', st'⟩ := st.loopSet hg hb hw hl .ready none
        exact ⟨.bool true, _, ⟨_, _, run_endRound (P := P) none hw, rfl, rfl⟩, s', st', .bool _⟩
      · refine ⟨_, _, h, rfl, fun N m w cb a st hb => ?_⟩
        obtain ⟨L, hw, hl⟩ := st.loopAt hg hb
        obtain ⟨s', st'⟩ := st.loopSet hg hb hw hl .done (some .ret)
        exact ⟨.bool false, _, ⟨_, _, run_endRound (P := P) (some .ret) hw, rfl, rfl⟩, s', st', .bool _⟩
      · rename_i id
        refine ⟨_, _, h, rfl, fun N m w cb a st hb => ?_⟩
        obtain ⟨L, hw, hl⟩ := st.loopAt hg hb
        obtain ⟨s', st'⟩ := st.loopSet hg hb hw hl .done (some (.exit id))
        exact ⟨.bool false, _, ⟨_, _, run_endRound (P := P) (some (.exit id)) hw, rfl, rfl⟩, s', st', .bool _⟩
    · cases h
  · cases h
theorem roundPost_mono {l : Nat} {RR RR' : Ending → World → Prop} (hR : ∀ e w, RR e w → RR' e w) {e : Exit} {a : Act} {w : World} (h : roundPost P l RR e a w) : roundPost P l RR' e a w := by
  cases e <;> first
    | exact h
    | (obtain ⟨v, w', h1, h2⟩ := h; exact ⟨v, w', h1, hR _ _ h2⟩)

/-- A round. -/
theorem roundK_sound {ih : Ih R} (hi : IhOk P ih) (hc : ∀ c, CodeOk P c (cCode (R := R) P c).run) {n l : Nat} {args : List AV} {H : AH} {k : AV → AH → Option R} {res : R} (h : roundK P n ih l args H k (H.get l) = some res) :
    ∃ v H', k v H' = some res ∧ H.nx ≤ H'.nx ∧ RoundS P l args H v H' := by
  unfold roundK at h
  split at h
  · rename_i s0 p0 fn tm nt ps as bd dd hg
    unfold round2 at h
    split at h
    · rename_i tm' htm
      split at h
      rename_i A hA
      split at h
      rename_i B hB
      have hcA := hc as
      rw [hA] at hcA
      have hcB := hc bd
      rw [hB] at hcB
      rcases hcA n ih hi _ H _ _ res h with ⟨f1, H1, h1, g1⟩ | ⟨x1, f1, H1, hx, h1, g1⟩
      · unfold roundGo at h1
        split at h1
        · rename_i y hg1
          split at h1
          · rename_i hst
            have body : ∃ (x2 : Ex) (f2 : Fr) (H2 : AH), roundEnd l k x2 f2 H2 = some res ∧ CodeS P bd f1 (H1.put l (y.set .busy y.pending)) x2 f2 H2 := by
              rcases hcB n ih hi _ _ _ _ res h1 with ⟨f2, H2, h2, g2⟩ | ⟨x2, f2, H2, hx, h2, g2⟩
              · exact ⟨.normal, f2, H2, h2, g2⟩
              · exact ⟨x2, f2, H2, h2, g2⟩
            obtain ⟨x2, f2, H2, h2, g2⟩ := body
            obtain ⟨v, H', h3, n3, g3⟩ := round_end (P := P) h2
            have n2 : H1.nx ≤ H2.nx := g2.1
            refine ⟨v, H', h3, by rw [← n3]; exact Nat.le_trans g1.1 n2, fun N m w us cb hN st hb hla => ?_⟩
            have hN2 : H2.nx ≤ N := by rw [n3]; exact hN
            obtain ⟨L, hw, hl⟩ := st.loopAt hg hb
            obtain ⟨e1, e2, e3, e4, e5, e6, e7⟩ := hl
            obtain ⟨hlen, htm2⟩ := putParams_some htm hla e3
            have hps : L.params = ps := e4
            have hsz : us.size = L.params.size := by rw [hps]; simpa using hlen.symm
            refine ⟨_, w, run_yield (P := P) hw hsz, ?_⟩
            have hfold : (L.params.zip us).foldl (fun tmps (t, a) => tmps.setIfInBounds t a) L.tmps = (ps.toList.zip us.toList).foldl (fun ts p => ts.setIfInBounds p.1 p.2) L.tmps := by
              rw [← Array.foldl_toList, Array.toList_zip, hps]
            show RoundIn Fence.wide 0 P cb.blk L.fn ((L.params.zip us).foldl (fun tmps (t, a) => tmps.setIfInBounds t a) L.tmps) L.assign L.body w _
            rw [hfold]
            have has : L.assign = as := e5
            have hbd : L.body = bd := e6
            rw [has, hbd]
            refine roundIn_of_wpIn trivial ?_
            show as.wpIn (FW (some cb.blk)) 0 P _ _ w
            refine g1.2 N m w _ (some cb.blk) (Nat.le_trans n2 hN2) st ⟨htm2, .nil, cb, hb, rfl⟩ _ fun m1 a1 w1 s1 st1 fr1 => ?_
            have hb1 : m1 l = some cb := s1.ext _ _ hb
            obtain ⟨L1, hw1, hl1⟩ := st1.loopAt hg1 hb1
            obtain ⟨s2, st2⟩ := st1.loopSet hg1 hb1 hw1 hl1 .busy y.pending
            have hready : L1.state = .ready := hl1.1.trans hst
            have hpend : L1.pending = y.pending := hl1.2.1
            have hput : ({ L1 with state := .busy, pending := y.pending } : Loop) = { L1 with state := .busy } := by rw [← hpend]
            rw [hput] at s2 st2
            refine ⟨_, run_beginRound (P := P) hw1 hready, ?_⟩
            show bd.wpIn (FW (some cb.blk)) 0 P _ a1 _
            refine g2.2 N m1 _ a1 (some cb.blk) hN2 st2 fr1 _ fun m3 a3 w3 s3 st3 fr3 => ?_
            obtain ⟨u, w4, hp, s4, st4, hv⟩ := g3 N m3 w3 cb a3 st3 (s3.ext _ _ hb1)
            refine roundPost_mono (fun e w'' he => ?_) hp
            obtain ⟨rfl, rfl⟩ := he
            exact ⟨u, rfl, m3, s1.trans (s2.trans (s3.trans s4)), st4, hv⟩
          · cases h1
        · cases h1
      · cases h1
    · cases h
  · cases h

/-! The statement -/
theorem bodied_some {g : FuncId} (h : bodied P g = true) : ∃ fn c, P.funcs[g]? = some fn ∧ fn.body = some c := by
  unfold bodied at h
  split at h
  · rename_i fn hg
    split at h
    · rename_i c hc
      exact ⟨fn, c, hg, hc⟩
    · cases h
  · cases h
theorem collK_some {f : Fr} {H : AH} {k : Nat → Fr → AH → Option R} {res : R} (h : collK f H k = some res) :
    ∃ d f' H', k d f' H' = some res ∧ f'.tm = f.tm ∧ f'.nt = f.nt ∧ f'.rd = f.rd ∧
      ((∃ l x, f.rd = some l ∧ H.get l = some (.loop x) ∧ d = x.defers ∧ f' = f ∧ H' = H) ∨ (f.rd = none ∧ H.room = true ∧ d = H.nx ∧ f'.df = .coll H.nx :: f.df ∧ H' = H.grown (.deferred true))) := by
  obtain ⟨tm, df, nt, rd, fn⟩ := f
  unfold collK at h
  dsimp only at h
  split at h
  · rename_i l
    unfold collFrom at h
    split at h
    · rename_i x hg
      exact ⟨_, _, _, h, rfl, rfl, rfl, .inl ⟨l, x, rfl, hg, rfl, rfl, rfl⟩⟩
    · cases h
  · split at h
    · rename_i hr
      exact ⟨_, _, _, h, rfl, rfl, rfl, .inr ⟨rfl, hr, rfl, rfl, rfl⟩⟩
    · cases h
/-- A new object that is no row of cells. -/
theorem St.new {N : Nat} {m : BM} {H : AH} {w : World} (st : St N m H w) (hN : H.nx < N) (hr : H.room = true) (x : ABlk) (o : Obj) (hx : ∀ m', Ext m m' → BlkOk m' x ⟨w.heap.size, 0, 0, 1, 0⟩ (w.alloc o)) :
    ∃ m', Stp m H w m' (H.grown x) (w.alloc o) ∧ St N m' (H.grown x) (w.alloc o) ∧ m' H.nx = some ⟨w.heap.size, 0, 0, 1, 0⟩ := by
  have hlt := AH.room_lt hr
  have hid := st.free H.nx (Nat.le_refl _) hN
  obtain ⟨r', s'⟩ := Rel.new (h' := (H.grown x).get) (nx := H.nx) (x := x) (cb := ⟨w.heap.size, 0, 0, 1, 0⟩) (o := o) (d := w.drawn) st.rel hlt rfl hid rfl (fun j hj => AH.get_grown H _ j hlt hj) (hx _ (BM.upd_ext hid))
  exact ⟨_, s', st.of s' r' (st.ok.grown _ hlt), BM.upd_same _ _ _⟩
theorem St.allocAt (w : World) (o : Obj) : (w.alloc o).heap[w.heap.size]? = some o := World.alloc_heap_new w o

theorem rangeC_sound (hp : Plain P) {g : Operand} {ps : Array Tmp} {assign body : Code} : CodeOk P (.rangeFunc g ps assign body) (rangeC (R := R) P ps assign body (cGet g)).run := by
  intro n ih hi f H k e res h
  unfold rangeC at h
  split at h
  · rename_i gg hgg
    have h : rangeK P ih ps assign body f H k e (gg f) = some res := h
    unfold rangeK at h
    split at h
    · rename_i g' first captured hgf
      split at h
      · rename_i hbd
        obtain ⟨fn', c', hfn, hbody⟩ := bodied_some hbd
        obtain ⟨d, f1, H1, h1, etm, ent, erd, hcase⟩ := collK_some h
        unfold loopCall at h1
        split at h1
        · rename_i hroom1
          obtain ⟨v, H2, h2, hq⟩ := hi _ _ _ h1
          have hq : (H1.grown (loopRec f ps assign body d)).nx ≤ H2.nx ∧ CallS P g' (app first (.yield H1.nx :: captured)) (H1.grown (loopRec f ps assign body d)) v H2 := hq
          unfold loopEnd at h2
          split at h2
          · rename_i x hx
            have hnb : x.st ≠ .busy := by
              intro hb
              rw [hb] at h2
              cases h2
            have h2 : jumpK f1 (H2.put H1.nx (x.set .exhausted x.pending)) k e x.pending = some res := by
              cases hs : x.st with
              | busy => exact absurd hs hnb
              | ready => rw [hs] at h2; exact h2
              | done => rw [hs] at h2; exact h2
              | exhausted => rw [hs] at h2; exact h2
            -- the walk, whatever comes behind it
            have n1 : H.nx ≤ H1.nx := by
              rcases hcase with ⟨_, _, _, _, _, _, rfl⟩ | ⟨_, _, _, _, rfl⟩
              · exact Nat.le_refl _
              · exact Nat.le_succ _
            have n2 : H1.nx + 1 ≤ H2.nx := hq.1
            have walk : ∀ N m w a r, H2.nx ≤ N → St N m H w → FrRel m r f a → ∀ Q : Exit → Act → World → Prop,
                (∀ m' a' w', Stp m H w m' (H2.put H1.nx (x.set .exhausted x.pending)) w' → St N m' (H2.put H1.nx (x.set .exhausted x.pending)) w' → FrRel m' r f1 a' →
                  (match x.pending with | none => Q .normal a' w' | some c => c.wpIn (FW r) 0 P Q a' w')) → (Code.rangeFunc g ps assign body).wpIn (FW r) 0 P Q a w := by
              intro N m w a r hN st fr Q hQ
              refine wpIn_rangeFunc fun fn _ => ?_
              have hgr := aev_rel fr.ev (cGet_aev hgg f)
              rw [hgf] at hgr
              generalize hu : a.eval g = u at hgr
              cases hgr with
              | func hf1 hf2 =>
                rename_i first' captured'
                -- the block of deferred calls
                have coll : ∃ (l : Nat) (mark : List Deferred) (w1 : World) (m1 : BM) (cd : CB) (wc : World), (Instr.enterLoop fn a.tmps ps assign body r).run P w = .ok (l, mark) w1 ∧ l = wc.heap.size ∧ m1 d = some cd ∧
                    w1 = wc.alloc (.loop { state := .ready, pending := none, fn := fn, tmps := a.tmps, params := ps, assign := assign, body := body, defers := cd.blk }) ∧ Stp m H w m1 H1 wc ∧ St N m1 H1 wc ∧ FrRel m1 r f1 { a with defers := mark ++ a.defers } := by
                  rcases hcase with ⟨lr, y, hrd, hgl, rfl, rfl, rfl⟩ | ⟨hrd, hroom, rfl, hdf, rfl⟩
                  · have hr := fr.rd
                    rw [hrd] at hr
                    obtain ⟨cb, hcb, rfl⟩ := hr
                    obtain ⟨L, hw, hl⟩ := st.loopAt hgl hcb
                    obtain ⟨_, _, _, _, _, _, cd, hcd, hde⟩ := hl
                    refine ⟨_, _, _, m, cd, w, run_enterLoop_inner (P := P) hw fn a.tmps ps assign body, rfl, hcd, by rw [hde], .refl, st, fr⟩
                  · have hr := fr.rd
                    rw [hrd] at hr
                    have hr : r = none := hr
                    subst hr
                    obtain ⟨m1, s1, st1, hm1⟩ := st.new (by have n2' : H.nx + 1 + 1 ≤ H2.nx := n2; omega) hroom (.deferred true) (.deferred (some [])) fun m' _ => ⟨rfl, rfl, World.alloc_heap_new w _⟩
                    have hrun := run_enterLoop_outer (P := P) (w := w) fn a.tmps ps assign body
                    refine ⟨_, _, _, m1, _, w.alloc (.deferred (some [])), hrun, ?_, hm1, rfl, s1, st1, ?_⟩
                    · simp [World.size_alloc]
                    · have fr1 := fr.mono s1.ext
                      refine ⟨by rw [etm, ent]; exact fr1.tm, ?_, by rw [erd]; exact fr1.rd⟩
                      rw [hdf]
                      exact .coll hm1 fr1.df
                obtain ⟨l, mark, w1, m1, cd, wc, hrun, rfl, hcd, rfl, s1, st1, fr1⟩ := coll
                obtain ⟨m2, s2, st2, hm2⟩ := st1.new (by omega) hroom1 (loopRec f ps assign body d) (.loop { state := .ready, pending := none, fn := fn, tmps := a.tmps, params := ps, assign := assign, body := body, defers := cd.blk }) fun m' e' =>
                  ⟨rfl, rfl, _, World.alloc_heap_new wc _, rfl, rfl, (fr.mono (s1.ext.trans e')).tm, rfl, rfl, rfl, cd, e' _ _ hcd, rfl⟩
                have hla : LRel m2 (app first (.yield H1.nx :: captured)) (first' ++ #[Value.func (.yield wc.heap.size) #[] #[]] ++ captured').toList := by
                  rw [app_eq]
                  have e12 := s1.ext.trans s2.ext
                  have hy : VRel m2 (.yield H1.nx) (.func (.yield wc.heap.size) #[] #[]) := .yield hm2
                  have := (hf1.mono e12).append (.cons hy (hf2.mono e12))
                  simpa using this
                obtain ⟨nx, w2, hcall, hnext⟩ := hq.2 N m2 _ _ hN st2 hla
                rw [callFunc_enter hp hfn hbody] at hcall
                injection hcall with hnx hw2
                subst hnx; subst hw2
                refine ⟨_, _, _, { target := .fn (.func g') captured', args := first' ++ #[Value.func (.yield wc.heap.size) #[] #[]] }, (wc.alloc (.loop { state := .ready, pending := none, fn := fn, tmps := a.tmps, params := ps, assign := assign, body := body, defers := cd.blk })), g', first' ++ #[Value.func (.yield wc.heap.size) #[] #[]] ++ captured', (wc.alloc (.loop { state := .ready, pending := none, fn := fn, tmps := a.tmps, params := ps, assign := assign, body := body, defers := cd.blk })), hrun, ?_, fun _ _ => trivial, ?_, (fun h => by cases h), ?_⟩
                · have hconst : a.eval (.const (.func (.yield wc.heap.size) #[] #[])) = .func (.yield wc.heap.size) #[] #[] := rfl
                  simp [resolve, hu, Deferred.ofValue, hconst]
                · show (callFunc g' _).run P _ = _
                  exact callFunc_enter hp hfn hbody _ _
                · have hnext : CallsIn (FW r) 0 P g' (first' ++ #[Value.func (.yield wc.heap.size) #[] #[]] ++ captured') (wc.alloc (.loop { state := .ready, pending := none, fn := fn, tmps := a.tmps, params := ps, assign := assign, body := body, defers := cd.blk }))
                      fun e w' => ∃ v', e = .returned v' ∧ Post N m2 (H1.grown (loopRec f ps assign body d)) (wc.alloc (.loop { state := .ready, pending := none, fn := fn, tmps := a.tmps, params := ps, assign := assign, body := body, defers := cd.blk })) v H2 v' w' := hnext
                  refine CallsIn.mono hnext fun e' w3 he => ?_
                  obtain ⟨v', rfl, m3, s3, st3, hv3⟩ := he
                  have hm3 : m3 H1.nx = some ⟨wc.heap.size, 0, 0, 1, 0⟩ := s3.ext _ _ hm2
                  obtain ⟨L, hw3, hl3⟩ := st3.loopAt hx hm3
                  obtain ⟨s4, st4⟩ := st3.loopSet hx hm3 hw3 hl3 .exhausted x.pending
                  have hpend : L.pending = x.pending := hl3.2.1
                  have hput : ({ L with state := .exhausted, pending := x.pending } : Loop) = { L with state := .exhausted } := by rw [← hpend]
                  rw [hput] at s4 st4
                  have hnb' : L.state ≠ .busy := by rw [hl3.1]; exact hnb
                  refine ⟨L.pending, _, run_endLoop (P := P) hw3 hnb', ?_⟩
                  have key := hQ m3 { a with defers := mark ++ a.defers } _ (s1.trans (s2.trans (s3.trans s4))) st4 (fr1.mono (s2.ext.trans s3.ext))
                  rw [← hpend] at key
                  exact key
            unfold jumpK at h2
            split at h2
            · rename_i hpd
              refine .inl ⟨f1, _, h2, by show H.nx ≤ H2.nx; omega, fun N m w a r hN st fr Q hQ => walk N m w a r hN st fr Q fun m' a' w' s st' fr' => ?_⟩
              rw [hpd]
              exact hQ m' a' w' s st' fr'
            · rename_i hpd
              refine .inr ⟨.ret, f1, _, (by intro h; cases h), h2, by show H.nx ≤ H2.nx; omega, fun N m w a r hN st fr Q hQ => walk N m w a r hN st fr Q fun m' a' w' s st' fr' => ?_⟩
              rw [hpd]
              exact wpIn_ret (hQ m' a' w' s st' fr')
            · rename_i id hpd
              refine .inr ⟨.exit id, f1, _, (by intro h; cases h), h2, by show H.nx ≤ H2.nx; omega, fun N m w a r hN st fr Q hQ => walk N m w a r hN st fr Q fun m' a' w' s st' fr' => ?_⟩
              rw [hpd]
              exact wpIn_exit (hQ m' a' w' s st' fr')
            · cases h2
          · cases h2
        · cases h1
      · cases h
    · cases h
  · cases h
end
end Go.Ev
/- Operations by kinds: what they look at, what of memory they look at, what they make. -/
namespace Go.Ev
open Go

section
variable {P : Program} {f f2 : Fr} {H : AH}
theorem aevs_congr : ∀ {l : List Operand}, (∀ x ∈ l, aev f x = aev f2 x) → aevs f l = aevs f2 l
  | [], _ => rfl
  | x :: l, h => by
    show consO (aev f x) (aevs f l) = consO (aev f2 x) (aevs f2 l)
    rw [h x (by simp), aevs_congr fun y hy => h y (List.mem_cons_of_mem _ hy)]
theorem pairsA_congr : ∀ {l : List (Nat × Operand)}, (∀ x ∈ l.map (·.2), aev f x = aev f2 x) → pairsA f l = pairsA f2 l
  | [], _ => rfl
  | p :: l, h => by
    show consO (pairO p.1 (aev f p.2)) (pairsA f l) = consO (pairO p.1 (aev f2 p.2)) (pairsA f2 l)
    rw [h p.2 (by simp), pairsA_congr fun y hy => h y (by simp only [List.map_cons]; exact List.mem_cons_of_mem _ hy)]
theorem optA_congr {o : Option Operand} (h : ∀ x ∈ o.toList, aev f x = aev f2 x) : optA f o = optA f2 o := by
  cases o with
  | none => rfl
  | some x => show (aev f x).map some = (aev f2 x).map some; rw [h x (by simp)]
theorem opA_congr {op : Op} (h : ∀ x ∈ op.operands.toList, aev f x = aev f2 x) : opA P f H op = opA P f2 H op := by
  cases op with
  | move x => show vA H (aev f x) = vA H (aev f2 x); rw [h x (by simp [Op.operands])]
  | assign x => show vA H (aev f x) = vA H (aev f2 x); rw [h x (by simp [Op.operands])]
  | pick c a b =>
    show opPick f H a b (aev f c) = opPick f2 H a b (aev f2 c)
    unfold opPick
    rw [h c (by simp [Op.operands]), h a (by simp [Op.operands]), h b (by simp [Op.operands])]
  | alloc t => rfl
  | box t x => show newVarA H (aev f x) = newVarA H (aev f2 x); rw [h x (by simp [Op.operands])]
  | build t ps => show opBuild P H t (pairsA f ps.toList) = opBuild P H t (pairsA f2 ps.toList); rw [pairsA_congr (f := f) (f2 := f2) fun x hx => h x (by simpa [Op.operands] using hx)]
  | buildSlice t n ps => show opBuildSlice P H t n (pairsA f ps.toList) = opBuildSlice P H t n (pairsA f2 ps.toList); rw [pairsA_congr (f := f) (f2 := f2) fun x hx => h x (by simpa [Op.operands] using hx)]
  | load t x => show opLoad P H t (aev f x) = opLoad P H t (aev f2 x); rw [h x (by simp [Op.operands])]
  | store t a x => show opStore P H t (aev f x) (aev f a) = opStore P H t (aev f2 x) (aev f2 a); rw [h x (by simp [Op.operands]), h a (by simp [Op.operands])]
  | nilCheck x => show opNilCheck H (aev f x) = opNilCheck H (aev f2 x); rw [h x (by simp [Op.operands])]
  | binOp op t x y u => show opBin P H op t (aev f x) (aev f y) = opBin P H op t (aev f2 x) (aev f2 y); rw [h x (by simp [Op.operands]), h y (by simp [Op.operands])]
  | unOp op t x => show opUn H op (aev f x) = opUn H op (aev f2 x); rw [h x (by simp [Op.operands])]
  | convert s d x => show opConv P H s d (aev f x) = opConv P H s d (aev f2 x); rw [h x (by simp [Op.operands])]
  | makeFunc fn a c =>
    show opFunc H fn (aevs f a.toList) (aevs f c.toList) = opFunc H fn (aevs f2 a.toList) (aevs f2 c.toList)
    rw [aevs_congr (f := f) (f2 := f2) (l := a.toList) fun x hx => h x (by simp [Op.operands]; exact .inl (by simpa using hx)), aevs_congr (f := f) (f2 := f2) (l := c.toList) fun x hx => h x (by simp [Op.operands]; exact .inr (by simpa using hx))]
  | makeMap t r => show opMakeMap H (optA f r) (P.underlying t) = opMakeMap H (optA f2 r) (P.underlying t); rw [optA_congr (f := f) (f2 := f2) fun x hx => h x (by simpa [Op.operands] using hx)]
  | makeSlice t l c => show opMakeSlice P H t (aev f l) (aev f c) = opMakeSlice P H t (aev f2 l) (aev f2 c); rw [h l (by simp [Op.operands]), h c (by simp [Op.operands])]
  | slice t x lo hi mx =>
    show opSlice P H t (optA f lo) (optA f hi) (optA f mx) (aev f x) = opSlice P H t (optA f2 lo) (optA f2 hi) (optA f2 mx) (aev f2 x)
    rw [h x (by simp [Op.operands]), optA_congr (f := f) (f2 := f2) (o := lo) fun x hx => h x (by simp [Op.operands]; simp at hx; simp [hx]), optA_congr (f := f) (f2 := f2) (o := hi) fun x hx => h x (by simp [Op.operands]; simp at hx; simp [hx]), optA_congr (f := f) (f2 := f2) (o := mx) fun x hx => h x (by simp [Op.operands]; simp at hx; simp [hx])]
  | fieldAddr t x i => show opFieldAddr P H t i (aev f x) = opFieldAddr P H t i (aev f2 x); rw [h x (by simp [Op.operands])]
  | field t x i => show opField P H t i (aev f x) = opField P H t i (aev f2 x); rw [h x (by simp [Op.operands])]
  | indexAddr t x i => show opIndexAddr P H t (aev f x) (aev f i) = opIndexAddr P H t (aev f2 x) (aev f2 i); rw [h x (by simp [Op.operands]), h i (by simp [Op.operands])]
  | index t x i => show opIndex P H t (aev f x) (aev f i) = opIndex P H t (aev f2 x) (aev f2 i); rw [h x (by simp [Op.operands]), h i (by simp [Op.operands])]
  | lookup t x k ok => show opLookup P H t ok (aev f x) (aev f k) = opLookup P H t ok (aev f2 x) (aev f2 k); rw [h x (by simp [Op.operands]), h k (by simp [Op.operands])]
  | mapUpdate t m k x => show opUpdate P H t (aev f x) (aev f m) (aev f k) = opUpdate P H t (aev f2 x) (aev f2 m) (aev f2 k); rw [h x (by simp [Op.operands]), h m (by simp [Op.operands]), h k (by simp [Op.operands])]
  | extract x i => show opExtract H i (aev f x) = opExtract H i (aev f2 x); rw [h x (by simp [Op.operands])]
  | call c =>
    show opCall P f H c (aevs f c.args.toList) = opCall P f2 H c (aevs f2 c.args.toList)
    have ha : aevs f c.args.toList = aevs f2 c.args.toList := aevs_congr fun x hx => h x (by
      simp only [Op.operands, Call.operands]
      cases c.callee <;> simp <;> simp at hx <;> simp [hx])
    rw [ha]
    unfold opCall
    split
    · unfold opCallee
      split
      · rfl
      · rename_i g hc
        rw [h g (by simp [Op.operands, Call.operands, hc])]
      · rfl
    · rfl
  | defer c =>
    show opDefer f c.callee (aevs f c.args.toList) = opDefer f2 c.callee (aevs f2 c.args.toList)
    have ha : aevs f c.args.toList = aevs f2 c.args.toList := aevs_congr fun x hx => h x (by
      simp only [Op.operands, Call.operands]
      cases c.callee <;> simp <;> simp at hx <;> simp [hx])
    rw [ha]
    unfold opDefer
    split
    · split
      · rename_i g hc
        rw [h g (by simp [Op.operands, Call.operands, hc])]
      · rfl
    · rfl
  | _ => rfl

/-! Kinds -/
theorem vA_none (H : AH) : vA H none = none := rfl
/-- Nothing of memory is looked at. -/
theorem kind_pure {op : Op} (hk : kindOf P op = .pure) : ∃ y : Option AV, ∀ H, opA P f H op = vA H y := by
  cases op with
  | move x => exact ⟨aev f x, fun _ => rfl⟩
  | assign x => exact ⟨aev f x, fun _ => rfl⟩
  | pick c a b =>
    cases hc : aev f c with
    | none => exact ⟨none, fun H => by show opPick f H a b (aev f c) = _; rw [hc]; rfl⟩
    | some v =>
      cases v with
      | bool t => cases t with
        | true => exact ⟨aev f a, fun H => by show opPick f H a b (aev f c) = _; rw [hc]; rfl⟩
        | false => exact ⟨aev f b, fun H => by show opPick f H a b (aev f c) = _; rw [hc]; rfl⟩
      | _ => exact ⟨none, fun H => by show opPick f H a b (aev f c) = _; rw [hc]; rfl⟩
  | build t ps =>
    cases hp : pairsA f ps.toList with
    | none => exact ⟨none, fun H => by show opBuild P H t (pairsA f ps.toList) = _; rw [hp]; rfl⟩
    | some l => exact ⟨buildA P t l, fun H => by show opBuild P H t (pairsA f ps.toList) = _; rw [hp]; rfl⟩
  | nilCheck x =>
    cases hx : aev f x with
    | none => exact ⟨none, fun H => by show opNilCheck H (aev f x) = _; rw [hx]; rfl⟩
    | some v =>
      cases v with
      | ptr b o => exact ⟨some (.ptr b o), fun H => by show opNilCheck H (aev f x) = _; rw [hx]; rfl⟩
      | func g a c => exact ⟨some (.func g a c), fun H => by show opNilCheck H (aev f x) = _; rw [hx]; rfl⟩
      | yield l => exact ⟨some (.yield l), fun H => by show opNilCheck H (aev f x) = _; rw [hx]; rfl⟩
      | _ => exact ⟨none, fun H => by show opNilCheck H (aev f x) = _; rw [hx]; rfl⟩
  | binOp op t x y u =>
    cases hx : aev f x with
    | none => exact ⟨none, fun H => by show opBin P H op t (aev f x) (aev f y) = _; rw [hx]; rfl⟩
    | some v => cases hy : aev f y with
      | none => exact ⟨none, fun H => by show opBin P H op t (aev f x) (aev f y) = _; rw [hx, hy]; rfl⟩
      | some v' => exact ⟨binA P op t v v', fun H => by show opBin P H op t (aev f x) (aev f y) = _; rw [hx, hy]; rfl⟩
  | unOp op t x =>
    cases hx : aev f x with
    | none => exact ⟨none, fun H => by show opUn H op (aev f x) = _; rw [hx]; rfl⟩
    | some v => exact ⟨unA op v, fun H => by show opUn H op (aev f x) = _; rw [hx]; rfl⟩
  | convert s d x =>
    cases hx : aev f x with
    | none => exact ⟨none, fun H => by show opConv P H s d (aev f x) = _; rw [hx]; rfl⟩
    | some v =>
      have hk : kindConv (P.underlying s) (P.underlying d) = .pure := hk
      have e : ∀ H, opA P f H (.convert s d x) = convA P s d v H := fun H => by show opConv P H s d (aev f x) = _; rw [hx]; rfl
      cases hs : P.underlying s with
      | none => exact ⟨none, fun H => by rw [e]; simp [convA, hs, vA]⟩
      | some sd =>
        have e2 : ∀ H, opA P f H (.convert s d x) = convTo P s v H (P.underlying d) := fun H => by rw [e]; simp [convA, hs]
        cases hd : P.underlying d with
        | none => exact ⟨none, fun H => by rw [e2, hd]; rfl⟩
        | some dd =>
          cases dd with
          | int k =>
            cases v with
            | int j n => exact ⟨some (.int k (wr k n)), fun H => by rw [e2, hd]; rfl⟩
            | _ => exact ⟨none, fun H => by rw [e2, hd]; rfl⟩
          | string =>
            cases v with
            | str q => exact ⟨some (.str q), fun H => by rw [e2, hd]; rfl⟩
            | _ =>
              have hns : isU8 ((isSl (P.underlying s)).bind P.underlying) = false := by
                rw [hs]
                rw [hs, hd] at hk
                cases sd <;> first | rfl | (simp [kindConv] at hk)
              exact ⟨none, fun H => by rw [e2, hd]; simp only [convTo, hns]; rfl⟩
          | slice el =>
            have hstr : isStr (P.underlying s) = false := by
              rw [hs]
              rw [hs, hd] at hk
              cases sd <;> first | rfl | (simp [kindConv] at hk)
            cases v with
            | str q => exact ⟨none, fun H => by rw [e2, hd]; simp only [convTo, hstr]; rfl⟩
            | _ => exact ⟨none, fun H => by rw [e2, hd]; rfl⟩
          | _ => exact ⟨none, fun H => by rw [e2, hd]; rfl⟩
  | makeFunc fn a c =>
    cases fn with
    | func g =>
      cases ha : aevs f a.toList with
      | none => exact ⟨none, fun H => by show opFunc H (.func g) (aevs f a.toList) (aevs f c.toList) = _; rw [ha]; rfl⟩
      | some l => cases hc : aevs f c.toList with
        | none => exact ⟨none, fun H => by show opFunc H (.func g) (aevs f a.toList) (aevs f c.toList) = _; rw [ha, hc]; rfl⟩
        | some r => exact ⟨some (.func g l r), fun H => by show opFunc H (.func g) (aevs f a.toList) (aevs f c.toList) = _; rw [ha, hc]; rfl⟩
    | _ => exact ⟨none, fun H => rfl⟩
  | fieldAddr t x i =>
    cases hx : aev f x with
    | none => exact ⟨none, fun H => by show opFieldAddr P H t i (aev f x) = _; rw [hx]; rfl⟩
    | some v => exact ⟨_, fun H => by show opFieldAddr P H t i (aev f x) = _; rw [hx]; rfl⟩
  | field t x i =>
    cases hx : aev f x with
    | none => exact ⟨none, fun H => by show opField P H t i (aev f x) = _; rw [hx]; rfl⟩
    | some v => exact ⟨_, fun H => by show opField P H t i (aev f x) = _; rw [hx]; rfl⟩
  | indexAddr t x i =>
    cases hx : aev f x with
    | none => exact ⟨none, fun H => by show opIndexAddr P H t (aev f x) (aev f i) = _; rw [hx]; rfl⟩
    | some v => cases hi : aev f i with
      | none => exact ⟨none, fun H => by show opIndexAddr P H t (aev f x) (aev f i) = _; rw [hx, hi]; rfl⟩
      | some v' => exact ⟨_, fun H => by show opIndexAddr P H t (aev f x) (aev f i) = _; rw [hx, hi]; rfl⟩
  | index t x i =>
    cases hx : aev f x with
    | none => exact ⟨none, fun H => by show opIndex P H t (aev f x) (aev f i) = _; rw [hx]; rfl⟩
    | some v => cases hi : aev f i with
      | none => exact ⟨none, fun H => by show opIndex P H t (aev f x) (aev f i) = _; rw [hx, hi]; rfl⟩
      | some v' => exact ⟨_, fun H => by show opIndex P H t (aev f x) (aev f i) = _; rw [hx, hi]; rfl⟩
  | extract x i =>
    cases hx : aev f x with
    | none => exact ⟨none, fun H => by show opExtract H i (aev f x) = _; rw [hx]; rfl⟩
    | some v =>
      cases v with
      | tup vs => exact ⟨nth vs i, fun H => by show opExtract H i (aev f x) = _; rw [hx]; rfl⟩
      | _ => exact ⟨none, fun H => by show opExtract H i (aev f x) = _; rw [hx]; rfl⟩
  | call c =>
    have hk : kindC c.callee = .pure := hk
    cases hc : c.callee with
    | value g => rw [hc] at hk; cases hk
    | invoke x n => rw [hc] at hk; cases hk
    | builtin b =>
      rw [hc] at hk
      cases ha : aevs f c.args.toList with
      | none => exact ⟨none, fun H => by show opCall P f H c (aevs f c.args.toList) = _; rw [ha]; rfl⟩
      | some as =>
        have e : ∀ H, opA P f H (.call c) = builtinA P b c.argTypes.toList as H := fun H => by
          show opCall P f H c (aevs f c.args.toList) = _
          rw [ha]
          simp only [opCall, opCallee, hc]
        cases b <;> first | (cases hk; done) | skip
        · cases as with
          | nil => exact ⟨none, fun H => by rw [e]; rfl⟩
          | cons a l => exact ⟨_, fun H => by rw [e]; rfl⟩
        · cases as with
          | nil => exact ⟨none, fun H => by rw [e]; rfl⟩
          | cons a l => exact ⟨_, fun H => by rw [e]; rfl⟩
  | _ => first | (cases hk; done) | exact ⟨none, fun H => rfl⟩
/-- Memory is looked at, nothing of it is turned. -/
theorem kind_read {op : Op} (hk : kindOf P op = .read) (H : AH) : ∃ y : Option AV, opA P f H op = vA H y := by
  cases op with
  | load t x =>
    cases hx : aev f x with
    | none => exact ⟨none, by show opLoad P H t (aev f x) = _; rw [hx]; rfl⟩
    | some v =>
      cases v with
      | ptr b o => exact ⟨_, by show opLoad P H t (aev f x) = _; rw [hx]; rfl⟩
      | _ => exact ⟨none, by show opLoad P H t (aev f x) = _; rw [hx]; rfl⟩
  | lookup t x k ok =>
    cases hx : aev f x with
    | none => exact ⟨none, by show opLookup P H t ok (aev f x) (aev f k) = _; rw [hx]; rfl⟩
    | some v => cases hi : aev f k with
      | none => exact ⟨none, by show opLookup P H t ok (aev f x) (aev f k) = _; rw [hx, hi]; rfl⟩
      | some v' => exact ⟨_, by show opLookup P H t ok (aev f x) (aev f k) = _; rw [hx, hi]; rfl⟩
  | slice t x lo hi mx =>
    show ∃ y, opSlice P H t (optA f lo) (optA f hi) (optA f mx) (aev f x) = vA H y
    cases hx : aev f x with
    | none => exact ⟨none, rfl⟩
    | some v => cases h1 : optA f lo with
      | none => exact ⟨none, rfl⟩
      | some l => cases h2 : optA f hi with
        | none => exact ⟨none, rfl⟩
        | some h => cases h3 : optA f mx with
          | none => exact ⟨none, rfl⟩
          | some m => exact ⟨_, rfl⟩
  | convert s d x =>
    show ∃ y, opConv P H s d (aev f x) = vA H y
    have hk : kindConv (P.underlying s) (P.underlying d) = .read := hk
    cases hx : aev f x with
    | none => exact ⟨none, rfl⟩
    | some v =>
      show ∃ y, convA P s d v H = vA H y
      have hsl : ∃ e, P.underlying s = some (.slice e) := by
        unfold kindConv at hk
        split at hk
        · exact ⟨_, by assumption⟩
        · cases hk
        · cases hk
      obtain ⟨e, hs⟩ := hsl
      have e2 : convA P s d v H = convTo P s v H (P.underlying d) := by simp [convA, hs]
      rw [e2]
      cases hd : P.underlying d with
      | none => exact ⟨none, rfl⟩
      | some dd =>
        cases dd with
        | int k =>
          cases v with
          | int j n => exact ⟨some (.int k (wr k n)), rfl⟩
          | _ => exact ⟨none, rfl⟩
        | string =>
          unfold convTo
          dsimp only
          split
          · exact ⟨some _, rfl⟩
          · split
            · exact ⟨_, rfl⟩
            · exact ⟨none, rfl⟩
        | slice el =>
          have hstr : isStr (P.underlying s) = false := by rw [hs]; rfl
          cases v with
          | str q => exact ⟨none, by simp only [convTo, hstr]; rfl⟩
          | _ => exact ⟨none, rfl⟩
        | _ => exact ⟨none, rfl⟩
  | call c =>
    have hk : kindC c.callee = .read := hk
    cases hc : c.callee with
    | value g => rw [hc] at hk; cases hk
    | invoke x n => rw [hc] at hk; cases hk
    | builtin b =>
      rw [hc] at hk
      cases ha : aevs f c.args.toList with
      | none => exact ⟨none, by show opCall P f H c (aevs f c.args.toList) = _; rw [ha]; rfl⟩
      | some as =>
        have e : opA P f H (.call c) = builtinA P b c.argTypes.toList as H := by
          show opCall P f H c (aevs f c.args.toList) = _
          rw [ha]
          simp only [opCall, opCallee, hc]
        rw [e]
        cases b <;> first | (cases hk; done) | skip
        show ∃ y, builtinR P .len c.argTypes.toList as H = vA H y
        unfold builtinR
        repeat' split
        all_goals first | exact ⟨none, rfl⟩ | exact ⟨_, rfl⟩
  | _ => cases hk
/-- A block is made, whatever memory holds. -/
theorem kind_new {op : Op} (hk : kindOf P op = .new) : (∀ H, opA P f H op = none) ∨ ∃ (b : ABlk) (k : Nat → AV), ∀ H, opA P f H op = newA H b k := by
  cases op with
  | alloc t =>
    cases hz : zeroT P t with
    | none => exact .inl fun H => by show newVarA H (zeroT P t) = _; rw [hz]; rfl
    | some z => exact .inr ⟨.cells false 0 z.cells, fun b => .ptr b 0, fun H => by show newVarA H (zeroT P t) = _; rw [hz]; rfl⟩
  | box t x =>
    cases hz : aev f x with
    | none => exact .inl fun H => by show newVarA H (aev f x) = _; rw [hz]; rfl
    | some z => exact .inr ⟨.cells false 0 z.cells, fun b => .ptr b 0, fun H => by show newVarA H (aev f x) = _; rw [hz]; rfl⟩
  | buildSlice t n ps =>
    cases hp : pairsA f ps.toList with
    | none => exact .inl fun H => by show opBuildSlice P H t n (pairsA f ps.toList) = _; rw [hp]; rfl
    | some l => cases hb : buildSliceA P t n l with
      | none => exact .inl fun H => by show opBuildSlice P H t n (pairsA f ps.toList) = _; rw [hp]; show newSl H n (buildSliceA P t n l) = _; rw [hb]; rfl
      | some x => exact .inr ⟨x, fun b => .slice b 0 n n, fun H => by show opBuildSlice P H t n (pairsA f ps.toList) = _; rw [hp]; show newSl H n (buildSliceA P t n l) = _; rw [hb]; rfl⟩
  | makeSlice t l c =>
    show (∀ H, opMakeSlice P H t (aev f l) (aev f c) = none) ∨ ∃ b k, ∀ H, opMakeSlice P H t (aev f l) (aev f c) = newA H b k
    cases hl : aev f l with
    | none => exact .inl fun H => rfl
    | some lv => cases hc : aev f c with
      | none => exact .inl fun H => rfl
      | some cv =>
        show (∀ H, makeSliceA P t lv cv H = none) ∨ ∃ b k, ∀ H, makeSliceA P t lv cv H = newA H b k
        unfold makeSliceA
        cases isSl (P.underlying t) with
        | none => exact .inl fun H => rfl
        | some elem =>
          dsimp only
          unfold makeSl1
          cases natOf lv with
          | none => exact .inl fun H => rfl
          | some ln => cases natOf cv with
            | none => exact .inl fun H => rfl
            | some cn =>
              dsimp only
              unfold makeSl
              cases sizeT P elem with
              | none => exact .inl fun H => rfl
              | some s => cases bytesT P elem with
                | none => exact .inl fun H => rfl
                | some by_ => cases zeroT P elem with
                  | none => exact .inl fun H => rfl
                  | some z =>
                    dsimp only
                    split
                    · exact .inr ⟨_, _, fun H => rfl⟩
                    · exact .inl fun H => rfl
  | makeMap t r =>
    show (∀ H, opMakeMap H (optA f r) (P.underlying t) = none) ∨ ∃ b k, ∀ H, opMakeMap H (optA f r) (P.underlying t) = newA H b k
    unfold opMakeMap
    split
    · split
      · exact .inr ⟨_, _, fun H => rfl⟩
      · exact .inl fun H => rfl
    · exact .inl fun H => rfl
  | convert s d x =>
    show (∀ H, opConv P H s d (aev f x) = none) ∨ ∃ b k, ∀ H, opConv P H s d (aev f x) = newA H b k
    have hk : kindConv (P.underlying s) (P.underlying d) = .new := hk
    have hsd : P.underlying s = some .string ∧ ∃ e, P.underlying d = some (.slice e) := by
      unfold kindConv at hk
      split at hk
      · cases hk
      · exact ⟨by assumption, _, by assumption⟩
      · cases hk
    obtain ⟨hs, e, hd⟩ := hsd
    cases hx : aev f x with
    | none => exact .inl fun H => rfl
    | some v =>
      have e2 : ∀ H, opConv P H s d (some v) = convTo P s v H (some (.slice e)) := fun H => by simp [opConv, convA, hs, hd]
      cases v with
      | str q =>
        by_cases hc : and (isStr (P.underlying s)) (and (isU8 (P.underlying e)) (is1 (sizeT P e))) = true
        · exact .inr ⟨_, _, fun H => by rw [e2]; simp only [convTo, hc]; rfl⟩
        · have hc' : and (isStr (P.underlying s)) (and (isU8 (P.underlying e)) (is1 (sizeT P e))) = false := by simpa using hc
          exact .inl fun H => by rw [e2]; simp only [convTo, hc']
      | _ => exact .inl fun H => by rw [e2]; rfl
  | call c =>
    have hk : kindC c.callee = .new := hk
    cases hc : c.callee with
    | value g => rw [hc] at hk; cases hk
    | invoke x n => rw [hc] at hk; cases hk
    | builtin b => rw [hc] at hk; cases b <;> cases hk
  | _ => cases hk
end
end Go.Ev
/- A step that knows a part of memory, within the whole. -/
namespace Go.Ev
open Go

/-- A step made under a part hs of what is known, taken into the whole. -/
theorem Rel.merge {m m' : BM} {hh hs hs' hh' : HF} {w w' : World} {nx nx' NA NB : Nat} (r : Rel m hh w) (hsub : ∀ b x, hs b = some x → m b ≠ none → hh b = some x) (s : Step m hs nx w m' hs' nx' w') (r' : Rel m' hs' w')
    (hnew : ∀ b x, hh' b = some x → m' b ≠ none → hs' b = some x ∨ (m b ≠ none ∧ hs b = none ∧ hh b = some x)) (hids : ∀ b, m b = none → m' b ≠ none → NA ≤ b ∧ b < NB) (hAB : NA ≤ NB) : Rel m' hh' w' ∧ Step m hh NA w m' hh' NB w' := by
  have some_ne : ∀ {α : Type} {o : Option α} {x : α}, o = some x → o ≠ none := fun h1 h2 => by rw [h1] at h2; cases h2
  -- a block that is not of the part shares no cell with the part
  have far : ∀ b x cb, hs b = none → hh b = some x → m b = some cb → ∀ i, cb.base ≤ i → i < cb.base + cb.room → ¬ Owned m hs cb.blk i := by
    intro b x cb h1 h2 h3 i h4 h5 ho
    obtain ⟨b1, x1, cb1, g1, g2, g3, g4, g5⟩ := ho
    have hne : b1 ≠ b := fun e => by rw [e, h1] at g1; cases g1
    exact r.apart b1 b x1 x cb1 cb hne (hsub b1 x1 g1 (some_ne g2)) h2 g2 h3 g3 i ⟨g4, g5, h4, h5⟩
  have same : ∀ b cb, m b ≠ none → m' b = some cb → m b = some cb := by
    intro b cb h1 h2
    cases hb : m b with
    | none => exact absurd hb h1
    | some cb' =>
      have := s.ext b cb' hb
      rw [h2] at this
      exact this.symm
  refine ⟨⟨r'.dom, fun b x cb h1 h2 => ?_, fun b b' x x' cb cb' h0 h1 h2 h3 h4 h5 i hi => ?_⟩, ⟨s.ext, fun b h1 h2 => ?_, hAB, s.size, s.tape, s.os, s.output, fun B c e f h1 => ?_, fun B o h1 h2 h3 => ?_, fun B i ho => ?_⟩⟩
  · rcases hnew b x h1 (some_ne h2) with h3 | ⟨h3, h4, h5⟩
    · exact r'.live b x cb h3 h2
    · have hb := same b cb h3 h2
      have hk := r.live b x cb h5 hb
      cases x with
      | cells sl sz l =>
        obtain ⟨k1, k2, k3, k4, c, e, lo, hi, k5, k6, k7, k8⟩ := hk
        obtain ⟨c', q1, q2, q3⟩ := s.cells cb.blk c e (lo, hi) k5
        refine ⟨k1, k2, k3, k4, c', e, lo, hi, q1, by rw [q2]; exact k6, k7, fun i v hv => ?_⟩
        obtain ⟨u, hu, hr⟩ := k8 i v hv
        have hi : i < l.length := by
          rcases Nat.lt_or_ge i l.length with h6 | h6
          · exact h6
          · rw [List.getElem?_eq_none h6] at hv; cases hv
        exact ⟨u, by rw [q3 _ (far b _ cb h4 h5 hb _ (by omega) (by omega))]; exact hu, hr.mono s.ext⟩
      | loop y =>
        have hk0 := hk
        obtain ⟨k1, k2, L, k3, _⟩ := hk
        exact hk0.of_heap s.ext ((s.objs cb.blk _ k3 (fun c e f h => by cases h) (far b _ cb h4 h5 hb 0 (by omega) (by omega))).trans k3.symm)
      | deferred y =>
        have hk0 := hk
        obtain ⟨k1, k2, k3⟩ := hk
        exact hk0.of_heap s.ext ((s.objs cb.blk _ k3 (fun c e f h => by cases h) (far b _ cb h4 h5 hb 0 (by omega) (by omega))).trans k3.symm)
      | map y =>
        have hk0 := hk
        obtain ⟨k1, k2, ces, k, k3, _⟩ := hk
        exact hk0.of_heap s.ext ((s.objs cb.blk _ k3 (fun c e f h => by cases h) (far b _ cb h4 h5 hb 0 (by omega) (by omega))).trans k3.symm)
  · have mix : ∀ b b' x x' cb cb', hs' b = some x → m' b = some cb → (m b' ≠ none ∧ hs b' = none ∧ hh b' = some x') → m' b' = some cb' → cb.blk = cb'.blk → ∀ i, ¬ (cb.base ≤ i ∧ i < cb.base + cb.room ∧ cb'.base ≤ i ∧ i < cb'.base + cb'.room) := by
      intro b b' x x' cb cb' g1 g2 ⟨g3, g4, g5⟩ g6 g7 i ⟨i1, i2, i3, i4⟩
      have hb' := same b' cb' g3 g6
      rcases s.grow cb.blk i ⟨b, x, cb, g1, g2, rfl, i1, i2⟩ with ho | ho
      · rw [g7] at ho
        exact far b' x' cb' g4 g5 hb' i i3 i4 ho
      · have := (r.dom b' cb' hb').2
        omega
    rcases hnew b x h1 (some_ne h3) with g | g
    · rcases hnew b' x' h2 (some_ne h4) with g' | g'
      · exact r'.apart b b' x x' cb cb' h0 g g' h3 h4 h5 i hi
      · exact mix b b' x x' cb cb' g h3 g' h4 h5 i hi
    · rcases hnew b' x' h2 (some_ne h4) with g' | g'
      · exact mix b' b x' x cb' cb g' h4 g h3 h5.symm i ⟨hi.2.2.1, hi.2.2.2, hi.1, hi.2.1⟩
      · exact r.apart b b' x x' cb cb' h0 g.2.2 g'.2.2 (same b cb g.1 h3) (same b' cb' g'.1 h4) h5 i hi
  · exact hids b h1 h2
  · obtain ⟨c', q1, q2, q3⟩ := s.cells B c e f h1
    refine ⟨c', q1, q2, fun i hi => q3 i fun ho => hi ?_⟩
    obtain ⟨b1, x1, cb1, g1, g2, g3⟩ := ho
    exact ⟨b1, x1, cb1, hsub b1 x1 g1 (some_ne g2), g2, g3⟩
  · refine s.objs B o h1 h2 fun ho => h3 ?_
    obtain ⟨b1, x1, cb1, g1, g2, g3⟩ := ho
    exact ⟨b1, x1, cb1, hsub b1 x1 g1 (some_ne g2), g2, g3⟩
  · obtain ⟨b, x, cb, g1, g2, g3⟩ := ho
    rcases hnew b x g1 (some_ne g2) with g | g
    · rcases s.grow B i ⟨b, x, cb, g, g2, g3⟩ with ho | ho
      · obtain ⟨b1, x1, cb1, q1, q2, q3⟩ := ho
        exact .inl ⟨b1, x1, cb1, hsub b1 x1 q1 (some_ne q2), q2, q3⟩
      · exact .inr ho
    · exact .inl ⟨b, x, cb, g.2.2, same b cb g.1 g2, g3⟩

/-! The order in which operations may come up -/
theorem before_fold {g : Array Nat → Oper → Nat} : ∀ (l : List Oper) (acc : Array Nat), (l.foldl (fun acc o => acc.push (g acc o)) acc).size = acc.size + l.length ∧
    (∀ i, i < acc.size → (l.foldl (fun acc o => acc.push (g acc o)) acc)[i]? = acc[i]?) ∧
    ∀ i o, l[i]? = some o → ∃ acc' : Array Nat, acc'.size = acc.size + i ∧ (∀ k, k < acc.size + i → acc'[k]? = (l.foldl (fun acc o => acc.push (g acc o)) acc)[k]?) ∧ (l.foldl (fun acc o => acc.push (g acc o)) acc)[acc.size + i]? = some (g acc' o)
  | [], acc => ⟨rfl, fun _ _ => rfl, fun i o h => by simp at h⟩
  | o :: l, acc => by
    obtain ⟨h1, h2, h3⟩ := before_fold (g := g) l (acc.push (g acc o))
    simp only [Array.size_push] at h1 h2 h3
    refine ⟨by simp only [List.foldl_cons, List.length_cons]; omega, fun i hi => ?_, fun i o' ho' => ?_⟩
    · simp only [List.foldl_cons]
      rw [h2 i (by omega), Array.getElem?_push, if_neg (by omega)]
    · simp only [List.foldl_cons]
      cases i with
      | zero =>
        simp at ho'
        subst ho'
        refine ⟨acc, rfl, fun k hk => ?_, ?_⟩
        · rw [h2 k (by omega), Array.getElem?_push, if_neg (by omega)]
        · rw [h2 _ (by omega)]
          simp
      | succ i =>
        obtain ⟨acc', q1, q2, q3⟩ := h3 i o' (by simpa using ho')
        refine ⟨acc', by omega, fun k hk => q2 k (by omega), ?_⟩
        rw [show acc.size + (i + 1) = acc.size + 1 + i from by omega]
        exact q3
theorem testBit_edges {P : Edge → Bool} {acc : Array Nat} {k : Nat} : ∀ (l : List Edge) (s : Nat), (l.foldl (fun s e => if P e then s ||| 2 ^ e.on ||| acc.getD e.on 0 else s) s).testBit k = true →
    s.testBit k = true ∨ ∃ e ∈ l, P e = true ∧ (e.on = k ∨ (acc.getD e.on 0).testBit k = true)
  | [], s, h => .inl h
  | e :: l, s, h => by
    simp only [List.foldl_cons] at h
    rcases testBit_edges l _ h with h1 | ⟨e', h1, h2⟩
    · by_cases hp : P e = true
      · rw [if_pos hp] at h1
        simp only [Nat.testBit_or, Bool.or_eq_true] at h1
        rcases h1 with (h1 | h1) | h1
        · exact .inl h1
        · exact .inr ⟨e, by simp, hp, .inl (by rw [Nat.testBit_two_pow] at h1; simpa using h1)⟩
        · exact .inr ⟨e, by simp, hp, .inr h1⟩
      · rw [if_neg hp] at h1
        exact .inl h1
    · exact .inr ⟨e', List.mem_cons_of_mem _ h1, h2⟩
/-- What must come before an operation. -/
theorem before_bit {ops : Array Oper} {i k : Nat} (h : ((Region.before ops).getD i 0).testBit k = true) :
    ∃ o, ops[i]? = some o ∧ ∃ e ∈ o.after.toList, Region.binds .any e = true ∧ (e.on = k ∨ (e.on < i ∧ ((Region.before ops).getD e.on 0).testBit k = true)) := by
  have hB : Region.before ops = ops.toList.foldl (fun acc o => acc.push (o.after.foldl (fun s e => if Region.binds .any e then s ||| 2 ^ e.on ||| acc.getD e.on 0 else s) 0)) #[] := by
    unfold Region.before
    rw [Array.foldl_toList]
  obtain ⟨h1, _, h3⟩ := before_fold (g := fun acc o => o.after.foldl (fun s e => if Region.binds .any e then s ||| 2 ^ e.on ||| acc.getD e.on 0 else s) 0) ops.toList #[]
  rw [← hB] at h1 h3
  cases ho : ops[i]? with
  | none =>
    exfalso
    have hlen : (Region.before ops).size ≤ i := by
      rw [h1]
      have := Array.getElem?_eq_none_iff.1 ho
      simpa using this
    rw [Array.getD_eq_getD_getElem?, Array.getElem?_eq_none hlen] at h
    simp at h
  | some o =>
    obtain ⟨acc', q1, q2, q3⟩ := h3 i o (by rw [Array.getElem?_toList]; exact ho)
    simp only [Array.size_empty, Nat.zero_add] at q1 q2 q3
    rw [Array.getD_eq_getD_getElem?, q3] at h
    simp only [Option.getD_some] at h
    rw [← Array.foldl_toList] at h
    rcases testBit_edges _ _ h with h4 | ⟨e, he, hp, h4⟩
    · simp at h4
    · refine ⟨o, rfl, e, he, hp, ?_⟩
      rcases h4 with h4 | h4
      · exact .inl h4
      · right
        by_cases hlt : e.on < i
        · refine ⟨hlt, ?_⟩
          rw [Array.getD_eq_getD_getElem?, q2 _ hlt] at h4
          rw [Array.getD_eq_getD_getElem?]
          exact h4
        · exfalso
          rw [Array.getD_eq_getD_getElem?, Array.getElem?_eq_none (by omega)] at h4
          simp at h4
end Go.Ev
