/- Regions that draw their order: what a run in the text's order leaves behind. -/
import Derived.Test.YtginbifeinpciaaGreatEvS22
namespace Go.Ev
open Go

/-- One operation of a run in the text's order. -/
structure Ent where
  o : Oper
  f : Fr
  H : AH
  v : AV
  ran : Bool
  x : Option ABlk

section
variable (P : Program)
def isCh (e : Ent) : Bool := e.ran && (kindOf P e.o.op).isChain
structure EntOk (ops : Array Oper) (e : Ent) (f1 : Fr) (H1 : AH) : Prop where
  put : e.f.put e.o.dst e.v = some f1
  skip : e.ran = false → (∃ j want, e.o.guard = some (j, want) ∧ ¬ ∃ d, dstAt ops j = some d ∧ e.f.get d = .bool want) ∧ e.v = Ev.und ∧ H1 = e.H
  guard : e.ran = true → ∀ j want, e.o.guard = some (j, want) → ∃ d, dstAt ops j = some d ∧ e.f.get d = .bool want
  run : e.ran = true → ∃ ar, opA P e.f e.H e.o.op = some ar ∧ ArS P e.H e.v H1 ar
  pure : e.ran = true → kindOf P e.o.op = .pure → H1 = e.H
  read : e.ran = true → kindOf P e.o.op = .read → H1 = e.H
  new : e.ran = true → kindOf P e.o.op = .new → ∃ x, e.x = some x ∧ e.H.room = true ∧ H1 = e.H.grown x
  chain : e.ran = true → kindOf P e.o.op = .chain → e.H.nx ≤ H1.nx
inductive Tr (ops : Array Oper) : List Oper → Fr → AH → List Ent → Fr → AH → Prop where
  | nil (f : Fr) (H : AH) : Tr ops [] f H [] f H
  | cons {e : Ent} {l : List Oper} {tr : List Ent} {f1 f' : Fr} {H1 H' : AH} (h : EntOk P ops e f1 H1) (t : Tr ops l f1 H1 tr f' H') : Tr ops (e.o :: l) e.f e.H (e :: tr) f' H'
def eps (b : Array Nat) : Nat → List Ent → AH → List Epoch
  | _, [], H' => [⟨H', none⟩]
  | i, e :: tr, H' => match isCh P e with
    | true => ⟨e.H, some (i, b.getD i 0)⟩ :: eps b (i + 1) tr H'
    | false => eps b (i + 1) tr H'
end
theorem revE_eq : ∀ (l a : List Epoch), revE l a = l.reverse ++ a
  | [], a => rfl
  | e :: l, a => by
    show revE l (e :: a) = _
    rw [revE_eq l]
    simp
section
variable {P : Program} {R : Type}
theorem recsOk_all {es : List Epoch} : ∀ {rs : List Rec}, recsOk P es rs = true → ∀ r ∈ rs, recOk P r es = true
  | [], _, r, hr => by cases hr
  | a :: rs, h, r, hr => by
    have h' : (recOk P a es && recsOk P es rs) = true := h
    rw [Bool.and_eq_true] at h'
    cases hr with
    | head => exact h'.1
    | tail _ hr => exact recsOk_all h'.2 r hr
/-- What is known of the records behind a run. -/
structure RecsOk (P : Program) (b : Array Nat) (i : Nat) (tr : List Ent) (L : List Epoch) : Prop where
  read : ∀ j e, tr[j]? = some e → e.ran = true → kindOf P e.o.op = .read → recOk P ⟨i + j, b.getD (i + j) 0, false, e.o.op, e.f, e.v, 0, none⟩ L = true
  new : ∀ j e, tr[j]? = some e → e.ran = true → kindOf P e.o.op = .new → recOk P ⟨i + j, b.getD (i + j) 0, true, e.o.op, e.f, e.v, e.H.nx, e.x⟩ L = true
theorem RecsOk.cons {b : Array Nat} {i : Nat} {e : Ent} {tr : List Ent} {L : List Epoch} (h : RecsOk P b (i + 1) tr L) (h1 : e.ran = true → kindOf P e.o.op = .read → recOk P ⟨i, b.getD i 0, false, e.o.op, e.f, e.v, 0, none⟩ L = true)
    (h2 : e.ran = true → kindOf P e.o.op = .new → recOk P ⟨i, b.getD i 0, true, e.o.op, e.f, e.v, e.H.nx, e.x⟩ L = true) : RecsOk P b i (e :: tr) L := by
  refine ⟨fun j e' he hr hk => ?_, fun j e' he hr hk => ?_⟩
  · cases j with
    | zero => simp at he; subst he; exact h1 hr hk
    | succ j =>
      have := h.read j e' (by simpa using he) hr hk
      rw [show i + (j + 1) = i + 1 + j from by omega]
      exact this
  · cases j with
    | zero => simp at he; subst he; exact h2 hr hk
    | succ j =>
      have := h.new j e' (by simpa using he) hr hk
      rw [show i + (j + 1) = i + 1 + j from by omega]
      exact this
abbrev RecDone (P : Program) (ops : Array Oper) (b : Array Nat) (i : Nat) (l : List Oper) (f : Fr) (H : AH) (rs : List Rec) (es : List Epoch) (k : Fr → AH → Option R) (res : R) : Prop :=
  ∃ tr f' H', k f' H' = some res ∧ Tr P ops l f H tr f' H' ∧ (∀ r ∈ rs, recOk P r (es.reverse ++ eps P b i tr H') = true) ∧ RecsOk P b i tr (es.reverse ++ eps P b i tr H')

theorem cRec_sound {ih : Ih R} (hi : IhOk P ih) {ops : Array Oper} {b : Array Nat} : ∀ (l : List Oper) {i : Nat} {f : Fr} {H : AH} {rs : List Rec} {es : List Epoch} {k : Fr → AH → Option R} {res : R}, (∀ o ∈ l, ∀ c, o.op ≠ .defer c) →
    (cRec P ops b i l).run ih f H rs es k = some res → RecDone P ops b i l f H rs es k res
  | [], i, f, H, rs, es, k, res, _, h => by
    have h : (match recsOk P (revE (⟨H, none⟩ :: es) []) rs with
      | true => k f H
      | false => none) = some res := h
    split at h
    · rename_i hok
      rw [revE_eq] at hok
      refine ⟨[], f, H, h, .nil f H, fun r hr => ?_, ⟨fun j e he => by simp at he, fun j e he => by simp at he⟩⟩
      have := recsOk_all hok r hr
      simpa [eps] using this
    · cases h
  | o :: l, i, f, H, rs, es, k, res, hnd, h => by
    have hd := hnd o (by simp)
    have hnd' : ∀ o ∈ l, ∀ c, o.op ≠ .defer c := fun o' ho' => hnd o' (List.mem_cons_of_mem _ ho')
    obtain ⟨r, hr⟩ : ∃ r : OpRun R, cOp P o = ⟨r⟩ := ⟨_, rfl⟩
    obtain ⟨s, hs⟩ : ∃ s : RecRun R, cRec P ops b (i + 1) l = ⟨s⟩ := ⟨_, rfl⟩
    have hsr : ∀ {f H rs es k res}, s ih f H rs es k = some res → (cRec P ops b (i + 1) l).run ih f H rs es k = some res := fun h => by rw [hs]; exact h
    have hrr : ∀ {f H} {k : AV → Fr → AH → Option R} {res}, r ih f H k = some res → ∃ ar v f' H', opA P f H o.op = some ar ∧ k v f' H' = some res ∧ f.put o.dst v = some f' ∧ ArS P H v H' ar := fun {f H k res} h => by
      have h : (cOp P o).run ih f H k = some res := by rw [hr]; exact h
      exact arK_sound hi hd (cOp_runs o ih f H k res h)
    -- the operation is carried out
    have go : (∀ j want, o.guard = some (j, want) → ∃ d, dstAt ops j = some d ∧ f.get d = .bool want) → (recKind i (b.getD i 0) o.op r s (kindOf P o.op)).run ih f H rs es k = some res → RecDone P ops b i (o :: l) f H rs es k res := by
      intro hg h
      cases hk : kindOf P o.op with
      | pure =>
        rw [hk] at h
        have h : r ih f H (fun _ f' H' => s ih f' H' rs es k) = some res := h
        obtain ⟨ar, v, f1, H1, har, h1, hp, has⟩ := hrr h
        have hH : H1 = H := by
          obtain ⟨y, hy⟩ := kind_pure (f := f) hk
          rw [hy H] at har
          cases y with
          | none => cases har
          | some y =>
            injection har with har
            subst har
            exact has.2.symm
        obtain ⟨tr, f', H', h2, h3, h4, h5⟩ := cRec_sound hi l hnd' (hsr h1)
        have hch : isCh P ⟨o, f, H, v, true, none⟩ = false := by simp [isCh, hk, Kd.isChain]
        refine ⟨⟨o, f, H, v, true, none⟩ :: tr, f', H', h2, .cons (e := ⟨o, f, H, v, true, none⟩) ⟨hp, (fun h => by cases h), fun _ => hg, fun _ => ⟨ar, har, has⟩, fun _ _ => hH, fun _ _ => hH, (fun _ h => by rw [hk] at h; cases h), fun _ h => by rw [hk] at h; cases h⟩ h3, ?_, ?_⟩
        · simp only [eps, hch]; exact h4
        · simp only [eps, hch]
          exact h5.cons (fun _ h => by rw [hk] at h; cases h) (fun _ h => by rw [hk] at h; cases h)
      | read =>
        rw [hk] at h
        have h : r ih f H (fun v f' H' => s ih f' H' (⟨i, b.getD i 0, false, o.op, f, v, 0, none⟩ :: rs) es k) = some res := h
        obtain ⟨ar, v, f1, H1, har, h1, hp, has⟩ := hrr h
        have hH : H1 = H := by
          obtain ⟨y, hy⟩ := kind_read (f := f) hk H
          rw [hy] at har
          cases y with
          | none => cases har
          | some y =>
            injection har with har
            subst har
            exact has.2.symm
        obtain ⟨tr, f', H', h2, h3, h4, h5⟩ := cRec_sound hi l hnd' (hsr h1)
        have hch : isCh P ⟨o, f, H, v, true, none⟩ = false := by simp [isCh, hk, Kd.isChain]
        refine ⟨⟨o, f, H, v, true, none⟩ :: tr, f', H', h2, .cons (e := ⟨o, f, H, v, true, none⟩) ⟨hp, (fun h => by cases h), fun _ => hg, fun _ => ⟨ar, har, has⟩, fun _ _ => hH, fun _ _ => hH, (fun _ h => by rw [hk] at h; cases h), fun _ h => by rw [hk] at h; cases h⟩ h3, ?_, ?_⟩
        · simp only [eps, hch]; exact fun r hr => h4 r (List.mem_cons_of_mem _ hr)
        · simp only [eps, hch]
          exact h5.cons (fun _ _ => h4 _ (by simp)) (fun _ h => by rw [hk] at h; cases h)
      | new =>
        rw [hk] at h
        have h : r ih f H (fun v f' H' => s ih f' H' (⟨i, b.getD i 0, true, o.op, f, v, H.nx, H'.get H.nx⟩ :: rs) es k) = some res := h
        obtain ⟨ar, v, f1, H1, har, h1, hp, has⟩ := hrr h
        have hH : ∃ x, H.room = true ∧ H1 = H.grown x := by
          rcases kind_new (f := f) hk with hy | ⟨x, kk, hy⟩
          · rw [hy H] at har; cases har
          · rw [hy H] at har
            unfold newA at har
            split at har
            · rename_i hroom
              injection har with har
              subst har
              exact ⟨x, hroom, has.2.symm⟩
            · cases har
        obtain ⟨x, hroom, rfl⟩ := hH
        have hx : (H.grown x).get H.nx = some x := by
          have hlt := AH.room_lt hroom
          rw [AH.get_grown H x H.nx hlt hlt, if_pos rfl]
        rw [hx] at h1
        obtain ⟨tr, f', H', h2, h3, h4, h5⟩ := cRec_sound hi l hnd' (hsr h1)
        have hch : isCh P ⟨o, f, H, v, true, some x⟩ = false := by simp [isCh, hk, Kd.isChain]
        refine ⟨⟨o, f, H, v, true, some x⟩ :: tr, f', H', h2, .cons (e := ⟨o, f, H, v, true, some x⟩) ⟨hp, (fun h => by cases h), fun _ => hg, fun _ => ⟨ar, har, has⟩, (fun _ h => by rw [hk] at h; cases h), (fun _ h => by rw [hk] at h; cases h), fun _ _ => ⟨x, rfl, hroom, rfl⟩, fun _ h => by rw [hk] at h; cases h⟩ h3, ?_, ?_⟩
        · simp only [eps, hch]; exact fun r hr => h4 r (List.mem_cons_of_mem _ hr)
        · simp only [eps, hch]
          exact h5.cons (fun _ h => by rw [hk] at h; cases h) (fun _ _ => h4 _ (by simp))
      | chain =>
        rw [hk] at h
        have h : r ih f H (fun _ f' H' => match Nat.ble H.nx H'.nx with
          | true => s ih f' H' rs (⟨H, some (i, b.getD i 0)⟩ :: es) k
          | false => none) = some res := h
        obtain ⟨ar, v, f1, H1, har, h1, hp, has⟩ := hrr h
        split at h1
        · rename_i hle
          have hle := Nat.le_of_ble_eq_true hle
          obtain ⟨tr, f', H', h2, h3, h4, h5⟩ := cRec_sound hi l hnd' (hsr h1)
          have hch : isCh P ⟨o, f, H, v, true, none⟩ = true := by simp [isCh, hk, Kd.isChain]
          have happ : (⟨H, some (i, b.getD i 0)⟩ :: es).reverse ++ eps P b (i + 1) tr H' = es.reverse ++ (⟨H, some (i, b.getD i 0)⟩ :: eps P b (i + 1) tr H') := by simp
          rw [happ] at h4 h5
          refine ⟨⟨o, f, H, v, true, none⟩ :: tr, f', H', h2, .cons (e := ⟨o, f, H, v, true, none⟩) ⟨hp, (fun h => by cases h), fun _ => hg, fun _ => ⟨ar, har, has⟩, (fun _ h => by rw [hk] at h; cases h), (fun _ h => by rw [hk] at h; cases h), (fun _ h => by rw [hk] at h; cases h), fun _ _ => hle⟩ h3, ?_, ?_⟩
          · simp only [eps, hch]; exact h4
          · simp only [eps, hch]
            exact h5.cons (fun _ h => by rw [hk] at h; cases h) (fun _ h => by rw [hk] at h; cases h)
        · cases h1
    have h : (recGuard ops o.dst o.guard s (recKind i (b.getD i 0) o.op r s (kindOf P o.op))).run ih f H rs es k = some res := by
      have e : cRec P ops b i (o :: l) = recGuard ops o.dst o.guard s (recKind i (b.getD i 0) o.op r s (kindOf P o.op)) := by
        conv => lhs; unfold cRec
        rw [hr, hs]
      rw [← e]
      exact h
    cases hgd : o.guard with
    | none =>
      rw [hgd] at h
      exact go (fun j want hg => by rw [hgd] at hg; cases hg) h
    | some jw =>
      obtain ⟨j, want⟩ := jw
      rw [hgd] at h
      obtain ⟨t, ht⟩ : ∃ t : RecRun R, recKind i (b.getD i 0) o.op r s (kindOf P o.op) = ⟨t⟩ := ⟨_, rfl⟩
      rw [ht] at h
      have sk : (¬ ∃ d, dstAt ops j = some d ∧ f.get d = .bool want) → (cPut (R := R) o.dst).put Ev.und f (fun f' => s ih f' H rs es k) = some res → RecDone P ops b i (o :: l) f H rs es k res := by
        intro hn h
        obtain ⟨f1, hp, h1⟩ := cPut_put h
        obtain ⟨tr, f', H', h2, h3, h4, h5⟩ := cRec_sound hi l hnd' (hsr h1)
        have hch : isCh P ⟨o, f, H, Ev.und, false, none⟩ = false := by simp [isCh]
        refine ⟨⟨o, f, H, Ev.und, false, none⟩ :: tr, f', H', h2, .cons (e := ⟨o, f, H, Ev.und, false, none⟩) ⟨hp, fun _ => ⟨⟨j, want, hgd, hn⟩, rfl, rfl⟩, (fun h => by cases h), (fun h => by cases h), (fun h => by cases h), (fun h => by cases h), (fun h => by cases h), (fun h => by cases h)⟩ h3, ?_, ?_⟩
        · simp only [eps, hch]; exact h4
        · simp only [eps, hch]
          exact h5.cons (fun h => by cases h) (fun h => by cases h)
      cases hd2 : dstAt ops j with
      | none =>
        have h : (cPut (R := R) o.dst).put Ev.und f (fun f' => s ih f' H rs es k) = some res := by
          have hg0 : guardG ops j = none := by simp [guardG, hd2]
          simp only [recGuard, hg0, recG] at h
          exact h
        exact sk (by rw [hd2]; rintro ⟨d, e, _⟩; cases e) h
      | some d =>
        obtain ⟨g, hg⟩ : ∃ g : Fr → AV, cGet (.tmp d) = some ⟨g⟩ := ⟨_, rfl⟩
        have hgf : g f = f.get d := by
          have := cGet_aev hg f
          simp only [aev] at this
          injection this with this
          exact this.symm
        have h : (match boolIs want (g f) with
          | true => t ih f H rs es k
          | false => (cPut (R := R) o.dst).put Ev.und f (fun f' => s ih f' H rs es k)) = some res := by
          have hg0 : guardG ops j = some ⟨g⟩ := by simp [guardG, hd2, hg]
          simp only [recGuard, hg0, recG] at h
          exact h
        rw [hgf] at h
        split at h
        · rename_i hb
          have hb := boolIs_iff.1 hb
          refine go (fun j' want' hg' => ?_) (by rw [ht]; exact h)
          rw [hgd] at hg'
          injection hg' with hg'
          injection hg' with e1 e2
          subst e1; subst e2
          exact ⟨d, hd2, hb⟩
        · rename_i hb
          refine sk ?_ h
          rintro ⟨d', e, hb'⟩
          rw [hd2] at e
          injection e with e
          subst e
          rw [boolIs_iff.2 hb'] at hb
          cases hb
end
end Go.Ev
