/- An abstract machine for the model's code, and its soundness: part J. -/
import Derived.Test.YtginbifeinpciaaGreatEvI
/- Regions that end with a store, drawn or not. -/
namespace Go.Ev
open Go Go.RowKit Go.ChangeMaps

section
variable {P : Program}
theorem Tr.append {ops : Array Oper} {lA lB : List Oper} {f f1 f2 : Fr} {H H1 H2 : AH} {trA trB : List Ent} (h : Tr P ops lA f H trA f1 H1) (k : Tr P ops lB f1 H1 trB f2 H2) : Tr P ops (lA ++ lB) f H (trA ++ trB) f2 H2 := by
  induction h with
  | nil => exact k
  | cons h _ ih => exact .cons h (ih k)
theorem eps_append {b : Array Nat} {trB : List Ent} {H' : AH} : ∀ (trA : List Ent) (i : Nat), ∃ A : List Epoch, (∀ ep ∈ A, ∃ e ∈ trA, ep.H = e.H) ∧ eps P b i (trA ++ trB) H' = A ++ eps P b (i + trA.length) trB H'
  | [], i => ⟨[], fun _ h => (by cases h), by simp⟩
  | e :: trA, i => by
    obtain ⟨A, h1, h2⟩ := eps_append (b := b) (trB := trB) (H' := H') trA (i + 1)
    have hlen : i + (e :: trA).length = i + 1 + trA.length := by simp; omega
    rw [hlen, List.cons_append]
    have he : eps P b i (e :: (trA ++ trB)) H' = (match isCh P e with
      | true => ⟨e.H, some (i, b.getD i 0)⟩ :: eps P b (i + 1) (trA ++ trB) H'
      | false => eps P b (i + 1) (trA ++ trB) H') := rfl
    rw [he]
    cases isCh P e with
    | true =>
      refine ⟨⟨e.H, some (i, b.getD i 0)⟩ :: A, fun ep hep => ?_, by rw [h2]; rfl⟩
      rcases List.mem_cons.1 hep with rfl | hep
      · exact ⟨e, List.mem_cons_self, rfl⟩
      · obtain ⟨e', he', hh⟩ := h1 ep hep
        exact ⟨e', List.mem_cons_of_mem _ he', hh⟩
    | false =>
      refine ⟨A, fun ep hep => ?_, h2⟩
      obtain ⟨e', he', hh⟩ := h1 ep hep
      exact ⟨e', List.mem_cons_of_mem _ he', hh⟩
theorem recOk_stop {r : Rec} {c pre : Nat} {E : AH} {B : List Epoch} (hE : sameNow P r E = true) (hb : bit pre r.i = true) : ∀ {A : List Epoch}, (∀ e ∈ A, sameNow P r e.H = true) → recOk P r (A ++ ⟨E, some (c, pre)⟩ :: B) = true
  | [], _ => by
    show ((match bit r.pre c with
      | true => true
      | false => sameNow P r E) && (match bit pre r.i with
      | true => true
      | false => recOk P r B)) = true
    rw [hb, hE]
    cases bit r.pre c <;> rfl
  | e :: A, hA => by
    have he := hA e List.mem_cons_self
    have ih := recOk_stop (c := c) (B := B) hE hb (A := A) fun x hx => hA x (List.mem_cons_of_mem _ hx)
    obtain ⟨eH, en⟩ := e
    cases en with
    | none => exact he
    | some cp =>
      obtain ⟨c', pre'⟩ := cp
      show ((match bit r.pre c' with
        | true => true
        | false => sameNow P r eH) && (match bit pre' r.i with
        | true => true
        | false => recOk P r (A ++ ⟨E, some (c, pre)⟩ :: B))) = true
      rw [Bool.and_eq_true]
      constructor
      · split
        · rfl
        · exact he
      · split
        · rfl
        · exact ih
/-- Does a number say that all numbers below n come before? -/
def allBits (m n : Nat) : Bool := (List.range n).all fun i => bit m i
theorem allBits_spec {m n : Nat} (h : allBits m n = true) : ∀ i, i < n → bit m i = true := fun i hi => List.all_eq_true.1 h i (List.mem_range.2 hi)
theorem strip_split {l : List Oper} {a : List S3} {o3 : S3} (h : l.map strip = a ++ [o3]) : ∃ l' o, l = l' ++ [o] ∧ l'.map strip = a ∧ strip o = o3 := by
  obtain ⟨l1, l2, h1, h2, h3⟩ := List.map_eq_append_iff.1 h
  obtain ⟨o, h4, h5⟩ := List.map_eq_singleton_iff.1 h3
  subst h4
  exact ⟨l1, o, h1, h2, h5⟩
/-- A region that turns nothing but by a store at its end. -/
theorem seqKS_region (hm : P.follows .mixedOrders = true) {tbl : FuncId → List AV → Option (AV × Nat)} (htb : PureOk P tbl) {id : Nat} {ops : Array Oper} {l : List S3} {ty : TypeId} {a x : Operand} (hl : ops.toList.map strip = l ++ [(none, .store ty a x, none)]) {draw : Bool}
    (hreg : draw = true → regOk P ops = true ∧ allBits ((Region.before ops).getD l.length 0) l.length = true) (hnd : ∀ s ∈ l, isDefer s.2.1 = false) {f f1 : Fr} {H H1 H2 : AH} (h : seqK P tbl ((l ++ [((none, .store ty a x, none) : S3)]).map (·.1)) l f H = some (f1, H1))
    (hst : opA P f1 H1 (.store ty a x) = some (.val Ev.und H2)) : CodeS P (.region id ops draw) f H .normal f1 H2 := by
  obtain ⟨lA, o, hops, hlA, ho⟩ := strip_split hl
  have hds : ops.toList.map (·.dst) = (l ++ [((none, .store ty a x, none) : S3)]).map (·.1) := by rw [← hl, List.map_map]; rfl
  obtain ⟨hb, _, tr, ht, hc⟩ := seqK_tr htb hds lA (by rw [hlA]; exact h)
  have e1 : o.op = .store ty a x := congrArg (fun s : S3 => s.2.1) ho
  have e2 : o.guard = none := congrArg (fun s : S3 => s.2.2) ho
  have e3 : o.dst = none := congrArg (fun s : S3 => s.1) ho
  have hkc : kindOf P o.op = .chain := by rw [e1]; rfl
  have hop : opA P f1 H1 o.op = some (.val Ev.und H2) := by rw [e1]; exact hst
  have hent : EntOk P ops ⟨o, f1, H1, Ev.und, true, none⟩ f1 H2 := by
    refine ⟨by show f1.put o.dst Ev.und = some f1; rw [e3]; rfl, (fun h => by cases h), fun _ j w hg => ?_, fun _ => ⟨_, hop, rfl, rfl⟩, (fun _ hk => ?_), (fun _ hk => ?_), (fun _ hk => ?_), fun _ _ => opA_grows hop⟩
    · have hg : o.guard = some (j, w) := hg
      rw [e2] at hg; cases hg
    · have hk : kindOf P o.op = .pure := hk
      rw [hkc] at hk; cases hk
    · have hk : kindOf P o.op = .read := hk
      rw [hkc] at hk; cases hk
    · have hk : kindOf P o.op = .new := hk
      rw [hkc] at hk; cases hk
  have hT : Tr P ops ops.toList f H (tr ++ [⟨o, f1, H1, Ev.und, true, none⟩]) f1 H2 := by
    rw [hops]
    exact ht.append (.cons (e := ⟨o, f1, H1, Ev.und, true, none⟩) hent (.nil f1 H2))
  have hlen : tr.length = l.length := by rw [ht.length, ← hlA, List.length_map]
  have hnd' : ∀ o' ∈ ops.toList, ∀ c, o'.op ≠ .defer c := by
    intro o' ho' c he
    have hmem : strip o' ∈ l ++ [(none, .store ty a x, none)] := by rw [← hl]; exact List.mem_map.2 ⟨o', ho', rfl⟩
    rcases List.mem_append.1 hmem with hm' | hm'
    · have := hnd _ hm'
      have this : isDefer o'.op = false := this
      rw [he] at this; cases this
    · simp at hm'
      have : o'.op = .store ty a x := congrArg (fun s : S3 => s.2.1) hm'
      rw [he] at this; cases this
  cases draw with
  | false => exact plain_tr hT hnd'
  | true =>
    obtain ⟨hr, hbits⟩ := hreg rfl
    have hbits := allBits_spec hbits
    have key : ∀ j e, (tr ++ [⟨o, f1, H1, Ev.und, true, none⟩])[j]? = some e → (tr[j]? = some e ∧ j < tr.length) ∨ e = ⟨o, f1, H1, Ev.und, true, none⟩ := by
      intro j e he
      rcases Nat.lt_or_ge j tr.length with hj | hj
      · rw [List.getElem?_append_left hj] at he
        exact .inl ⟨he, hj⟩
      · rw [List.getElem?_append_right hj] at he
        right
        rcases Nat.eq_zero_or_pos (j - tr.length) with hz | hz
        · rw [hz] at he
          injection he with he
          exact he.symm
        · rw [List.getElem?_eq_none (by simp; omega)] at he
          cases he
    refine drawn_tr hm hr hT ⟨fun j e he hran hk => ?_, fun j e he hran hk => ?_⟩
    · rcases key j e he with ⟨he, hj⟩ | rfl
      · have hec := hc e (List.mem_of_getElem? he)
        obtain ⟨h1, h2, h3⟩ := hec.read hran hk
        obtain ⟨A, hA, hep⟩ := eps_append (P := P) (b := Region.before ops) (trB := [⟨o, f1, H1, Ev.und, true, none⟩]) (H' := H2) tr 0
        have hch : isCh P ⟨o, f1, H1, Ev.und, true, none⟩ = true := by simp [isCh, hkc, Kd.isChain]
        have hsame : ∀ n, sameNow P ⟨0 + j, (Region.before ops).getD (0 + j) 0, false, e.o.op, e.f, e.v, 0, none⟩ ⟨H.bl, n⟩ = true := by
          intro n
          show sameV e.v (opA P e.f ⟨H.bl, n⟩ e.o.op) = true
          have h4 : opA P e.f ⟨H.bl, e.H.nx⟩ e.o.op = some (.val e.v e.H) := by
            have := hec.bl
            rw [← this]
            exact h3
          rw [load_nx h1 h4 n]
          exact h2
        rw [hep]
        simp only [eps, hch]
        refine recOk_stop ?_ ?_ fun ep hepA => ?_
        · have := hsame H1.nx
          rw [← hb] at this
          exact this
        · show bit ((Region.before ops).getD (0 + tr.length) 0) (0 + j) = true
          rw [Nat.zero_add, Nat.zero_add, hlen]
          exact hbits j (by omega)
        · obtain ⟨e', he', hh⟩ := hA ep hepA
          rw [hh]
          have := hsame e'.H.nx
          rw [← (hc e' he').bl] at this
          exact this
      · have hk : kindOf P o.op = .read := hk
        rw [hkc] at hk; cases hk
    · rcases key j e he with ⟨he, hj⟩ | rfl
      · exact absurd hk ((hc e (List.mem_of_getElem? he)).new hran)
      · have hk : kindOf P o.op = .new := hk
        rw [hkc] at hk; cases hk
end
end Go.Ev
