/- An abstract machine for the model's code, and its soundness: part L. -/
import Derived.Test.YtginbifeinpciaaGreatEvK
/- Drawn regions that end with a new variable and a store into it. -/
namespace Go.Ev
open Go Go.RowKit Go.ChangeMaps

section
variable {P : Program}
/-- Each load is asked for by a call that is carried out before anything is turned. -/
def stopsOk (P : Program) (ops : Array Oper) (l : List S3) : Bool := (List.range l.length).all fun j => match l[j]? with
  | some s => match isLoad s.2.1 with
    | true => (List.range l.length).any fun i => match l[i]? with
      | some s' => s'.2.2.isNone && (kindOf P s'.2.1).isChain && bit ((Region.before ops).getD i 0) j
      | none => false
    | false => true
  | none => true
/-- A region that turns nothing but by a new variable and a store at its end. -/
theorem seqKA_region (hm : P.follows .mixedOrders = true) {tbl : FuncId → List AV → Option (AV × Nat)} (htb : PureOk P tbl) {id : Nat} {ops : Array Oper} {l : List S3} {ta : Tmp} {tyA ty : TypeId} {a x : Operand} (hl : ops.toList.map strip = l ++ [(some ta, .alloc tyA, none), (none, .store ty a x, none)])
    (hreg : regOk P ops = true ∧ bit ((Region.before ops).getD (l.length + 1) 0) l.length = true ∧ stopsOk P ops l = true) (_hnd : ∀ s ∈ l, isDefer s.2.1 = false) {f f1 f2 : Fr} {H H1 H2 : AH} {y : ABlk} {va : AV}
    (h : seqK P tbl ((l ++ [((some ta, .alloc tyA, none) : S3), (none, .store ty a x, none)]).map (·.1)) l f H = some (f1, H1))
    (hal : opA P f1 H1 (.alloc tyA) = some (.val va (H1.grown y))) (hself : blkEq y y = true) (hput : f1.put (some ta) va = some f2) (hroom : H1.room = true) (hst : opA P f2 (H1.grown y) (.store ty a x) = some (.val Ev.und H2)) :
    CodeS P (.region id ops true) f H .normal f2 H2 := by
  obtain ⟨hr, hbit, hstops⟩ := hreg
  have hnx := AH.room_lt hroom
  obtain ⟨lA, lB, hops, hlA, hlB⟩ := List.map_eq_append_iff.1 hl
  obtain ⟨oa, lB', e0, ho1, hlB'⟩ := List.map_eq_cons_iff.1 hlB
  obtain ⟨os, e1, ho2⟩ := List.map_eq_singleton_iff.1 hlB'
  subst e0; subst e1
  have hds : ops.toList.map (·.dst) = (l ++ [((some ta, .alloc tyA, none) : S3), (none, .store ty a x, none)]).map (·.1) := by rw [← hl, List.map_map]; rfl
  obtain ⟨hb, _, tr, ht, hc⟩ := seqK_tr htb hds lA (by rw [hlA]; exact h)
  have a1 : oa.op = .alloc tyA := congrArg (fun s : S3 => s.2.1) ho1
  have a2 : oa.guard = none := congrArg (fun s : S3 => s.2.2) ho1
  have a3 : oa.dst = some ta := congrArg (fun s : S3 => s.1) ho1
  have b1 : os.op = .store ty a x := congrArg (fun s : S3 => s.2.1) ho2
  have b2 : os.guard = none := congrArg (fun s : S3 => s.2.2) ho2
  have b3 : os.dst = none := congrArg (fun s : S3 => s.1) ho2
  have ka : kindOf P oa.op = .new := by rw [a1]; rfl
  have kb : kindOf P os.op = .chain := by rw [b1]; rfl
  have hal' : opA P f1 H1 oa.op = some (.val va (H1.grown y)) := by rw [a1]; exact hal
  have hst' : opA P f2 (H1.grown y) os.op = some (.val Ev.und H2) := by rw [b1]; exact hst
  have entA : EntOk P ops ⟨oa, f1, H1, va, true, some y⟩ f2 (H1.grown y) :=
    ⟨by show f1.put oa.dst va = some f2; rw [a3]; exact hput, (fun h => by cases h), fun _ j w hg => (by have hg : oa.guard = some (j, w) := hg; rw [a2] at hg; cases hg), fun _ => ⟨_, hal', rfl, rfl⟩, (fun _ hk => by have hk : kindOf P oa.op = .pure := hk; rw [ka] at hk; cases hk), (fun _ hk => by have hk : kindOf P oa.op = .read := hk; rw [ka] at hk; cases hk), fun _ _ => ⟨y, rfl, hroom, rfl⟩, (fun _ hk => by have hk : kindOf P oa.op = .chain := hk; rw [ka] at hk; cases hk)⟩
  have entB : EntOk P ops ⟨os, f2, H1.grown y, Ev.und, true, none⟩ f2 H2 :=
    ⟨by show f2.put os.dst Ev.und = some f2; rw [b3]; rfl, (fun h => by cases h), fun _ j w hg => (by have hg : os.guard = some (j, w) := hg; rw [b2] at hg; cases hg), fun _ => ⟨_, hst', rfl, rfl⟩, (fun _ hk => by have hk : kindOf P os.op = .pure := hk; rw [kb] at hk; cases hk), (fun _ hk => by have hk : kindOf P os.op = .read := hk; rw [kb] at hk; cases hk), (fun _ hk => by have hk : kindOf P os.op = .new := hk; rw [kb] at hk; cases hk), fun _ _ => opA_grows hst'⟩
  have hT : Tr P ops ops.toList f H (tr ++ [⟨oa, f1, H1, va, true, some y⟩, ⟨os, f2, H1.grown y, Ev.und, true, none⟩]) f2 H2 := by
    rw [hops]
    exact ht.append (.cons (e := ⟨oa, f1, H1, va, true, some y⟩) entA (.cons (e := ⟨os, f2, H1.grown y, Ev.und, true, none⟩) entB (.nil f2 H2)))
  have hlen : tr.length = l.length := by rw [ht.length, ← hlA, List.length_map]
  have chA : isCh P ⟨oa, f1, H1, va, true, some y⟩ = false := by simp [isCh, ka, Kd.isChain]
  have chB : isCh P ⟨os, f2, H1.grown y, Ev.und, true, none⟩ = true := by simp [isCh, kb, Kd.isChain]
  have key : ∀ j e, (tr ++ [⟨oa, f1, H1, va, true, some y⟩, ⟨os, f2, H1.grown y, Ev.und, true, none⟩])[j]? = some e → (tr[j]? = some e ∧ j < tr.length) ∨ (j = tr.length ∧ e = ⟨oa, f1, H1, va, true, some y⟩) ∨ e = ⟨os, f2, H1.grown y, Ev.und, true, none⟩ := by
    intro j e he
    rcases Nat.lt_or_ge j tr.length with hj | hj
    · rw [List.getElem?_append_left hj] at he
      exact .inl ⟨he, hj⟩
    · rw [List.getElem?_append_right hj] at he
      obtain ⟨k, rfl⟩ : ∃ k, j = tr.length + k := ⟨j - tr.length, by omega⟩
      rw [Nat.add_sub_cancel_left] at he
      match k, he with
      | 0, he => injection he with he; exact .inr (.inl ⟨rfl, he.symm⟩)
      | 1, he => injection he with he; exact .inr (.inr he.symm)
      | k + 2, he => simp at he
  refine drawn_tr hm hr hT ⟨fun j e he hran hk => ?_, fun j e he hran hk => ?_⟩
  · rcases key j e he with ⟨he, hj⟩ | ⟨_, rfl⟩ | rfl
    · have hec := hc e (List.mem_of_getElem? he)
      obtain ⟨h1, h2, h3⟩ := hec.read hran hk
      -- the call that asks for it
      have hop : l[j]? = some (strip e.o) := by
        have := (ht.at he).1
        rw [← hlA, List.getElem?_map, this]
        rfl
      have hs := List.all_eq_true.1 hstops j (List.mem_range.2 (by omega))
      rw [hop] at hs
      have h1' : isLoad (strip e.o).2.1 = true := h1
      simp only [h1'] at hs
      obtain ⟨i, hi, hs⟩ := List.any_eq_true.1 hs
      have hi := List.mem_range.1 hi
      have hil : i < tr.length := by omega
      have hei : tr[i]? = some tr[i] := List.getElem?_eq_getElem hil
      have hopi : l[i]? = some (strip (tr[i]).o) := by
        have := (ht.at hei).1
        rw [← hlA, List.getElem?_map, this]
        rfl
      rw [hopi] at hs
      simp only [Bool.and_eq_true] at hs
      obtain ⟨⟨hgn, hch⟩, hbj⟩ := hs
      have hgn : (tr[i]).o.guard.isNone = true := hgn
      have hran' : (tr[i]).ran = true := by
        cases hx : (tr[i]).ran with
        | true => rfl
        | false =>
          obtain ⟨_, f1', H1', hent, _⟩ := (ht.at hei)
          obtain ⟨⟨j', w', hg, _⟩, _⟩ := hent.skip hx
          rw [hg] at hgn
          cases hgn
      have hisch : isCh P tr[i] = true := by
        have hch : (kindOf P (tr[i]).o.op).isChain = true := hch
        simp [isCh, hran', hch]
      have hsplit : tr ++ [⟨oa, f1, H1, va, true, some y⟩, ⟨os, f2, H1.grown y, Ev.und, true, none⟩] = tr.take i ++ (tr[i] :: (tr.drop (i + 1) ++ [⟨oa, f1, H1, va, true, some y⟩, ⟨os, f2, H1.grown y, Ev.und, true, none⟩])) := by
        rw [← List.cons_append, ← List.append_assoc]
        congr 1
        rw [← List.drop_eq_getElem_cons hil, List.take_append_drop]
      obtain ⟨A, hA, hep⟩ := eps_append (P := P) (b := Region.before ops) (trB := tr[i] :: (tr.drop (i + 1) ++ [⟨oa, f1, H1, va, true, some y⟩, ⟨os, f2, H1.grown y, Ev.und, true, none⟩])) (H' := H2) (tr.take i) 0
      have hsame : ∀ n, sameNow P ⟨0 + j, (Region.before ops).getD (0 + j) 0, false, e.o.op, e.f, e.v, 0, none⟩ ⟨H.bl, n⟩ = true := by
        intro n
        show sameV e.v (opA P e.f ⟨H.bl, n⟩ e.o.op) = true
        have h4 : opA P e.f ⟨H.bl, e.H.nx⟩ e.o.op = some (.val e.v e.H) := by
          have := hec.bl
          rw [← this]
          exact h3
        rw [load_nx h1 h4 n]
        exact h2
      rw [hsplit, hep]
      simp only [eps, hisch]
      have hti : 0 + (tr.take i).length = i := by rw [List.length_take]; omega
      rw [hti]
      refine recOk_stop ?_ ?_ fun ep hepA => ?_
      · have := hsame (tr[i]).H.nx
        rw [← (hc tr[i] (List.getElem_mem hil)).bl] at this
        exact this
      · show bit ((Region.before ops).getD i 0) (0 + j) = true
        rw [Nat.zero_add]
        exact hbj
      · obtain ⟨e', he', hh⟩ := hA ep hepA
        rw [hh]
        have := hsame e'.H.nx
        rw [← (hc e' (List.mem_of_mem_take he')).bl] at this
        exact this
    · have hk : kindOf P oa.op = .read := hk
      rw [ka] at hk; cases hk
    · have hk : kindOf P os.op = .read := hk
      rw [kb] at hk; cases hk
  · rcases key j e he with ⟨he, hj⟩ | ⟨rfl, rfl⟩ | rfl
    · exact absurd hk ((hc e (List.mem_of_getElem? he)).new hran)
    · obtain ⟨A, hA, hep⟩ := eps_append (P := P) (b := Region.before ops) (trB := [⟨oa, f1, H1, va, true, some y⟩, ⟨os, f2, H1.grown y, Ev.und, true, none⟩]) (H' := H2) tr 0
      rw [hep]
      simp only [eps, chA, chB]
      refine recOk_stop ?_ ?_ fun ep hepA => ?_
      · show (match Nat.ble (H1.grown y).nx H1.nx with
          | true => true
          | false => sameB (some y) ((H1.grown y).get H1.nx)) = true
        rw [AH.get_grown H1 y H1.nx hnx hnx, if_pos rfl]
        split
        · rfl
        · exact hself
      · show bit ((Region.before ops).getD (0 + tr.length + 1) 0) (0 + tr.length) = true
        rw [Nat.zero_add, hlen]
        exact hbit
      · obtain ⟨e', he', hh⟩ := hA ep hepA
        rw [hh]
        obtain ⟨j', hj'⟩ := List.getElem?_of_mem he'
        obtain ⟨_, g1, G1, hent, _, gd⟩ := ht.at hj'
        have hle : e'.H.nx ≤ H1.nx := Nat.le_trans hent.mono gd.mono
        show (match Nat.ble e'.H.nx H1.nx with
          | true => true
          | false => sameB (some y) (e'.H.get H1.nx)) = true
        rw [Nat.ble_eq_true_of_le hle]
    · have hk : kindOf P os.op = .new := hk
      rw [kb] at hk; cases hk
end
end Go.Ev
