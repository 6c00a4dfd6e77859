/- An abstract machine for the model's code, and its soundness: part K. -/
import Derived.Test.YtginbifeinpciaaGreatEvJ
/- Regions in the text's order with calls and whatever operations give values. -/
namespace Go.Ev
open Go Go.RowKit Go.ChangeMaps

section
variable {P : Program}
/-- A region in the text's order. -/
noncomputable def seqP (P : Program) (tbl : FuncId → List AV → Option (AV × Nat)) (ds : List (Option Tmp)) : List S3 → Fr → AH → Option (Fr × AH)
  | [], f, H => some (f, H)
  | o :: l, f, H => match gdOk ds f o.2.2 with
    | true => match opA P f H o.2.1 with
      | some (.val v H1) => match f.put o.1 v with
        | some f1 => seqP P tbl ds l f1 H1
        | none => none
      | some (.enter g args) => match tbl g args with
        | some (v, d) => match Nat.ble (Nat.succ (H.nx + d)) mH with
          | true => match f.put o.1 v with
            | some f1 => seqP P tbl ds l f1 ⟨H.bl, H.nx + d⟩
            | none => none
          | false => none
        | none => none
      | _ => none
    | false => match f.put o.1 Ev.und with
      | some f1 => seqP P tbl ds l f1 H
      | none => none
/-- An operation that gives a value, as an entry. -/
theorem val_ent {ops : Array Oper} {ds : List (Option Tmp)} (hds : ops.toList.map (·.dst) = ds) {o : Oper} {f f1 : Fr} {H H1 : AH} {v : AV} (hg : gdOk ds f o.guard = true) (hop : opA P f H o.op = some (.val v H1)) (hput : f.put o.dst v = some f1) :
    ∃ x, EntOk P ops ⟨o, f, H, v, true, x⟩ f1 H1 ∧ (kindOf P o.op = .new → ∃ y, x = some y ∧ H1 = H.grown y) := by
  obtain ⟨gs1, _⟩ := gdOk_spec hds f o.guard
  cases hk : kindOf P o.op with
  | pure =>
    have hH : H1 = H := val_kind hop (by rw [hk]; rfl)
    exact ⟨none, ⟨hput, (fun h => by cases h), fun _ => gs1 hg, fun _ => ⟨_, hop, rfl, rfl⟩, fun _ _ => hH, fun _ _ => hH, (fun _ h => by rw [show kindOf P o.op = .new from h] at hk; cases hk), (fun _ h => by rw [show kindOf P o.op = .chain from h] at hk; cases hk)⟩, fun h => by cases h⟩
  | read =>
    have hH : H1 = H := by
      obtain ⟨y, hy⟩ := kind_read (f := f) hk H
      rw [hy] at hop
      cases y with
      | none => cases hop
      | some y => injection hop with hop; injection hop with _ h; exact h.symm
    exact ⟨none, ⟨hput, (fun h => by cases h), fun _ => gs1 hg, fun _ => ⟨_, hop, rfl, rfl⟩, fun _ _ => hH, fun _ _ => hH, (fun _ h => by rw [show kindOf P o.op = .new from h] at hk; cases hk), (fun _ h => by rw [show kindOf P o.op = .chain from h] at hk; cases hk)⟩, fun h => by cases h⟩
  | new =>
    have hH : ∃ x, H.room = true ∧ H1 = H.grown x := by
      rcases kind_new (f := f) hk with hy | ⟨x, kk, hy⟩
      · rw [hy H] at hop; cases hop
      · rw [hy H] at hop
        unfold newA at hop
        split at hop
        · rename_i hroom
          injection hop with hop
          injection hop with _ h
          exact ⟨x, hroom, h.symm⟩
        · cases hop
    obtain ⟨x, hroom, hH⟩ := hH
    exact ⟨some x, ⟨hput, (fun h => by cases h), fun _ => gs1 hg, fun _ => ⟨_, hop, rfl, rfl⟩, (fun _ h => by rw [show kindOf P o.op = .pure from h] at hk; cases hk), (fun _ h => by rw [show kindOf P o.op = .read from h] at hk; cases hk), fun _ _ => ⟨x, rfl, hroom, hH⟩, (fun _ h => by rw [show kindOf P o.op = .chain from h] at hk; cases hk)⟩, fun _ => ⟨x, rfl, hH⟩⟩
  | chain =>
    exact ⟨none, ⟨hput, (fun h => by cases h), fun _ => gs1 hg, fun _ => ⟨_, hop, rfl, rfl⟩, (fun _ h => by rw [show kindOf P o.op = .pure from h] at hk; cases hk), (fun _ h => by rw [show kindOf P o.op = .read from h] at hk; cases hk), (fun _ h => by rw [show kindOf P o.op = .new from h] at hk; cases hk), fun _ _ => opA_grows hop⟩, fun h => by cases h⟩
theorem call_ent {tbl : FuncId → List AV → Option (AV × Nat)} (htb : PureOk P tbl) {ops : Array Oper} {ds : List (Option Tmp)} (hds : ops.toList.map (·.dst) = ds) {o : Oper} {f f1 : Fr} {H : AH} {g : FuncId} {args : List AV} {v : AV} {d : Nat} (hg : gdOk ds f o.guard = true)
    (hop : opA P f H o.op = some (.enter g args)) (htv : tbl g args = some (v, d)) (hroom : Nat.ble (Nat.succ (H.nx + d)) mH = true) (hput : f.put o.dst v = some f1) : EntOk P ops ⟨o, f, H, v, true, none⟩ f1 ⟨H.bl, H.nx + d⟩ := by
  obtain ⟨gs1, _⟩ := gdOk_spec hds f o.guard
  have hkc := enter_kind hop
  have hcall := htb g args v d htv H (Nat.le_of_ble_eq_true hroom)
  exact ⟨hput, (fun h => by cases h), fun _ => gs1 hg, fun _ => ⟨_, hop, Nat.le_add_right _ _, hcall⟩, (fun _ hkk => by rw [show kindOf P o.op = .pure from hkk] at hkc; cases hkc), (fun _ hkk => by rw [show kindOf P o.op = .read from hkk] at hkc; cases hkc), (fun _ hkk => by rw [show kindOf P o.op = .new from hkk] at hkc; cases hkc), fun _ _ => Nat.le_add_right _ _⟩
theorem skip_ent {ops : Array Oper} {ds : List (Option Tmp)} (hds : ops.toList.map (·.dst) = ds) {o : Oper} {f f1 : Fr} {H : AH} (hg : gdOk ds f o.guard = false) (hput : f.put o.dst Ev.und = some f1) : EntOk P ops ⟨o, f, H, Ev.und, false, none⟩ f1 H := by
  obtain ⟨_, gs2⟩ := gdOk_spec hds f o.guard
  exact ⟨hput, fun _ => ⟨gs2 hg, rfl, rfl⟩, (fun h => by cases h), (fun h => by cases h), (fun h => by cases h), (fun h => by cases h), (fun h => by cases h), (fun h => by cases h)⟩
theorem seqP_tr {tbl : FuncId → List AV → Option (AV × Nat)} (htb : PureOk P tbl) {ops : Array Oper} {ds : List (Option Tmp)} (hds : ops.toList.map (·.dst) = ds) : ∀ (l : List Oper) {f f' : Fr} {H H' : AH}, seqP P tbl ds (l.map strip) f H = some (f', H') → ∃ tr, Tr P ops l f H tr f' H'
  | [], f, f', H, H', h => by
    have h : some (f, H) = some (f', H') := h
    injection h with h
    injection h with h1 h2
    subst h1; subst h2
    exact ⟨[], .nil f H⟩
  | o :: l, f, f', H, H', h => by
    simp only [List.map_cons, seqP, strip] at h
    split at h
    · rename_i hg
      split at h
      · rename_i v H1 hop
        split at h
        · rename_i f1 hput
          obtain ⟨x, he, _⟩ := val_ent hds hg hop hput
          obtain ⟨tr, ht⟩ := seqP_tr htb hds l h
          exact ⟨_, .cons he ht⟩
        · cases h
      · rename_i g args hop
        split at h
        · rename_i v d htv
          split at h
          · rename_i hroom
            split at h
            · rename_i f1 hput
              obtain ⟨tr, ht⟩ := seqP_tr htb hds l h
              exact ⟨_, .cons (call_ent htb hds hg hop htv hroom hput) ht⟩
            · cases h
          · cases h
        · cases h
      · cases h
    · rename_i hg
      split at h
      · rename_i f1 hput
        obtain ⟨tr, ht⟩ := seqP_tr htb hds l h
        exact ⟨_, .cons (skip_ent hds hg hput) ht⟩
      · cases h
theorem seqP_region {tbl : FuncId → List AV → Option (AV × Nat)} (htb : PureOk P tbl) {id : Nat} {ops : Array Oper} {l : List S3} (hl : ops.toList.map strip = l) (hnd : ∀ s ∈ l, isDefer s.2.1 = false) {f f' : Fr} {H H' : AH} (h : seqP P tbl (l.map (·.1)) l f H = some (f', H')) :
    CodeS P (.region id ops false) f H .normal f' H' := by
  have hds : ops.toList.map (·.dst) = l.map (·.1) := by rw [← hl, List.map_map]; rfl
  obtain ⟨tr, ht⟩ := seqP_tr htb hds ops.toList (by rw [hl]; exact h)
  refine plain_tr ht fun o ho c he => ?_
  have := hnd (strip o) (by rw [← hl]; exact List.mem_map.2 ⟨o, ho, rfl⟩)
  have this : isDefer o.op = false := this
  rw [he] at this
  cases this
end
end Go.Ev
