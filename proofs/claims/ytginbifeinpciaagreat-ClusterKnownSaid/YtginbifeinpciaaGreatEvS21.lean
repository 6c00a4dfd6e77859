/- Operations by kinds: what they look at, what of memory they look at, what they make. -/
import Derived.Test.YtginbifeinpciaaGreatEvS20
namespace Go.Ev
open Go

section
variable {P : Program} {f f2 : Fr} {H : AH}
theorem aevs_congr : ∀ {l : List Operand}, (∀ x ∈ l, aev f x = aev f2 x) → aevs f l = aevs f2 l
  | [], _ => rfl
  | x :: l, h => by
    show consO (aev f x) (aevs f l) = consO (aev f2 x) (aevs f2 l)
    rw [h x (by simp), aevs_congr fun y hy => h y (List.mem_cons_of_mem _ hy)]
theorem pairsA_congr : ∀ {l : List (Nat × Operand)}, (∀ x ∈ l.map (·.2), aev f x = aev f2 x) → pairsA f l = pairsA f2 l
  | [], _ => rfl
  | p :: l, h => by
    show consO (pairO p.1 (aev f p.2)) (pairsA f l) = consO (pairO p.1 (aev f2 p.2)) (pairsA f2 l)
    rw [h p.2 (by simp), pairsA_congr fun y hy => h y (by simp only [List.map_cons]; exact List.mem_cons_of_mem _ hy)]
theorem optA_congr {o : Option Operand} (h : ∀ x ∈ o.toList, aev f x = aev f2 x) : optA f o = optA f2 o := by
  cases o with
  | none => rfl
  | some x => show (aev f x).map some = (aev f2 x).map some; rw [h x (by simp)]
theorem opA_congr {op : Op} (h : ∀ x ∈ op.operands.toList, aev f x = aev f2 x) : opA P f H op = opA P f2 H op := by
  cases op with
  | move x => show vA H (aev f x) = vA H (aev f2 x); rw [h x (by simp [Op.operands])]
  | assign x => show vA H (aev f x) = vA H (aev f2 x); rw [h x (by simp [Op.operands])]
  | pick c a b =>
    show opPick f H a b (aev f c) = opPick f2 H a b (aev f2 c)
    unfold opPick
    rw [h c (by simp [Op.operands]), h a (by simp [Op.operands]), h b (by simp [Op.operands])]
  | alloc t => rfl
  | box t x => show newVarA H (aev f x) = newVarA H (aev f2 x); rw [h x (by simp [Op.operands])]
  | build t ps => show opBuild P H t (pairsA f ps.toList) = opBuild P H t (pairsA f2 ps.toList); rw [pairsA_congr (f := f) (f2 := f2) fun x hx => h x (by simpa [Op.operands] using hx)]
  | buildSlice t n ps => show opBuildSlice P H t n (pairsA f ps.toList) = opBuildSlice P H t n (pairsA f2 ps.toList); rw [pairsA_congr (f := f) (f2 := f2) fun x hx => h x (by simpa [Op.operands] using hx)]
  | load t x => show opLoad P H t (aev f x) = opLoad P H t (aev f2 x); rw [h x (by simp [Op.operands])]
  | store t a x => show opStore P H t (aev f x) (aev f a) = opStore P H t (aev f2 x) (aev f2 a); rw [h x (by simp [Op.operands]), h a (by simp [Op.operands])]
  | nilCheck x => show opNilCheck H (aev f x) = opNilCheck H (aev f2 x); rw [h x (by simp [Op.operands])]
  | binOp op t x y u => show opBin P H op t (aev f x) (aev f y) = opBin P H op t (aev f2 x) (aev f2 y); rw [h x (by simp [Op.operands]), h y (by simp [Op.operands])]
  | unOp op t x => show opUn H op (aev f x) = opUn H op (aev f2 x); rw [h x (by simp [Op.operands])]
  | convert s d x => show opConv P H s d (aev f x) = opConv P H s d (aev f2 x); rw [h x (by simp [Op.operands])]
  | makeFunc fn a c =>
    show opFunc H fn (aevs f a.toList) (aevs f c.toList) = opFunc H fn (aevs f2 a.toList) (aevs f2 c.toList)
    rw [aevs_congr (f := f) (f2 := f2) (l := a.toList) fun x hx => h x (by simp [Op.operands]; exact .inl (by simpa using hx)), aevs_congr (f := f) (f2 := f2) (l := c.toList) fun x hx => h x (by simp [Op.operands]; exact .inr (by simpa using hx))]
  | makeMap t r => show opMakeMap H (optA f r) (P.underlying t) = opMakeMap H (optA f2 r) (P.underlying t); rw [optA_congr (f := f) (f2 := f2) fun x hx => h x (by simpa [Op.operands] using hx)]
  | makeSlice t l c => show opMakeSlice P H t (aev f l) (aev f c) = opMakeSlice P H t (aev f2 l) (aev f2 c); rw [h l (by simp [Op.operands]), h c (by simp [Op.operands])]
  | slice t x lo hi mx =>
    show opSlice P H t (optA f lo) (optA f hi) (optA f mx) (aev f x) = opSlice P H t (optA f2 lo) (optA f2 hi) (optA f2 mx) (aev f2 x)
    rw [h x (by simp [Op.operands]), optA_congr (f := f) (f2 := f2) (o := lo) fun x hx => h x (by simp [Op.operands]; simp at hx; simp [hx]), optA_congr (f := f) (f2 := f2) (o := hi) fun x hx => h x (by simp [Op.operands]; simp at hx; simp [hx]), optA_congr (f := f) (f2 := f2) (o := mx) fun x hx => h x (by simp [Op.operands]; simp at hx; simp [hx])]
  | fieldAddr t x i => show opFieldAddr P H t i (aev f x) = opFieldAddr P H t i (aev f2 x); rw [h x (by simp [Op.operands])]
  | field t x i => show opField P H t i (aev f x) = opField P H t i (aev f2 x); rw [h x (by simp [Op.operands])]
  | indexAddr t x i => show opIndexAddr P H t (aev f x) (aev f i) = opIndexAddr P H t (aev f2 x) (aev f2 i); rw [h x (by simp [Op.operands]), h i (by simp [Op.operands])]
  | index t x i => show opIndex P H t (aev f x) (aev f i) = opIndex P H t (aev f2 x) (aev f2 i); rw [h x (by simp [Op.operands]), h i (by simp [Op.operands])]
  | lookup t x k ok => show opLookup P H t ok (aev f x) (aev f k) = opLookup P H t ok (aev f2 x) (aev f2 k); rw [h x (by simp [Op.operands]), h k (by simp [Op.operands])]
  | mapUpdate t m k x => show opUpdate P H t (aev f x) (aev f m) (aev f k) = opUpdate P H t (aev f2 x) (aev f2 m) (aev f2 k); rw [h x (by simp [Op.operands]), h m (by simp [Op.operands]), h k (by simp [Op.operands])]
  | extract x i => show opExtract H i (aev f x) = opExtract H i (aev f2 x); rw [h x (by simp [Op.operands])]
  | call c =>
    show opCall P f H c (aevs f c.args.toList) = opCall P f2 H c (aevs f2 c.args.toList)
    have ha : aevs f c.args.toList = aevs f2 c.args.toList := aevs_congr fun x hx => h x (by
      simp only [Op.operands, Call.operands]
      cases c.callee <;> simp <;> simp at hx <;> simp [hx])
    rw [ha]
    unfold opCall
    split
    · unfold opCallee
      split
      · rfl
      · rename_i g hc
        rw [h g (by simp [Op.operands, Call.operands, hc])]
      · rfl
    · rfl
  | defer c =>
    show opDefer f c.callee (aevs f c.args.toList) = opDefer f2 c.callee (aevs f2 c.args.toList)
    have ha : aevs f c.args.toList = aevs f2 c.args.toList := aevs_congr fun x hx => h x (by
      simp only [Op.operands, Call.operands]
      cases c.callee <;> simp <;> simp at hx <;> simp [hx])
    rw [ha]
    unfold opDefer
    split
    · split
      · rename_i g hc
        rw [h g (by simp [Op.operands, Call.operands, hc])]
      · rfl
    · rfl
  | _ => rfl

/-! Kinds -/
theorem vA_none (H : AH) : vA H none = none := rfl
/-- Nothing of memory is looked at. -/
theorem kind_pure {op : Op} (hk : kindOf P op = .pure) : ∃ y : Option AV, ∀ H, opA P f H op = vA H y := by
  cases op with
  | move x => exact ⟨aev f x, fun _ => rfl⟩
  | assign x => exact ⟨aev f x, fun _ => rfl⟩
  | pick c a b =>
    cases hc : aev f c with
    | none => exact ⟨none, fun H => by show opPick f H a b (aev f c) = _; rw [hc]; rfl⟩
    | some v =>
      cases v with
      | bool t => cases t with
        | true => exact ⟨aev f a, fun H => by show opPick f H a b (aev f c) = _; rw [hc]; rfl⟩
        | false => exact ⟨aev f b, fun H => by show opPick f H a b (aev f c) = _; rw [hc]; rfl⟩
      | _ => exact ⟨none, fun H => by show opPick f H a b (aev f c) = _; rw [hc]; rfl⟩
  | build t ps =>
    cases hp : pairsA f ps.toList with
    | none => exact ⟨none, fun H => by show opBuild P H t (pairsA f ps.toList) = _; rw [hp]; rfl⟩
    | some l => exact ⟨buildA P t l, fun H => by show opBuild P H t (pairsA f ps.toList) = _; rw [hp]; rfl⟩
  | nilCheck x =>
    cases hx : aev f x with
    | none => exact ⟨none, fun H => by show opNilCheck H (aev f x) = _; rw [hx]; rfl⟩
    | some v =>
      cases v with
      | ptr b o => exact ⟨some (.ptr b o), fun H => by show opNilCheck H (aev f x) = _; rw [hx]; rfl⟩
      | func g a c => exact ⟨some (.func g a c), fun H => by show opNilCheck H (aev f x) = _; rw [hx]; rfl⟩
      | yield l => exact ⟨some (.yield l), fun H => by show opNilCheck H (aev f x) = _; rw [hx]; rfl⟩
      | _ => exact ⟨none, fun H => by show opNilCheck H (aev f x) = _; rw [hx]; rfl⟩
  | binOp op t x y u =>
    cases hx : aev f x with
    | none => exact ⟨none, fun H => by show opBin P H op t (aev f x) (aev f y) = _; rw [hx]; rfl⟩
    | some v => cases hy : aev f y with
      | none => exact ⟨none, fun H => by show opBin P H op t (aev f x) (aev f y) = _; rw [hx, hy]; rfl⟩
      | some v' => exact ⟨binA P op t v v', fun H => by show opBin P H op t (aev f x) (aev f y) = _; rw [hx, hy]; rfl⟩
  | unOp op t x =>
    cases hx : aev f x with
    | none => exact ⟨none, fun H => by show opUn H op (aev f x) = _; rw [hx]; rfl⟩
    | some v => exact ⟨unA op v, fun H => by show opUn H op (aev f x) = _; rw [hx]; rfl⟩
  | convert s d x =>
    cases hx : aev f x with
    | none => exact ⟨none, fun H => by show opConv P H s d (aev f x) = _; rw [hx]; rfl⟩
    | some v =>
      have hk : kindConv (P.underlying s) (P.underlying d) = .pure := hk
      have e : ∀ H, opA P f H (.convert s d x) = convA P s d v H := fun H => by show opConv P H s d (aev f x) = _; rw [hx]; rfl
      cases hs : P.underlying s with
      | none => exact ⟨none, fun H => by rw [e]; simp [convA, hs, vA]⟩
      | some sd =>
        have e2 : ∀ H, opA P f H (.convert s d x) = convTo P s v H (P.underlying d) := fun H => by rw [e]; simp [convA, hs]
        cases hd : P.underlying d with
        | none => exact ⟨none, fun H => by rw [e2, hd]; rfl⟩
        | some dd =>
          cases dd with
          | int k =>
            cases v with
            | int j n => exact ⟨some (.int k (wr k n)), fun H => by rw [e2, hd]; rfl⟩
            | _ => exact ⟨none, fun H => by rw [e2, hd]; rfl⟩
          | string =>
            cases v with
            | str q => exact ⟨some (.str q), fun H => by rw [e2, hd]; rfl⟩
            | _ =>
              have hns : isU8 ((isSl (P.underlying s)).bind P.underlying) = false := by
                rw [hs]
                rw [hs, hd] at hk
                cases sd <;> first | rfl | (simp [kindConv] at hk)
              exact ⟨none, fun H => by rw [e2, hd]; simp only [convTo, hns]; rfl⟩
          | slice el =>
            have hstr : isStr (P.underlying s) = false := by
              rw [hs]
              rw [hs, hd] at hk
              cases sd <;> first | rfl | (simp [kindConv] at hk)
            cases v with
            | str q => exact ⟨none, fun H => by rw [e2, hd]; simp only [convTo, hstr]; rfl⟩
            | _ => exact ⟨none, fun H => by rw [e2, hd]; rfl⟩
          | _ => exact ⟨none, fun H => by rw [e2, hd]; rfl⟩
  | makeFunc fn a c =>
    cases fn with
    | func g =>
      cases ha : aevs f a.toList with
      | none => exact ⟨none, fun H => by show opFunc H (.func g) (aevs f a.toList) (aevs f c.toList) = _; rw [ha]; rfl⟩
      | some l => cases hc : aevs f c.toList with
        | none => exact ⟨none, fun H => by show opFunc H (.func g) (aevs f a.toList) (aevs f c.toList) = _; rw [ha, hc]; rfl⟩
        | some r => exact ⟨some (.func g l r), fun H => by show opFunc H (.func g) (aevs f a.toList) (aevs f c.toList) = _; rw [ha, hc]; rfl⟩
    | _ => exact ⟨none, fun H => rfl⟩
  | fieldAddr t x i =>
    cases hx : aev f x with
    | none => exact ⟨none, fun H => by show opFieldAddr P H t i (aev f x) = _; rw [hx]; rfl⟩
    | some v => exact ⟨_, fun H => by show opFieldAddr P H t i (aev f x) = _; rw [hx]; rfl⟩
  | field t x i =>
    cases hx : aev f x with
    | none => exact ⟨none, fun H => by show opField P H t i (aev f x) = _; rw [hx]; rfl⟩
    | some v => exact ⟨_, fun H => by show opField P H t i (aev f x) = _; rw [hx]; rfl⟩
  | indexAddr t x i =>
    cases hx : aev f x with
    | none => exact ⟨none, fun H => by show opIndexAddr P H t (aev f x) (aev f i) = _; rw [hx]; rfl⟩
    | some v => cases hi : aev f i with
      | none => exact ⟨none, fun H => by show opIndexAddr P H t (aev f x) (aev f i) = _; rw [hx, hi]; rfl⟩
      | some v' => exact ⟨_, fun H => by show opIndexAddr P H t (aev f x) (aev f i) = _; rw [hx, hi]; rfl⟩
  | index t x i =>
    cases hx : aev f x with
    | none => exact ⟨none, fun H => by show opIndex P H t (aev f x) (aev f i) = _; rw [hx]; rfl⟩
    | some v => cases hi : aev f i with
      | none => exact ⟨none, fun H => by show opIndex P H t (aev f x) (aev f i) = _; rw [hx, hi]; rfl⟩
      | some v' => exact ⟨_, fun H => by show opIndex P H t (aev f x) (aev f i) = _; rw [hx, hi]; rfl⟩
  | extract x i =>
    cases hx : aev f x with
    | none => exact ⟨none, fun H => by show opExtract H i (aev f x) = _; rw [hx]; rfl⟩
    | some v =>
      cases v with
      | tup vs => exact ⟨nth vs i, fun H => by show opExtract H i (aev f x) = _; rw [hx]; rfl⟩
      | _ => exact ⟨none, fun H => by show opExtract H i (aev f x) = _; rw [hx]; rfl⟩
  | call c =>
    have hk : kindC c.callee = .pure := hk
    cases hc : c.callee with
    | value g => rw [hc] at hk; cases hk
    | invoke x n => rw [hc] at hk; cases hk
    | builtin b =>
      rw [hc] at hk
      cases ha : aevs f c.args.toList with
      | none => exact ⟨none, fun H => by show opCall P f H c (aevs f c.args.toList) = _; rw [ha]; rfl⟩
      | some as =>
        have e : ∀ H, opA P f H (.call c) = builtinA P b c.argTypes.toList as H := fun H => by
          show opCall P f H c (aevs f c.args.toList) = _
          rw [ha]
          simp only [opCall, opCallee, hc]
        cases b <;> first | (cases hk; done) | skip
        · cases as with
          | nil => exact ⟨none, fun H => by rw [e]; rfl⟩
          | cons a l => exact ⟨_, fun H => by rw [e]; rfl⟩
        · cases as with
          | nil => exact ⟨none, fun H => by rw [e]; rfl⟩
          | cons a l => exact ⟨_, fun H => by rw [e]; rfl⟩
  | _ => first | (cases hk; done) | exact ⟨none, fun H => rfl⟩
/-- Memory is looked at, nothing of it is turned. -/
theorem kind_read {op : Op} (hk : kindOf P op = .read) (H : AH) : ∃ y : Option AV, opA P f H op = vA H y := by
  cases op with
  | load t x =>
    cases hx : aev f x with
    | none => exact ⟨none, by show opLoad P H t (aev f x) = _; rw [hx]; rfl⟩
    | some v =>
      cases v with
      | ptr b o => exact ⟨_, by show opLoad P H t (aev f x) = _; rw [hx]; rfl⟩
      | _ => exact ⟨none, by show opLoad P H t (aev f x) = _; rw [hx]; rfl⟩
  | lookup t x k ok =>
    cases hx : aev f x with
    | none => exact ⟨none, by show opLookup P H t ok (aev f x) (aev f k) = _; rw [hx]; rfl⟩
    | some v => cases hi : aev f k with
      | none => exact ⟨none, by show opLookup P H t ok (aev f x) (aev f k) = _; rw [hx, hi]; rfl⟩
      | some v' => exact ⟨_, by show opLookup P H t ok (aev f x) (aev f k) = _; rw [hx, hi]; rfl⟩
  | slice t x lo hi mx =>
    show ∃ y, opSlice P H t (optA f lo) (optA f hi) (optA f mx) (aev f x) = vA H y
    cases hx : aev f x with
    | none => exact ⟨none, rfl⟩
    | some v => cases h1 : optA f lo with
      | none => exact ⟨none, rfl⟩
      | some l => cases h2 : optA f hi with
        | none => exact ⟨none, rfl⟩
        | some h => cases h3 : optA f mx with
          | none => exact ⟨none, rfl⟩
          | some m => exact ⟨_, rfl⟩
  | convert s d x =>
    show ∃ y, opConv P H s d (aev f x) = vA H y
    have hk : kindConv (P.underlying s) (P.underlying d) = .read := hk
    cases hx : aev f x with
    | none => exact ⟨none, rfl⟩
    | some v =>
      show ∃ y, convA P s d v H = vA H y
      have hsl : ∃ e, P.underlying s = some (.slice e) := by
        unfold kindConv at hk
        split at hk
        · exact ⟨_, by assumption⟩
        · cases hk
        · cases hk
      obtain ⟨e, hs⟩ := hsl
      have e2 : convA P s d v H = convTo P s v H (P.underlying d) := by simp [convA, hs]
      rw [e2]
      cases hd : P.underlying d with
      | none => exact ⟨none, rfl⟩
      | some dd =>
        cases dd with
        | int k =>
          cases v with
          | int j n => exact ⟨some (.int k (wr k n)), rfl⟩
          | _ => exact ⟨none, rfl⟩
        | string =>
          unfold convTo
          dsimp only
          split
          · exact ⟨some _, rfl⟩
          · split
            · exact ⟨_, rfl⟩
            · exact ⟨none, rfl⟩
        | slice el =>
          have hstr : isStr (P.underlying s) = false := by rw [hs]; rfl
          cases v with
          | str q => exact ⟨none, by simp only [convTo, hstr]; rfl⟩
          | _ => exact ⟨none, rfl⟩
        | _ => exact ⟨none, rfl⟩
  | call c =>
    have hk : kindC c.callee = .read := hk
    cases hc : c.callee with
    | value g => rw [hc] at hk; cases hk
    | invoke x n => rw [hc] at hk; cases hk
    | builtin b =>
      rw [hc] at hk
      cases ha : aevs f c.args.toList with
      | none => exact ⟨none, by show opCall P f H c (aevs f c.args.toList) = _; rw [ha]; rfl⟩
      | some as =>
        have e : opA P f H (.call c) = builtinA P b c.argTypes.toList as H := by
          show opCall P f H c (aevs f c.args.toList) = _
          rw [ha]
          simp only [opCall, opCallee, hc]
        rw [e]
        cases b <;> first | (cases hk; done) | skip
        show ∃ y, builtinR P .len c.argTypes.toList as H = vA H y
        unfold builtinR
        repeat' split
        all_goals first | exact ⟨none, rfl⟩ | exact ⟨_, rfl⟩
  | _ => cases hk
/-- A block is made, whatever memory holds. -/
theorem kind_new {op : Op} (hk : kindOf P op = .new) : (∀ H, opA P f H op = none) ∨ ∃ (b : ABlk) (k : Nat → AV), ∀ H, opA P f H op = newA H b k := by
  cases op with
  | alloc t =>
    cases hz : zeroT P t with
    | none => exact .inl fun H => by show newVarA H (zeroT P t) = _; rw [hz]; rfl
    | some z => exact .inr ⟨.cells false 0 z.cells, fun b => .ptr b 0, fun H => by show newVarA H (zeroT P t) = _; rw [hz]; rfl⟩
  | box t x =>
    cases hz : aev f x with
    | none => exact .inl fun H => by show newVarA H (aev f x) = _; rw [hz]; rfl
    | some z => exact .inr ⟨.cells false 0 z.cells, fun b => .ptr b 0, fun H => by show newVarA H (aev f x) = _; rw [hz]; rfl⟩
  | buildSlice t n ps =>
    cases hp : pairsA f ps.toList with
    | none => exact .inl fun H => by show opBuildSlice P H t n (pairsA f ps.toList) = _; rw [hp]; rfl
    | some l => cases hb : buildSliceA P t n l with
      | none => exact .inl fun H => by show opBuildSlice P H t n (pairsA f ps.toList) = _; rw [hp]; show newSl H n (buildSliceA P t n l) = _; rw [hb]; rfl
      | some x => exact .inr ⟨x, fun b => .slice b 0 n n, fun H => by show opBuildSlice P H t n (pairsA f ps.toList) = _; rw [hp]; show newSl H n (buildSliceA P t n l) = _; rw [hb]; rfl⟩
  | makeSlice t l c =>
    show (∀ H, opMakeSlice P H t (aev f l) (aev f c) = none) ∨ ∃ b k, ∀ H, opMakeSlice P H t (aev f l) (aev f c) = newA H b k
    cases hl : aev f l with
    | none => exact .inl fun H => rfl
    | some lv => cases hc : aev f c with
      | none => exact .inl fun H => rfl
      | some cv =>
        show (∀ H, makeSliceA P t lv cv H = none) ∨ ∃ b k, ∀ H, makeSliceA P t lv cv H = newA H b k
        unfold makeSliceA
        cases isSl (P.underlying t) with
        | none => exact .inl fun H => rfl
        | some elem =>
          dsimp only
          unfold makeSl1
          cases natOf lv with
          | none => exact .inl fun H => rfl
          | some ln => cases natOf cv with
            | none => exact .inl fun H => rfl
            | some cn =>
              dsimp only
              unfold makeSl
              cases sizeT P elem with
              | none => exact .inl fun H => rfl
              | some s => cases bytesT P elem with
                | none => exact .inl fun H => rfl
                | some by_ => cases zeroT P elem with
                  | none => exact .inl fun H => rfl
                  | some z =>
                    dsimp only
                    split
                    · exact .inr ⟨_, _, fun H => rfl⟩
                    · exact .inl fun H => rfl
  | makeMap t r =>
    show (∀ H, opMakeMap H (optA f r) (P.underlying t) = none) ∨ ∃ b k, ∀ H, opMakeMap H (optA f r) (P.underlying t) = newA H b k
    unfold opMakeMap
    split
    · split
      · exact .inr ⟨_, _, fun H => rfl⟩
      · exact .inl fun H => rfl
    · exact .inl fun H => rfl
  | convert s d x =>
    show (∀ H, opConv P H s d (aev f x) = none) ∨ ∃ b k, ∀ H, opConv P H s d (aev f x) = newA H b k
    have hk : kindConv (P.underlying s) (P.underlying d) = .new := hk
    have hsd : P.underlying s = some .string ∧ ∃ e, P.underlying d = some (.slice e) := by
      unfold kindConv at hk
      split at hk
      · cases hk
      · exact ⟨by assumption, _, by assumption⟩
      · cases hk
    obtain ⟨hs, e, hd⟩ := hsd
    cases hx : aev f x with
    | none => exact .inl fun H => rfl
    | some v =>
      have e2 : ∀ H, opConv P H s d (some v) = convTo P s v H (some (.slice e)) := fun H => by simp [opConv, convA, hs, hd]
      cases v with
      | str q =>
        by_cases hc : and (isStr (P.underlying s)) (and (isU8 (P.underlying e)) (is1 (sizeT P e))) = true
        · exact .inr ⟨_, _, fun H => by rw [e2]; simp only [convTo, hc]; rfl⟩
        · have hc' : and (isStr (P.underlying s)) (and (isU8 (P.underlying e)) (is1 (sizeT P e))) = false := by simpa using hc
          exact .inl fun H => by rw [e2]; simp only [convTo, hc']
      | _ => exact .inl fun H => by rw [e2]; rfl
  | call c =>
    have hk : kindC c.callee = .new := hk
    cases hc : c.callee with
    | value g => rw [hc] at hk; cases hk
    | invoke x n => rw [hc] at hk; cases hk
    | builtin b => rw [hc] at hk; cases b <;> cases hk
  | _ => cases hk
end
end Go.Ev
