/- Four functions of the program, met by what is known of them: what they come to. It computes; nothing is proved here. -/
import Derived.Test.YtginbifeinpciaaGreatEvDef
namespace Go.Ev
open Go
noncomputable section
def addO (n : Nat) : Option Nat → Option Nat
  | some k => some (Nat.add n k)
  | none => none
def stepL (v : AV) (o : Option Nat) : Option Nat :=
  match v with
  | .slice _ _ n _ => addO n o
  | .snil => o
  | _ => none
/-- The lengths of all files. -/
def lens : List (AV × AV) → Option Nat
  | [] => some 0
  | e :: l => stepL e.2 (lens l)
/-- Are all keys words? -/
def allStr : List (AV × AV) → Bool
  | [] => true
  | e :: l => match e.1 with
    | .str _ => allStr l
    | _ => false
/-- The map in which the files are as they are now, and: is it down? -/
structure DiskA where
  b : Nat
  o : Nat
  c0 : AV
  now : Nat
  es : List (AV × AV)
  c4 : AV
  c5 : AV
  down : Bool
def diskE (b o : Nat) (c0 : AV) (now : Nat) (c4 c5 : AV) (down : Bool) : Option (List (AV × AV)) → Option DiskA
  | some es => some ⟨b, o, c0, now, es, c4, c5, down⟩
  | none => none
def diskC (H : AH) (b o : Nat) : Option (List AV) → Option DiskA
  | some [c0, _, .map now, _, c4, .bool down] => diskE b o c0 now c4 (.bool down) down (entriesOf (H.get now))
  | _ => none
def diskOf (H : AH) : List AV → Option DiskA
  | [.ptr b o] => diskC H b o (loadA H b o 6)
  | _ => none
/-- A number is given to nothing. -/
def AH.bump (H : AH) : AH :=
  match H with
  | ⟨t, n⟩ => ⟨t, Nat.succ n⟩
def usedR (H : AH) (n : Nat) : Option (AV × AH) :=
  match H.room with
  | true => some (nA n, H.bump)
  | false => none
def usedN (H : AH) : Option Nat → Option (AV × AH)
  | some n => match Nat.ble (top .i64) n with
    | false => usedR H n
    | true => none
  | none => none
def usedD (H : AH) : Option DiskA → Option (AV × AH)
  | some d => match d.down with
    | true => usedN H (some 0)
    | false => usedN H (lens d.es)
  | none => none
def usedP : Prim := fun args H => usedD H (diskOf H args)
def names0 (H : AH) : Option (AV × AH) :=
  match H.room with
  | true => some (.snil, H.bump)
  | false => none
def names1 (H : AH) (s : AV) : Option (AV × AH) :=
  match H.room with
  | true => match H.bump.room with
    | true => match H.bump.bump.room with
      | true => some (.slice H.bump.bump.nx 0 1 1, (H.bump.grown (.cells false 1 [s])).grown (.cells true 1 [s]))
      | false => none
    | false => none
  | false => none
/-- No file, or one. -/
def namesL (H : AH) : List (AV × AV) → Option (AV × AH)
  | [] => names0 H
  | e :: l => match l with
    | [] => match e.1 with
      | .str s => names1 H (.str s)
      | _ => none
    | _ => none
def namesD (H : AH) : Option DiskA → Option (AV × AH)
  | some d => match d.down with
    | true => none
    | false => namesL H d.es
  | none => none
def namesP : Prim := fun args H => namesD H (diskOf H args)
def settleH : Option AH → Option (AV × AH)
  | some H => some (.tup [], H)
  | none => none
def settleR (H : AH) (d : DiskA) : Option (AV × AH) :=
  match H.room with
  | true => match H.bump.room with
    | true => settleH (storeA (H.grown (.map d.es)).bump d.b d.o [d.c0, .map H.nx, .map d.now, .snil, d.c4, d.c5])
    | false => none
  | false => none
def settleD (H : AH) : Option DiskA → Option (AV × AH)
  | some d => match allStr d.es with
    | true => settleR H d
    | false => none
  | none => none
def settleP : Prim := fun args H => settleD H (diskOf H args)
def crc8 (h : Nat) (n : Nat) : Nat :=
  Nat.rec (motive := fun _ => Nat → Nat) (fun h => h)
    (fun _ ih h => ih (Bool.rec (Nat.shiftRight h 1) (Nat.xor (Nat.shiftRight h 1) 2197175160) (Nat.beq (Nat.land h 1) 1))) n h
def crcL : List AV → Nat → Option Nat
  | [], h => some h
  | v :: l, h => match v with
    | .int k (.ofNat x) => match and (kEq k .u8) (Nat.ble x 255) with
      | true => crcL l (crc8 (Nat.xor h x) 8)
      | false => none
    | _ => none
def sumO (H : AH) : Option Nat → Option (AV × AH)
  | some h => some (.int .u32 (.ofNat (Nat.xor h 4294967295)), H)
  | none => none
def sumC (H : AH) : Option (List AV) → Option (AV × AH)
  | some l => sumO H (crcL l 4294967295)
  | none => none
def sumP : Prim := fun args H => match args with
  | [.snil] => some (.int .u32 (.ofNat 0), H)
  | [.slice b o n _] => match Nat.ble (top .i64) n with
    | false => sumC H (loadA H b o n)
    | true => none
  | _ => none
def primOf (u n s c : Nat) (g : FuncId) : Option Prim :=
  match Nat.beq g u with
  | true => some usedP
  | false => match Nat.beq g n with
    | true => some namesP
    | false => match Nat.beq g s with
      | true => some settleP
      | false => match Nat.beq g c with
        | true => some sumP
        | false => none
end
end Go.Ev
