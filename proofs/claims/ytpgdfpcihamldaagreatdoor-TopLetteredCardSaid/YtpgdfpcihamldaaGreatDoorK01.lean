/-
A plain machine: an abstract interpreter of the model's code, over small heaps of its own, in which slices are immutable lists. Definitions alone; that what it computes holds of the model is proved in the texts behind this one.
The abstract answers of a few functions of Go's library that the plain machine does not enter.
-/
import Derived.Orders
namespace Go.Pm
open Go

inductive Tok where
  | none
  | exact
  | nil
  | own (r : Nat)

inductive AV where
  | bool (b : Bool)
  | int (k : IntKind) (n : Int)
  | str (s : List UInt8)
  | nilp
  | ref (r off : Nat)
  | eptr (cells : List AV)
  | slice (t : Tok) (n : Nat) (cells : List AV)
  | vslice (r off n : Nat)
  | nilmap
  | map (r : Nat)
  | func (f : FuncId) (first caps : List AV)
  | nilFunc
  | iface (t : TypeId) (v : AV)
  | nilIface
  | agg (cells : List AV)
  | tuple (vs : List AV)
  deriving Inhabited

inductive ABlk where
  | cells (xs : List AV)
  | owner (n sz : Nat)
  | map (es : List (AV × AV))

inductive End where
  | ret (v : AV)
  | panic (v : AV)

inductive Ex where
  | normal
  | exit (id : Nat)
  | ret
  | panic (v : AV)

/-- The slots: those that live on behind a region, in a fixed order; those of the region under way. -/
structure Tm where
  mask : Nat
  loc : List (Nat × AV)
  reg : List (Nat × AV)

structure St where
  tm : Tm
  heap : List ABlk
  n : Nat
  defers : List (FuncId × List AV)

/-- What is known of a type. -/
structure TI where
  desc : TypeDesc
  size : Nat
  bytes : Nat
  zero : Option AV
  eqOk : Bool
abbrev Ty := TypeId → Option TI

structure Env where
  P : Program
  ty : Ty
  func : FuncId → Option Func
  mask : FuncId → Nat
  glob : Nat → Option (List AV)
  owns : FuncId → Bool
  intr : FuncId → Option (List AV → List ABlk → Option (End × List ABlk))

inductive Tree (α : Type) where
  | leaf
  | node (k : Nat) (v : α) (l r : Tree α)
noncomputable def Tree.find {α : Type} (T : Tree α) (t : Nat) : Option α :=
  Tree.rec none (fun k v _ _ l r => Bool.rec (Bool.rec l r (Nat.ble k t)) (some v) (Nat.beq k t)) T

noncomputable def undefA : AV := .tuple []

/-! ### small functions, by recursors: the kernel is quick with these -/
section
universe u v
variable {α : Type u} {β : Type v}
noncomputable def bc (b : Bool) (x y : α) : α := Bool.rec y x b
noncomputable def ob (x : Option α) (f : α → Option β) : Option β := Option.rec none f x
noncomputable def nth (l : List α) : Nat → Option α := List.rec (fun _ => none) (fun x _ ih n => Nat.rec (some x) (fun m _ => ih m) n) l
noncomputable def setNth (l : List α) : Nat → α → List α := List.rec (fun _ _ => []) (fun x l ih n y => Nat.rec (y :: l) (fun m _ => x :: ih m y) n) l
end
@[simp] theorem bc_true {α : Type _} (x y : α) : bc true x y = x := rfl
@[simp] theorem bc_false {α : Type _} (x y : α) : bc false x y = y := rfl
@[simp] theorem ob_none {α β : Type _} (f : α → Option β) : ob none f = none := rfl
@[simp] theorem ob_some {α β : Type _} (x : α) (f : α → Option β) : ob (some x) f = f x := rfl
@[simp] theorem nth_nil {α : Type _} (n : Nat) : nth ([] : List α) n = none := rfl
@[simp] theorem nth_zero {α : Type _} (x : α) (l : List α) : nth (x :: l) 0 = some x := rfl
@[simp] theorem nth_succ {α : Type _} (x : α) (l : List α) (n : Nat) : nth (x :: l) (n + 1) = nth l n := rfl
@[simp] theorem setNth_nil {α : Type _} (n : Nat) (y : α) : setNth ([] : List α) n y = [] := rfl
@[simp] theorem setNth_zero {α : Type _} (x y : α) (l : List α) : setNth (x :: l) 0 y = y :: l := rfl
@[simp] theorem setNth_succ {α : Type _} (x y : α) (l : List α) (n : Nat) : setNth (x :: l) (n + 1) y = x :: setNth l n y := rfl
noncomputable def get (l : List (Nat × AV)) (t : Nat) : Option AV := List.rec none (fun p _ ih => Bool.rec ih (some p.2) (Nat.beq p.1 t)) l
noncomputable def put (l : List (Nat × AV)) (t : Nat) (v : AV) : List (Nat × AV) := List.rec [(t, v)] (fun p l ih => Bool.rec (p :: ih) ((t, v) :: l) (Nat.beq p.1 t)) l
@[simp] theorem get_nil (t : Nat) : get [] t = none := rfl
@[simp] theorem get_cons (k : Nat) (v : AV) (l : List (Nat × AV)) (t : Nat) : get ((k, v) :: l) t = bc (Nat.beq k t) (some v) (get l t) := rfl
@[simp] theorem put_nil (t : Nat) (v : AV) : put [] t v = [(t, v)] := rfl
@[simp] theorem put_cons (k : Nat) (x : AV) (l : List (Nat × AV)) (t : Nat) (v : AV) : put ((k, x) :: l) t v = bc (Nat.beq k t) ((t, v) :: l) ((k, x) :: put l t v) := rfl
noncomputable def bit (m t : Nat) : Bool := Nat.beq (Nat.land (Nat.shiftRight m t) 1) 1
noncomputable def Tm.get (T : Tm) (t : Nat) : Option AV := Bool.rec (Pm.get T.reg t) (Pm.get T.loc t) (bit T.mask t)
noncomputable def Tm.put (T : Tm) (t : Nat) (v : AV) : Tm := Bool.rec ⟨T.mask, T.loc, (t, v) :: T.reg⟩ ⟨T.mask, Pm.put T.loc t v, T.reg⟩ (bit T.mask t)
noncomputable def has : List Nat → Nat → Bool
  | [], _ => false
  | x :: l, r => bc (Nat.beq x r) true (has l r)
noncomputable def idx : List Nat → Nat → Option Nat
  | [], _ => none
  | x :: l, r => bc (Nat.beq x r) (some 0) (match idx l r with | some i => some (i + 1) | none => none)
noncomputable def numbered : Nat → List AV → List (Nat × AV)
  | _, [] => []
  | i, v :: l => (i, v) :: numbered (i + 1) l
noncomputable def writeAt : List AV → Nat → List AV → List AV
  | xs, _, [] => xs
  | xs, i, v :: vs => writeAt (setNth xs i v) (i + 1) vs

/-! ### values -/
noncomputable def AV.cells : AV → List AV
  | .agg cs => cs
  | v => [v]
noncomputable def AV.flat : AV → Bool
  | .agg _ => false
  | .tuple _ => false
  | _ => true
/-- It leads to no block of the small heap, and is one cell. -/
noncomputable def AV.pure : AV → Bool
  | .bool _ | .int _ _ | .str _ | .nilp | .nilmap | .nilFunc | .nilIface => true
  | .slice (.own _) _ _ => false
  | .slice _ _ _ => true
  | .func _ [] [] => true
  | _ => false
noncomputable def AV.freeze : AV → AV
  | .slice (.own _) n cs => .slice .none n cs
  | v => v
noncomputable def AV.freezeIn : AV → AV
  | .agg cs => .agg (cs.map AV.freeze)
  | v => v
noncomputable def AV.melt : AV → AV   -- an argument whose ownership does not go along
  | .slice (.own _) n cs => .slice .none n cs
  | .agg cs => .agg (cs.map AV.freeze)
  | v => v

noncomputable def ofCell : Value → Option AV
  | .bool b => some (.bool b)
  | .int k n => some (.int k n)
  | .string s => some (.str s.data.toList)
  | .pointer none => some .nilp
  | .slice none 0 0 => some (.slice .nil 0 [])
  | .map none => some .nilmap
  | .func (.func f) ⟨[]⟩ ⟨[]⟩ => some (.func f [] [])
  | .nilFunc => some .nilFunc
  | .nilIface => some .nilIface
  | _ => none
noncomputable def ofCells : List Value → Option (List AV)
  | [] => some []
  | v :: l => match ofCell v, ofCells l with
    | some x, some xs => some (x :: xs)
    | _, _ => none
noncomputable def ofVal : Value → Option AV
  | .agg cs => (ofCells cs.toList).map .agg
  | v => ofCell v

mutual
noncomputable def AV.refs : AV → List Nat
  | .ref r _ => [r]
  | .vslice r _ _ => [r]
  | .map r => [r]
  | .slice (.own r) _ _ => [r]
  | .func _ a b => refsL a ++ refsL b
  | .iface _ v => v.refs
  | .agg cs => refsL cs
  | .tuple vs => refsL vs
  | _ => []
noncomputable def refsL : List AV → List Nat
  | [] => []
  | v :: l => v.refs ++ refsL l
end
noncomputable def refsE : List (AV × AV) → List Nat
  | [] => []
  | (a, b) :: l => a.refs ++ (b.refs ++ refsE l)
noncomputable def ABlk.refs : ABlk → List Nat
  | .cells xs => refsL xs
  | .owner _ _ => []
  | .map es => refsE es

mutual
noncomputable def AV.ren (ρ : Nat → Option Nat) : AV → Option AV
  | .ref r o => match ρ r with | some r => some (.ref r o) | none => none
  | .vslice r o n => match ρ r with | some r => some (.vslice r o n) | none => none
  | .map r => match ρ r with | some r => some (.map r) | none => none
  | .slice (.own r) n cs => match ρ r with | some r => some (.slice (.own r) n cs) | none => none
  | .func f a b => match renL ρ a, renL ρ b with | some a, some b => some (.func f a b) | _, _ => none
  | .iface t v => match v.ren ρ with | some v => some (.iface t v) | none => none
  | .agg cs => match renL ρ cs with | some cs => some (.agg cs) | none => none
  | .tuple vs => match renL ρ vs with | some vs => some (.tuple vs) | none => none
  | v => some v
noncomputable def renL (ρ : Nat → Option Nat) : List AV → Option (List AV)
  | [] => some []
  | v :: l => match v.ren ρ, renL ρ l with | some v, some l => some (v :: l) | _, _ => none
end
noncomputable def renE (ρ : Nat → Option Nat) : List (AV × AV) → Option (List (AV × AV))
  | [] => some []
  | (a, b) :: l => match a.ren ρ, b.ren ρ, renE ρ l with | some a, some b, some l => some ((a, b) :: l) | _, _, _ => none
noncomputable def ABlk.ren (ρ : Nat → Option Nat) : ABlk → Option ABlk
  | .cells xs => match renL ρ xs with | some xs => some (.cells xs) | none => none
  | .owner n s => some (.owner n s)
  | .map es => match renE ρ es with | some es => some (.map es) | none => none
noncomputable def renT (ρ : Nat → Option Nat) : List (Nat × AV) → Option (List (Nat × AV))
  | [] => some []
  | (t, v) :: l => match v.ren ρ, renT ρ l with | some v, some l => some ((t, v) :: l) | _, _ => none
noncomputable def renD (ρ : Nat → Option Nat) : List (FuncId × List AV) → Option (List (FuncId × List AV))
  | [] => some []
  | (f, v) :: l => match renL ρ v, renD ρ l with | some v, some l => some ((f, v) :: l) | _, _ => none
/-- The blocks of a list, renamed. -/
noncomputable def pickB (ρ : Nat → Option Nat) (H : List ABlk) : List Nat → Option (List ABlk)
  | [] => some []
  | r :: L => match nth H r with
    | some b => match b.ren ρ, pickB ρ H L with | some b, some l => some (b :: l) | _, _ => none
    | none => none

noncomputable def addNew : List Nat → List Nat → List Nat
  | L, [] => L
  | L, r :: rs => addNew (bc (has L r) L (L ++ [r])) rs
/-- What can be reached. -/
noncomputable def close (H : List ABlk) : Nat → List Nat → Nat → List Nat
  | 0, L, _ => L
  | k + 1, L, i => match nth L i with
    | none => L
    | some r => match nth H r with
      | none => L
      | some b => close H k (addNew L b.refs) (i + 1)
noncomputable def upTo : Nat → List Nat
  | 0 => []
  | n + 1 => upTo n ++ [n]

/-! ### types -/
noncomputable def sizeT (P : Ty) (t : TypeId) : Option Nat := match P t with | some i => some i.size | none => none
noncomputable def bytesT (P : Ty) (t : TypeId) : Option Nat := match P t with | some i => some i.bytes | none => none
noncomputable def descT (P : Ty) (t : TypeId) : Option TypeDesc := match P t with | some i => some i.desc | none => none
noncomputable def aggT (P : Ty) (t : TypeId) : Option Bool :=
  match descT P t with | some (.struct _) => some true | some (.array _ _) => some true | some _ => some false | none => none
noncomputable def zeroT (P : Ty) (t : TypeId) : Option AV := match P t with | some i => i.zero | none => none

/-- A part of a row of cells. -/
noncomputable def partA (P : Ty) (t : TypeId) (cs : List AV) (off : Nat) : Option AV :=
  match aggT P t, sizeT P t with
  | some true, some sz => bc (Nat.ble (off + sz) cs.length) (some (.agg ((cs.drop off).take sz))) none
  | some false, some _ => nth cs off
  | _, _ => none
noncomputable def loadA (P : Ty) (H : List ABlk) (t : TypeId) : AV → Option AV
  | .ref r off => match nth H r with
    | some (.cells xs) => (partA P t xs off).map AV.freezeIn
    | _ => none
  | .eptr cs => partA P t cs 0
  | _ => none
noncomputable def storeA (P : Ty) (H : List ABlk) (t : TypeId) (v : AV) : AV → Option (List ABlk)
  | .ref r off => match nth H r, sizeT P t with
    | some (.cells xs), some sz =>
      bc (Nat.beq v.cells.length sz && Nat.ble (off + sz) xs.length && v.cells.all AV.flat) (some (setNth H r (.cells (writeAt xs off v.cells)))) none
    | _, _ => none
  | _ => none
noncomputable def fieldOff (P : Ty) (s : TypeId) (f : Nat) : Option Nat :=
  match descT P s with
  | some (.struct fs) => match fs[f]? with
    | some x => match sizeT P x.type with
      | some 0 => none
      | some _ => some x.offset
      | none => none
    | none => none
  | _ => none
noncomputable def addA (n : Nat) : AV → Option AV
  | .ref r off => some (.ref r (off + n))
  | .eptr cs => some (.eptr (cs.drop n))
  | _ => none
noncomputable def inR (i : Int) (n : Nat) : Bool := decide (0 ≤ i) && decide (i < n)
noncomputable def indexAddrA (P : Ty) (t : TypeId) (x : AV) (i : Int) : Option AV :=
  match descT P t, x with
  | some (.array n e), x => match sizeT P e with
    | some sz => bc (inR i n) (addA (i.toNat * sz) x) none
    | none => none
  | some (.slice e), .slice _ n cs => match sizeT P e with
    | some sz => bc (inR i n && Nat.ble (i.toNat * sz + 1) cs.length) (some (.eptr (cs.drop (i.toNat * sz)))) none
    | none => none
  | some (.slice e), .vslice r off n => match sizeT P e with
    | some sz => bc (inR i n) (some (.ref r (off + i.toNat * sz))) none
    | none => none
  | _, _ => none
noncomputable def indexA (P : Ty) (t : TypeId) (x : AV) (i : Int) : Option AV :=
  match descT P t, x with
  | some .string, .str s => bc (decide (0 ≤ i)) (match nth s i.toNat with | some b => some (.int .u8 b.toNat) | none => none) none
  | some (.array n e), .agg cs => match sizeT P e with
    | some sz => bc (inR i n) (partA P e cs (i.toNat * sz)) none
    | none => none
  | _, _ => none
/-- A bound of a slice expression: given, or the default; within 0 .. most. -/
noncomputable def bound (x : Option (Option AV)) (dflt most : Nat) : Option Nat :=
  match x with
  | none => bc (Nat.ble dflt most) (some dflt) none
  | some (some (.int _ i)) => bc (decide (0 ≤ i) && decide (i ≤ most)) (some i.toNat) none
  | _ => none
noncomputable def bounds2 (len : Nat) (lo hi : Option (Option AV)) : Option (Nat × Nat) := ob (bound hi len len) fun h => ob (bound lo 0 h) fun l => some (l, h)
noncomputable def bounds3 (len : Nat) (lo hi : Option (Option AV)) (m : Option AV) : Option (Nat × Nat × Nat) :=
  ob (bound (some m) 0 len) fun m => match hi with
    | some x => ob (bound (some x) 0 m) fun h => ob (bound lo 0 h) fun l => some (l, h, m)
    | none => none
noncomputable def arrSlice (sz n : Nat) (x : AV) (l h : Nat) : Option AV := match x with
  | .ref r off => bc (Nat.ble (l + 1) n) (some (.vslice r (off + l * sz) (h - l))) none
  | .eptr cs => bc (Nat.ble (h * sz) cs.length && cs.all AV.pure) (some (.slice .none (h - l) ((cs.drop (l * sz)).take ((h - l) * sz)))) none
  | _ => none
noncomputable def sliceA (P : Ty) (t : TypeId) (x : AV) (lo hi mx : Option (Option AV)) : Option AV :=
  match descT P t, x with
  | some .string, .str s => match mx with
    | none => ob (bounds2 s.length lo hi) fun p => some (.str ((s.take p.2).drop p.1))
    | some _ => none
  | some (.slice e), .slice tok n cs => ob (sizeT P e) fun sz => match mx with
    | none => ob (bounds2 n lo hi) fun p => some (.slice (match tok with | .nil => .nil | .exact => bc (Nat.beq p.2 n) .exact .none | _ => .none) (p.2 - p.1) ((cs.drop (p.1 * sz)).take ((p.2 - p.1) * sz)))
    | some m => ob (bounds3 n lo hi m) fun p => some (.slice (match tok with | .nil => .nil | _ => bc (Nat.beq p.2.1 p.2.2) .exact .none) (p.2.1 - p.1) ((cs.drop (p.1 * sz)).take ((p.2.1 - p.1) * sz)))
  | some (.slice e), .vslice r off n => ob (sizeT P e) fun sz => match mx with
    | none => ob (bounds2 n lo hi) fun p => bc (Nat.ble (p.1 + 1) n) (some (.vslice r (off + p.1 * sz) (p.2 - p.1))) none
    | some _ => none
  | some (.pointer a), x => match descT P a with
    | some (.array n e) => ob (sizeT P e) fun sz => match mx with
      | none => ob (bounds2 n lo hi) fun p => arrSlice sz n x p.1 p.2
      | some _ => none
    | _ => none
  | some (.array n e), x => ob (sizeT P e) fun sz => match mx with
    | none => ob (bounds2 n lo hi) fun p => arrSlice sz n x p.1 p.2
    | some _ => none
  | _, _ => none

/-! ### operators -/
noncomputable def intOp (op : BinOp) (k : IntKind) (a b : Int) : Option AV :=
  match op with
  | .add => some (.int k (k.wrap (a + b)))
  | .sub => some (.int k (k.wrap (a - b)))
  | .mul => some (.int k (k.wrap (a * b)))
  | .quo => bc (decide (b = 0)) none (some (.int k (k.wrap (a.tdiv b))))
  | .rem => bc (decide (b = 0)) none (some (.int k (a.tmod b)))
  | .and => some (.int k (k.wrap ((BitVec.ofInt k.bits a &&& BitVec.ofInt k.bits b).toNat : Int)))
  | .or => some (.int k (k.wrap ((BitVec.ofInt k.bits a ||| BitVec.ofInt k.bits b).toNat : Int)))
  | .xor => some (.int k (k.wrap ((BitVec.ofInt k.bits a ^^^ BitVec.ofInt k.bits b).toNat : Int)))
  | .eql => some (.bool (a == b))
  | .neq => some (.bool (a != b))
  | .lss => some (.bool (decide (a < b)))
  | .leq => some (.bool (decide (a ≤ b)))
  | .gtr => some (.bool (decide (a > b)))
  | .geq => some (.bool (decide (a ≥ b)))
  | _ => none
noncomputable def shiftOp (op : BinOp) (k : IntKind) (a b : Int) : Option AV :=
  bc (decide (b < 0)) none (match op with
    | .shl => some (.int k (k.wrap (a * 2 ^ (min b.toNat k.bits))))
    | .shr => some (.int k (a.fdiv (2 ^ (min b.toNat k.bits))))
    | _ => none)
noncomputable def strOp (op : BinOp) (a b : List UInt8) : Option AV :=
  match op with
  | .add => bc (Nat.ble (a.length + b.length) 4611686018427387904) (some (.str (a ++ b))) none
  | .eql => some (.bool (a == b))
  | .neq => some (.bool (!(a == b)))
  | _ => none
noncomputable def sameCell : AV → AV → Option Bool
  | .bool a, .bool b => some (a == b)
  | .int k a, .int k' b => bc (decide (k = k')) (some (a == b)) none
  | .str a, .str b => some (a == b)
  | _, _ => none
noncomputable def sameField : TypeDesc → AV → AV → Option Bool
  | .bool, .bool a, .bool b => some (a == b)
  | .int _, .int k a, .int k' b => bc (decide (k = k')) (some (a == b)) none
  | .string, .str a, .str b => some (a == b)
  | _, _, _ => none
noncomputable def sameFields (P : Ty) : List Field → List AV → List AV → Option Bool
  | [], [], [] => some true
  | f :: fs, x :: xs, y :: ys => match descT P f.type with
    | some d => match sameField d x y, sameFields P fs xs ys with
      | some a, some b => some (a && b)
      | _, _ => none
    | none => none
  | _, _, _ => none
/-- '==' of two values of a type that are no numbers and no texts. -/
noncomputable def eqlA (P : Ty) (t : TypeId) (cst : Bool) : AV → AV → Option Bool
  | .bool a, .bool b => match descT P t with | some .bool => some (a == b) | _ => none
  | .agg xs, .agg ys => match P t with
    | some i => match i.desc with
      | .struct fs => bc i.eqOk (sameFields P fs.toList xs ys) none
      | _ => none
    | none => none
  | .nilIface, .nilIface => match descT P t with | some (.interface _) => bc cst (some true) none | _ => none
  | .nilIface, .iface _ _ => match descT P t with | some (.interface _) => some false | _ => none
  | .iface _ _, .nilIface => match descT P t with | some (.interface _) => some false | _ => none
  | .slice .nil _ _, .slice .nil _ _ => match descT P t with | some (.slice _) => some true | _ => none
  | .slice _ _ (_ :: _), .slice .nil _ _ => match descT P t with | some (.slice _) => some false | _ => none
  | .nilFunc, .nilFunc => match descT P t with | some (.func _ _ _) => some true | _ => none
  | .func _ _ _, .nilFunc => match descT P t with | some (.func _ _ _) => some false | _ => none
  | .nilp, .nilp => match descT P t with | some (.pointer _) => some true | _ => none
  | .ref _ _, .nilp => match descT P t with | some (.pointer _) => some false | _ => none
  | _, _ => none
noncomputable def binA (P : Ty) (op : BinOp) (t : TypeId) (cst : Bool) (x y : AV) : Option AV :=
  match x, y with
  | .int k a, .int k' b => match op with
    | .shl => shiftOp .shl k a b
    | .shr => shiftOp .shr k a b
    | op => bc (decide (k = k')) (intOp op k a b) none
  | .str a, .str b => strOp op a b
  | x, y => match op with
    | .eql => match eqlA P t cst x y with | some b => some (.bool b) | none => none
    | .neq => match eqlA P t cst x y with | some b => some (.bool (!b)) | none => none
    | _ => none
noncomputable def unA (op : UnOp) : AV → Option AV
  | .int k n => match op with
    | .neg => intOp .sub k 0 n
    | .xor => intOp .xor k (if k.signed then -1 else k.max) n
    | _ => none
  | .bool b => match op with | .not => some (.bool (!b)) | _ => none
  | _ => none
noncomputable def bytesOf : List AV → Option (List UInt8)
  | [] => some []
  | .int .u8 n :: l => match bytesOf l with | some bs => some (UInt8.ofNat n.toNat :: bs) | none => none
  | _ :: _ => none
noncomputable def toCells (s : List UInt8) : List AV := s.map fun b => .int .u8 b.toNat
noncomputable def convertA (P : Ty) (src dst : TypeId) (H : List ABlk) (x : AV) : Option (AV × List ABlk) :=
  match descT P src, descT P dst, x with
  | some _, some (.int k), .int _ n => some (.int k (k.wrap n), H)
  | some _, some .string, .str s => some (.str s, H)
  | some (.int _), some .string, .int _ n => bc (decide (0 ≤ n) && decide (n < 128)) (some (.str [UInt8.ofNat n.toNat], H)) none
  | some .string, some (.slice e), .str s => match descT P e, sizeT P e with
    | some (.int .u8), some 1 => some (.vslice H.length 0 s.length, H ++ [.cells (toCells s)])
    | _, _ => none
  | some (.slice e), some .string, .slice _ n cs => match descT P e with
    | some (.int .u8) => bc (Nat.beq n cs.length) (match bytesOf cs with | some s => some (.str s, H) | none => none) none
    | _ => none
  | some (.slice e), some .string, .vslice r off n => match descT P e, nth H r with
    | some (.int .u8), some (.cells xs) => bc (Nat.ble (off + n) xs.length) (match bytesOf ((xs.drop off).take n) with | some s => some (.str s, H) | none => none) none
    | _, _ => none
  | _, _, _ => none
noncomputable def lenA (P : Ty) (H : List ABlk) (t : TypeId) (x : AV) : Option AV :=
  match descT P t, x with
  | some .string, .str s => some (.int .i64 s.length)
  | some (.slice _), .slice _ n _ => some (.int .i64 n)
  | some (.slice _), .vslice _ _ n => some (.int .i64 n)
  | some (.array n _), _ => some (.int .i64 n)
  | some (.pointer a), _ => match descT P a with | some (.array n _) => some (.int .i64 n) | _ => none
  | some (.map _ _), .nilmap => some (.int .i64 0)
  | some (.map _ _), .map r => match nth H r with | some (.map es) => some (.int .i64 es.length) | _ => none
  | _, _ => none
noncomputable def minmaxFrom (big : Bool) (k : IntKind) (a : Int) : List AV → Option AV
  | [] => some (.int k a)
  | .int k' b :: rest => bc (decide (k = k')) (minmaxFrom big k (bc big (if b > a then b else a) (if b < a then b else a)) rest) none
  | _ => none
noncomputable def minmax (big : Bool) : List AV → Option AV
  | .int k a :: rest => minmaxFrom big k a rest
  | _ => none

/-- What is put behind a slice. -/
noncomputable def moreOf (H : List ABlk) (sz : Nat) : AV → Option (Nat × List AV)
  | .slice _ k cs => some (k, cs)
  | .str s => bc (Nat.beq sz 1) (some (s.length, toCells s)) none
  | .vslice r off k => match nth H r with
    | some (.cells xs) => bc (Nat.ble (off + k * sz) xs.length) (some (k, (xs.drop off).take (k * sz))) none
    | _ => none
  | _ => none
abbrev OpR' := Option (AV × List ABlk)
noncomputable def seqT (P : Ty) (t : TypeId) : Bool := match descT P t with
  | some (.slice _) => true
  | some .string => true
  | _ => false
/-- A slice grown by some cells: its owner's, or a new one's. -/
noncomputable def growA (H : List ABlk) (sz : Nat) (s : AV) (tok : Tok) (n : Nat) (cs : List AV) (k : Nat) (ys : List AV) : OpR' :=
  bc (Nat.beq k 0) (some (s, H)) (match tok with
    | .none => none
    | .own r => match nth H r with
      | some (.owner m z) => bc (Nat.beq m n && Nat.beq z sz) (some (.slice (.own r) (n + k) (cs ++ ys), setNth H r (.owner (n + k) sz))) none
      | _ => none
    | _ => some (.slice (.own H.length) (n + k) (cs ++ ys), H ++ [.owner (n + k) sz]))
noncomputable def appendA (P : Ty) (H : List ABlk) (t1 t2 : TypeId) (s x : AV) : OpR' :=
  match descT P t1, s with
  | some (.slice e), .slice tok n cs => ob (sizeT P e) fun sz => ob (bytesT P e) fun by_ => ob (zeroT P e) fun z => ob (moreOf H sz x) fun p =>
      bc (seqT P t2 && Nat.ble 1 sz && Nat.beq z.cells.length sz && Nat.beq cs.length (n * sz) && Nat.beq p.2.length (p.1 * sz) && Nat.ble ((n + p.1) * (by_ + 1)) 35184372088832 && (p.2.map AV.freeze).all AV.pure)
        (growA H sz s tok n cs p.1 (p.2.map AV.freeze)) none
  | _, _ => none

/-! ### maps -/
noncomputable def keyOk (P : Ty) (t : TypeId) : AV → Bool
  | .bool _ => match descT P t with | some .bool => true | _ => false
  | .int k _ => match descT P t with | some (.int k') => decide (k = k') | _ => false
  | .str _ => match descT P t with | some .string => true | _ => false
  | _ => false
noncomputable def findA (k : AV) : List (AV × AV) → Option (Option AV)
  | [] => some none
  | (x, v) :: l => match sameCell k x with
    | some true => some (some v)
    | some false => findA k l
    | none => none
noncomputable def updateA (k v : AV) : List (AV × AV) → Option (List (AV × AV))
  | [] => some [(k, v)]
  | (x, u) :: l => match sameCell k x with
    | some true => some ((k, v) :: l)
    | some false => match updateA k v l with | some l => some ((x, u) :: l) | none => none
    | none => none
noncomputable def lookupA (P : Ty) (H : List ABlk) (t : TypeId) (m k : AV) (ok : Bool) : Option AV :=
  match descT P t with
  | some (.map kt e) => bc (keyOk P kt k) (match (match m with
      | .nilmap => some none
      | .map r => match nth H r with | some (.map es) => findA k es | _ => none
      | _ => none) with
    | some (some v) => some (bc ok (.tuple [v, .bool true]) v)
    | some none => match zeroT P e with | some z => some (bc ok (.tuple [z, .bool false]) z) | none => none
    | none => none) none
  | _ => none
noncomputable def mapUpdateA (P : Ty) (H : List ABlk) (t : TypeId) (m k v : AV) : Option (List ABlk) :=
  match descT P t, m with
  | some (.map kt _), .map r => match nth H r with
    | some (.map es) => bc (keyOk P kt k) (match updateA k (v.freeze.freezeIn) es with | some es => some (setNth H r (.map es)) | none => none) none
    | _ => none
  | _, _ => none

/-! ### composites -/
noncomputable def fillA (place : Nat → Option (Nat × Nat)) : List AV → List (Nat × AV) → Option (List AV)
  | cells, [] => some cells
  | cells, (i, v) :: rest => match place i with
    | none => none
    | some (off, sz) => bc (Nat.beq v.cells.length sz && Nat.ble (off + sz) cells.length) (fillA place (writeAt cells off v.cells) rest) none
noncomputable def placesA (P : Ty) (fs : Array Field) (i : Nat) : Option (Nat × Nat) :=
  match fs[i]? with
  | some f => match sizeT P f.type with | some s => some (f.offset, s) | none => none
  | none => none
noncomputable def buildA (P : Ty) (t : TypeId) (parts : List (Nat × AV)) : Option AV :=
  match zeroT P t, descT P t with
  | some z, some (.struct fs) => bc (fs.toList.all fun f => (sizeT P f.type).isSome) (match fillA (placesA P fs) z.cells parts with | some cs => some (.agg (cs.map AV.freeze)) | none => none) none
  | some z, some (.array _ e) => match sizeT P e with
    | some sz => match fillA (fun i => some (i * sz, sz)) z.cells parts with | some cs => some (.agg (cs.map AV.freeze)) | none => none
    | none => none
  | _, _ => none
noncomputable def rep (n : Nat) (l : List AV) : List AV := match n with | 0 => [] | n + 1 => l ++ rep n l
noncomputable def buildSliceA (P : Ty) (t : TypeId) (len : Nat) (parts : List (Nat × AV)) : Option AV :=
  match descT P t with
  | some (.slice e) => match sizeT P e, zeroT P e with
    | some sz, some z => bc (Nat.beq z.cells.length sz && Nat.ble (len * sz) 65536 && !Nat.beq sz 0)
        (match fillA (fun i => some (i * sz, sz)) (rep len z.cells) parts with
          | some cs => bc ((cs.map AV.freeze).all AV.pure) (some (.slice .exact len (cs.map AV.freeze))) none
          | none => none) none
    | _, _ => none
  | _ => none

/-! ### operations that are no calls, panics or defers -/
noncomputable def parts (ρ : Operand → Option AV) (l : List (Nat × Operand)) : Option (List (Nat × AV)) :=
  List.rec (some []) (fun p _ ih => ob (ρ p.2) fun v => ob ih fun l => some ((p.1, v) :: l)) l
noncomputable def vals (ρ : Operand → Option AV) (l : List Operand) : Option (List AV) :=
  List.rec (some []) (fun x _ ih => ob (ρ x) fun v => ob ih fun l => some (v :: l)) l
noncomputable def optV (ρ : Operand → Option AV) : Option Operand → Option (Option AV)
  | none => none
  | some x => some (ρ x)
noncomputable def isCst : Operand → Bool
  | .const _ => true
  | _ => false
abbrev OpR := Option (AV × List ABlk)
noncomputable def okV (H : List ABlk) (x : Option AV) : OpR := ob x fun x => some (x, H)
noncomputable def okH (x : Option (List ABlk)) : OpR := ob x fun H => some (undefA, H)
abbrev Rho := Operand → Option AV
noncomputable def oPick (ρ : Rho) (H : List ABlk) (c a b : Operand) : OpR := match ρ c with | some (.bool t) => okV H (bc t (ρ a) (ρ b)) | _ => none
noncomputable def oAlloc (P : Ty) (H : List ABlk) (e : TypeId) : OpR := match zeroT P e with | some z => some (.ref H.length 0, H ++ [.cells z.cells]) | none => none
noncomputable def oBox (ρ : Rho) (H : List ABlk) (x : Operand) : OpR := match ρ x with | some x => some (.ref H.length 0, H ++ [.cells x.cells]) | none => none
noncomputable def oBuild (P : Ty) (ρ : Rho) (H : List ABlk) (t : TypeId) (ps : Array (Nat × Operand)) : OpR := match parts ρ ps.toList with | some ps => okV H (buildA P t ps) | none => none
noncomputable def oBuildSlice (P : Ty) (ρ : Rho) (H : List ABlk) (t : TypeId) (n : Nat) (ps : Array (Nat × Operand)) : OpR := match parts ρ ps.toList with | some ps => okV H (buildSliceA P t n ps) | none => none
noncomputable def oLoad (P : Ty) (ρ : Rho) (H : List ABlk) (t : TypeId) (a : Operand) : OpR := match ρ a with | some a => okV H (loadA P H t a) | none => none
noncomputable def oStore (P : Ty) (ρ : Rho) (H : List ABlk) (t : TypeId) (a x : Operand) : OpR := match ρ a, ρ x with | some a, some x => okH (storeA P H t x a) | _, _ => none
noncomputable def oNil (ρ : Rho) (H : List ABlk) (x : Operand) : OpR := match ρ x with
    | some (.ref r o) => some (.ref r o, H)
    | some (.eptr cs) => some (.eptr cs, H)
    | some (.func f a b) => some (.func f a b, H)
    | _ => none
noncomputable def oBin (P : Ty) (ρ : Rho) (H : List ABlk) (op : BinOp) (t : TypeId) (x y : Operand) : OpR := match ρ x, ρ y with | some a, some b => okV H (binA P op t (isCst x || isCst y) a b) | _, _ => none
noncomputable def oUn (ρ : Rho) (H : List ABlk) (op : UnOp) (x : Operand) : OpR := match ρ x with | some a => okV H (unA op a) | none => none
noncomputable def oConv (P : Ty) (ρ : Rho) (H : List ABlk) (s d : TypeId) (x : Operand) : OpR := match ρ x with | some x => convertA P s d H x | none => none
noncomputable def oIface (P : Ty) (ρ : Rho) (H : List ABlk) (t : TypeId) (x : Operand) : OpR := match ρ x, descT P t with
    | some x, some d => (match d with | .interface _ => none | _ => some (.iface t x, H))
    | _, _ => none
noncomputable def oFunc (ρ : Rho) (H : List ABlk) (fn : Fn) (first caps : Array Operand) : OpR := match fn with
    | .func f => match vals ρ first.toList, vals ρ caps.toList with | some a, some b => some (.func f a b, H) | _, _ => none
    | _ => none
noncomputable def oMap (H : List ABlk) (r : Option Operand) : OpR := match r with
    | none => some (.map H.length, H ++ [.map []])
    | some _ => none
noncomputable def oSlice (P : Ty) (ρ : Rho) (H : List ABlk) (t : TypeId) (x : Operand) (lo hi mx : Option Operand) : OpR := match ρ x with | some x => okV H (sliceA P t x (optV ρ lo) (optV ρ hi) (optV ρ mx)) | none => none
noncomputable def oFieldAddr (P : Ty) (ρ : Rho) (H : List ABlk) (s : TypeId) (x : Operand) (f : Nat) : OpR := match ρ x, fieldOff P s f with | some x, some o => okV H (addA o x) | _, _ => none
noncomputable def oField (P : Ty) (ρ : Rho) (H : List ABlk) (t : TypeId) (x : Operand) (f : Nat) : OpR := match ρ x, descT P t with
    | some (.agg cs), some (.struct fs) => match fs[f]? with | some fd => okV H (partA P fd.type cs fd.offset) | none => none
    | _, _ => none
noncomputable def oIndexAddr (P : Ty) (ρ : Rho) (H : List ABlk) (t : TypeId) (x i : Operand) : OpR := match ρ x, ρ i with | some x, some (.int _ i) => okV H (indexAddrA P t x i) | _, _ => none
noncomputable def oIndex (P : Ty) (ρ : Rho) (H : List ABlk) (t : TypeId) (x i : Operand) : OpR := match ρ x, ρ i with | some x, some (.int _ i) => okV H (indexA P t x i) | _, _ => none
noncomputable def oLookup (P : Ty) (ρ : Rho) (H : List ABlk) (t : TypeId) (m k : Operand) (ok : Bool) : OpR := match ρ m, ρ k with | some m, some k => okV H (lookupA P H t m k ok) | _, _ => none
noncomputable def oUpdate (P : Ty) (ρ : Rho) (H : List ABlk) (t : TypeId) (m k x : Operand) : OpR := match ρ m, ρ k, ρ x with
    | some m, some k, some x => okH (mapUpdateA P H t m k x)
    | _, _, _ => none
noncomputable def oAssert (P : Ty) (ρ : Rho) (H : List ABlk) (x : Operand) (t : TypeId) (ok : Bool) : OpR := match ρ x, descT P t with
    | some (.iface u w), some d => (match d with | .interface _ => none | _ => bc (Nat.beq u t) (some (bc ok (.tuple [w, .bool true]) w, H)) none)
    | _, _ => none
noncomputable def oExtract (ρ : Rho) (H : List ABlk) (t : Operand) (i : Nat) : OpR := match ρ t with | some (.tuple vs) => okV H (nth vs i) | _ => none
noncomputable def oLen (P : Ty) (H : List ABlk) (ts : List TypeId) (as : List AV) : OpR := match ts, as with | t :: _, x :: _ => okV H (lenA P H t x) | _, _ => none
noncomputable def oAppend (P : Ty) (H : List ABlk) (ts : List TypeId) (as : List AV) : OpR := match ts, as with | [t1, t2], [s, x] => appendA P H t1 t2 s x | _, _ => none
noncomputable def oBuiltin (P : Ty) (H : List ABlk) (b : Builtin) (ts : List TypeId) (as : Option (List AV)) : OpR := match as with
    | none => none
    | some as => match b with
        | .len => oLen P H ts as
        | .min => okV H (minmax false as)
        | .max => okV H (minmax true as)
        | .append => oAppend P H ts as
        | _ => none
noncomputable def oCall (P : Ty) (ρ : Rho) (H : List ABlk) (c : Call) : OpR := match c.callee with
    | .builtin b => oBuiltin P H b c.argTypes.toList (vals ρ c.args.toList)
    | _ => none
/-! ### the run -/
noncomputable def evTmp (t : Tmp) (_ : Env) (T : Tm) : Option AV := T.get t
noncomputable def evConst (v : Value) (_ : Env) (_ : Tm) : Option AV := ofVal v
noncomputable def evGlobal (g : Nat) (E : Env) (_ : Tm) : Option AV := ob (E.glob g) fun cs => some (.eptr cs)
noncomputable def evFunc (f : FuncId) (_ : Env) (_ : Tm) : Option AV := some (.func f [] [])
noncomputable def ev (E : Env) (T : Tm) (x : Operand) : Option AV := Operand.rec (motive := fun _ => Env → Tm → Option AV) evTmp evConst evGlobal evFunc x E T

abbrev CallT := FuncId → List AV → List ABlk → Option (End × List ABlk)

noncomputable def End.val (e : End) : AV := End.rec (fun v => v) (fun v => v) e
noncomputable def End.withVal (e : End) (v : AV) : End := End.rec (fun _ => .ret v) (fun _ => .panic v) e
noncomputable def backR (n : Nat) (L L1 : List Nat) (i : Nat) : Option Nat := match idx L1 i with
  | none => none
  | some j => match nth L j with
    | some r => some r
    | none => some (n + (j - L.length))
noncomputable def putBack : List ABlk → List Nat → List ABlk → List ABlk
  | H, r :: L, b :: bs => putBack (setNth H r b) L bs
  | H, _, _ => H
noncomputable def callBack (H : List ABlk) (L : List Nat) (r : End × List ABlk) : Option (End × List ABlk) :=
  let L1 := close r.2 (r.2.length + 1) (addNew (upTo L.length) r.1.val.refs) 0
  ob (r.1.val.ren (backR H.length L L1)) fun v => ob (pickB (backR H.length L L1) r.2 L1) fun bs =>
    some (r.1.withVal v, putBack H L (bs.take L.length) ++ bs.drop L.length)
/-- A call with the blocks alone that its arguments lead to. -/
noncomputable def callAt (call : CallT) (f : FuncId) (args : List AV) (H : List ABlk) : Option (End × List ABlk) :=
  let L := close H (H.length + 1) (addNew [] (refsL args)) 0
  ob (renL (idx L) args) fun args' => ob (pickB (idx L) H L) fun H0 => ob (call f args' H0) fun r => callBack H L r

noncomputable def wantedG (ops : Array Oper) (T : Tm) (j : Nat) (want : Bool) : Option Bool := match nth ops.toList j with
  | none => some false
  | some p => match p.dst with
    | none => some false
    | some d => match T.get d with
      | some (.bool b) => some (b == want)
      | some (.tuple _) => some false
      | _ => none
noncomputable def wantedA (ops : Array Oper) (T : Tm) (o : Oper) : Option Bool := Option.rec (some true) (fun g => wantedG ops T g.1 g.2) o.guard

noncomputable def St.put (st : St) (dst : Option Tmp) (v : AV) (H : List ABlk) : Option St :=
  Option.rec (some ⟨st.tm, H, st.n, st.defers⟩) (fun d => Bool.rec none (some ⟨st.tm.put d v, H, st.n, st.defers⟩) (Nat.ble (d + 1) st.n)) dst

abbrev StR := Option (Ex × St)
noncomputable def goOn (st : Option St) : StR := ob st fun st => some (.normal, st)
noncomputable def sDone (st : St) (dst : Option Tmp) (r : OpR) : StR := ob r fun p => goOn (st.put dst p.1 p.2)
noncomputable def sPanic (st : St) (v : Option AV) : StR := match v with
  | some (.iface t v) => some (.panic (.iface t v), st)
  | _ => none
noncomputable def sDefer (st : St) (dst : Option Tmp) (f : Option AV) (as : Option (List AV)) : StR := match f, as with
  | some (.func f first caps), some as => goOn ({ st with defers := (f, first ++ as ++ caps) :: st.defers }.put dst undefA st.heap)
  | _, _ => none
noncomputable def sBack (st : St) (dst : Option Tmp) (r : Option (End × List ABlk)) : StR := match r with
  | some (.ret v, H) => goOn (st.put dst v H)
  | some (.panic v, H) => some (.panic v, { st with heap := H })
  | none => none
noncomputable def sCall (E : Env) (call : CallT) (st : St) (dst : Option Tmp) (f : Option AV) (as : Option (List AV)) : StR := match f, as with
  | some (.func f first caps), some as =>
    sBack st dst (callAt call f (bc (E.owns f) (first ++ as ++ caps) ((first ++ as ++ caps).map AV.melt)) st.heap)
  | _, _ => none
noncomputable def stepC (E : Env) (call : CallT) (dst : Option Tmp) (st : St) (c : Call) : StR := match c.callee with
  | .value f => sCall E call st dst (ev E st.tm f) (vals (ev E st.tm) c.args.toList)
  | .builtin b => sDone st dst (oBuiltin E.ty st.heap b c.argTypes.toList (vals (ev E st.tm) c.args.toList))
  | _ => none
noncomputable def stepD (E : Env) (dst : Option Tmp) (st : St) (c : Call) : StR := match c.callee with
  | .value f => sDefer st dst (ev E st.tm f) (vals (ev E st.tm) c.args.toList)
  | _ => none
set_option linter.unusedVariables false in
noncomputable def kMove (x : Operand) (E : Env) (call : CallT) (dst : Option Tmp) (st : St) : StR := sDone st dst (okV st.heap (ev E st.tm x))
set_option linter.unusedVariables false in
noncomputable def kPick (c a b : Operand) (E : Env) (call : CallT) (dst : Option Tmp) (st : St) : StR := sDone st dst (oPick (ev E st.tm) st.heap c a b)
set_option linter.unusedVariables false in
noncomputable def kAlloc (e : TypeId) (E : Env) (call : CallT) (dst : Option Tmp) (st : St) : StR := sDone st dst (oAlloc E.ty st.heap e)
set_option linter.unusedVariables false in
noncomputable def kBox (_ : TypeId) (x : Operand) (E : Env) (call : CallT) (dst : Option Tmp) (st : St) : StR := sDone st dst (oBox (ev E st.tm) st.heap x)
set_option linter.unusedVariables false in
noncomputable def kBuild (t : TypeId) (ps : Array (Nat × Operand)) (E : Env) (call : CallT) (dst : Option Tmp) (st : St) : StR := sDone st dst (oBuild E.ty (ev E st.tm) st.heap t ps)
set_option linter.unusedVariables false in
noncomputable def kBuildSlice (t : TypeId) (n : Nat) (ps : Array (Nat × Operand)) (E : Env) (call : CallT) (dst : Option Tmp) (st : St) : StR := sDone st dst (oBuildSlice E.ty (ev E st.tm) st.heap t n ps)
set_option linter.unusedVariables false in
noncomputable def kUpdate (t : TypeId) (m k x : Operand) (E : Env) (call : CallT) (dst : Option Tmp) (st : St) : StR := sDone st dst (oUpdate E.ty (ev E st.tm) st.heap t m k x)
set_option linter.unusedVariables false in
noncomputable def kLoad (t : TypeId) (a : Operand) (E : Env) (call : CallT) (dst : Option Tmp) (st : St) : StR := sDone st dst (oLoad E.ty (ev E st.tm) st.heap t a)
set_option linter.unusedVariables false in
noncomputable def kStore (t : TypeId) (a x : Operand) (E : Env) (call : CallT) (dst : Option Tmp) (st : St) : StR := sDone st dst (oStore E.ty (ev E st.tm) st.heap t a x)
set_option linter.unusedVariables false in
noncomputable def kNo1 (_ : Nat) (E : Env) (call : CallT) (dst : Option Tmp) (st : St) : StR := none
set_option linter.unusedVariables false in
noncomputable def kNil (x : Operand) (E : Env) (call : CallT) (dst : Option Tmp) (st : St) : StR := sDone st dst (oNil (ev E st.tm) st.heap x)
set_option linter.unusedVariables false in
noncomputable def kBin (op : BinOp) (t : TypeId) (x y : Operand) (_ : TypeId) (E : Env) (call : CallT) (dst : Option Tmp) (st : St) : StR := sDone st dst (oBin E.ty (ev E st.tm) st.heap op t x y)
set_option linter.unusedVariables false in
noncomputable def kUn (op : UnOp) (_ : TypeId) (x : Operand) (E : Env) (call : CallT) (dst : Option Tmp) (st : St) : StR := sDone st dst (oUn (ev E st.tm) st.heap op x)
set_option linter.unusedVariables false in
noncomputable def kConv (s d : TypeId) (x : Operand) (E : Env) (call : CallT) (dst : Option Tmp) (st : St) : StR := sDone st dst (oConv E.ty (ev E st.tm) st.heap s d x)
set_option linter.unusedVariables false in
noncomputable def kNoTO (_ : TypeId) (_ : Operand) (E : Env) (call : CallT) (dst : Option Tmp) (st : St) : StR := none
set_option linter.unusedVariables false in
noncomputable def kIface (t : TypeId) (x : Operand) (E : Env) (call : CallT) (dst : Option Tmp) (st : St) : StR := sDone st dst (oIface E.ty (ev E st.tm) st.heap t x)
set_option linter.unusedVariables false in
noncomputable def kFunc (fn : Fn) (first caps : Array Operand) (E : Env) (call : CallT) (dst : Option Tmp) (st : St) : StR := sDone st dst (oFunc (ev E st.tm) st.heap fn first caps)
set_option linter.unusedVariables false in
noncomputable def kMap (_ : TypeId) (r : Option Operand) (E : Env) (call : CallT) (dst : Option Tmp) (st : St) : StR := sDone st dst (oMap st.heap r)
set_option linter.unusedVariables false in
noncomputable def kNoTOO (_ : TypeId) (_ _ : Operand) (E : Env) (call : CallT) (dst : Option Tmp) (st : St) : StR := none
set_option linter.unusedVariables false in
noncomputable def kSlice (t : TypeId) (x : Operand) (lo hi mx : Option Operand) (E : Env) (call : CallT) (dst : Option Tmp) (st : St) : StR := sDone st dst (oSlice E.ty (ev E st.tm) st.heap t x lo hi mx)
set_option linter.unusedVariables false in
noncomputable def kFieldAddr (s : TypeId) (x : Operand) (f : Nat) (E : Env) (call : CallT) (dst : Option Tmp) (st : St) : StR := sDone st dst (oFieldAddr E.ty (ev E st.tm) st.heap s x f)
set_option linter.unusedVariables false in
noncomputable def kField (t : TypeId) (x : Operand) (f : Nat) (E : Env) (call : CallT) (dst : Option Tmp) (st : St) : StR := sDone st dst (oField E.ty (ev E st.tm) st.heap t x f)
set_option linter.unusedVariables false in
noncomputable def kIndexAddr (t : TypeId) (x i : Operand) (E : Env) (call : CallT) (dst : Option Tmp) (st : St) : StR := sDone st dst (oIndexAddr E.ty (ev E st.tm) st.heap t x i)
set_option linter.unusedVariables false in
noncomputable def kIndex (t : TypeId) (x i : Operand) (E : Env) (call : CallT) (dst : Option Tmp) (st : St) : StR := sDone st dst (oIndex E.ty (ev E st.tm) st.heap t x i)
set_option linter.unusedVariables false in
noncomputable def kLookup (t : TypeId) (m k : Operand) (ok : Bool) (E : Env) (call : CallT) (dst : Option Tmp) (st : St) : StR := sDone st dst (oLookup E.ty (ev E st.tm) st.heap t m k ok)
set_option linter.unusedVariables false in
noncomputable def kNoTOOO (_ : TypeId) (_ _ _ : Operand) (E : Env) (call : CallT) (dst : Option Tmp) (st : St) : StR := none
set_option linter.unusedVariables false in
noncomputable def kNoOB (_ : Operand) (_ : Bool) (E : Env) (call : CallT) (dst : Option Tmp) (st : St) : StR := none
set_option linter.unusedVariables false in
noncomputable def kNoO (_ : Operand) (E : Env) (call : CallT) (dst : Option Tmp) (st : St) : StR := none
set_option linter.unusedVariables false in
noncomputable def kAssert (x : Operand) (_ t : TypeId) (ok : Bool) (E : Env) (call : CallT) (dst : Option Tmp) (st : St) : StR := sDone st dst (oAssert E.ty (ev E st.tm) st.heap x t ok)
set_option linter.unusedVariables false in
noncomputable def kExtract (t : Operand) (i : Nat) (E : Env) (call : CallT) (dst : Option Tmp) (st : St) : StR := sDone st dst (oExtract (ev E st.tm) st.heap t i)
set_option linter.unusedVariables false in
noncomputable def kCall (c : Call) (E : Env) (call : CallT) (dst : Option Tmp) (st : St) : StR := stepC E call dst st c
set_option linter.unusedVariables false in
noncomputable def kGo (_ : Call) (E : Env) (call : CallT) (dst : Option Tmp) (st : St) : StR := none
set_option linter.unusedVariables false in
noncomputable def kDefer (c : Call) (E : Env) (call : CallT) (dst : Option Tmp) (st : St) : StR := stepD E dst st c
set_option linter.unusedVariables false in
noncomputable def kPanic (x : Operand) (E : Env) (call : CallT) (dst : Option Tmp) (st : St) : StR := sPanic st (ev E st.tm x)
set_option linter.unusedVariables false in
noncomputable def kNoOO (_ _ : Operand) (E : Env) (call : CallT) (dst : Option Tmp) (st : St) : StR := none
set_option linter.unusedVariables false in
noncomputable def kNoRecv (_ : TypeId) (_ : Operand) (_ : Bool) (E : Env) (call : CallT) (dst : Option Tmp) (st : St) : StR := none
set_option linter.unusedVariables false in
noncomputable def kNoSel (_ : Array SelectCase) (_ : Bool) (E : Env) (call : CallT) (dst : Option Tmp) (st : St) : StR := none
noncomputable def stepW (E : Env) (call : CallT) (dst : Option Tmp) (op : Op) (st : St) : StR :=
  Op.rec (motive := fun _ => Env → CallT → Option Tmp → St → StR) kMove kMove kPick kAlloc kBox kBuild kBuildSlice kUpdate kLoad kStore kNo1 kNo1 kNil kBin kUn kConv kNoTO kIface kFunc kMap kNoTO kNoTOO
    kSlice kFieldAddr kField kIndexAddr kIndex kLookup kUpdate kNoTOO kNoTOOO kNoTO kNoOB kNoO kAssert kExtract kCall kGo kDefer kPanic kNoOO kNoRecv kNoSel op E call dst st
/-- One operation. -/
noncomputable def stepA (E : Env) (call : CallT) (ops : Array Oper) (o : Oper) (st : St) : StR :=
  ob (wantedA ops st.tm o) fun w => Bool.rec (goOn (st.put o.dst undefA st.heap)) (stepW E call o.dst o.op st) w

noncomputable def isNormal (e : Ex) : Bool := Ex.rec true (fun _ => false) false (fun _ => false) e
noncomputable def thenP (k : St → StR) (p : Ex × St) : StR := Bool.rec (some p) (k p.2) (isNormal p.1)
noncomputable def thenA (r : StR) (k : St → StR) : StR := Option.rec none (thenP k) r
abbrev RunT := Env → CallT → Array Oper → St → StR
noncomputable def runNil : RunT := fun _ _ _ st => some (.normal, st)
noncomputable def runCons (o : Oper) (_ : List Oper) (ih : RunT) : RunT := fun E call ops st => thenA (stepA E call ops o st) (ih E call ops)
noncomputable def runOps (E : Env) (call : CallT) (ops : Array Oper) (l : List Oper) (st : St) : StR :=
  List.rec (motive := fun _ => RunT) runNil runCons l E call ops st

/-! ### a region that draws its order -/
inductive Kind where
  | plain
  | read (fp : List (Nat × Nat × Nat))
  | write (fp : List (Nat × Nat × Nat))
noncomputable def far : Nat := 1048576
noncomputable def allOf (L : List Nat) : List (Nat × Nat × Nat) := L.map fun r => (r, 0, far)
noncomputable def span (r off n : Nat) : Option (List (Nat × Nat × Nat)) := bc (Nat.ble (off + bc (Nat.beq n 0) 1 n) far) (some [(r, off, bc (Nat.beq n 0) 1 n)]) none
noncomputable def loadFp (P : Ty) (t : TypeId) : AV → Option (List (Nat × Nat × Nat))
  | .ref r off => ob (sizeT P t) fun sz => span r off sz
  | .eptr _ => some []
  | _ => none
noncomputable def readK (x : Option (List (Nat × Nat × Nat))) : Option Kind := ob x fun l => some (.read l)
noncomputable def writeK (x : Option (List (Nat × Nat × Nat))) : Option Kind := ob x fun l => some (.write l)
/-- The arguments of a call, as they are handed on. -/
noncomputable def handed (E : Env) (f : FuncId) (as : List AV) : List AV := bc (E.owns f) as (as.map AV.melt)
/-- What they lead to. -/
noncomputable def leads (H : List ABlk) (as : List AV) : List Nat := close H (H.length + 1) (addNew [] (refsL as)) 0
/-- Does it look at, or change, the small heap, and where? -/
noncomputable def kindOf (E : Env) (T : Tm) (H : List ABlk) (o : Oper) : Option Kind :=
  match o.op with
  | .load t a => ob (ev E T a) fun a => readK (loadFp E.ty t a)
  | .store t a _ => ob (ev E T a) fun a => writeK (loadFp E.ty t a)
  | .lookup _ m _ _ => match ev E T m with | some (.map r) => readK (span r 0 1) | some .nilmap => readK (some []) | _ => none
  | .mapUpdate _ m _ _ => match ev E T m with | some (.map r) => some (.write (allOf [r])) | _ => none
  | .insert _ m _ _ => match ev E T m with | some (.map r) => some (.write (allOf [r])) | _ => none
  | .alloc _ => some (.write [])
  | .box _ _ => some (.write [])
  | .makeMap _ _ => some (.write [])
  | .convert _ _ x => match ev E T x with
    | some (.str _) => some (.write [])
    | some (.vslice r off n) => readK (span r off n)
    | _ => some .plain
  | .call c => match c.callee with
    | .value f => match ev E T f, vals (ev E T) c.args.toList with
      | some (.func f first caps), some as => some (.write (allOf (leads H (handed E f (first ++ as ++ caps)))))
      | _, _ => none
    | .builtin b => match b with
      | .append => match vals (ev E T) (c.args.toList) with
        | some [_, .vslice _ _ _] => none
        | some _ => some (.write [])
        | none => none
      | .len => match vals (ev E T) (c.args.toList) with
        | some (.map r :: _) => ob (nth H r) fun _ => readK (span r 0 1)
        | some _ => some .plain
        | none => none
      | _ => some .plain
    | _ => none
  | .panic _ => none
  | .defer _ => none
  | _ => some .plain
noncomputable def apart1 : Nat × Nat × Nat → Nat × Nat × Nat → Bool
  | (r, o, n), (r', o', n') => !Nat.beq r r' || Nat.ble (o + n) o' || Nat.ble (o' + n') o
noncomputable def apartAll (a b : List (Nat × Nat × Nat)) : Bool := a.all fun x => b.all fun y => apart1 x y
structure Rec where
  i : Nat
  wr : Bool
  fp : List (Nat × Nat × Nat)
noncomputable def ancOf (anc : List Nat) (o : Oper) : Nat :=
  o.after.toList.foldl (fun s e => bc (Region.binds .any e) (s ||| 2 ^ e.on ||| (match nth anc e.on with | some a => a | none => 0)) s) 0
/-- May it stand anywhere that its edges let it? -/
noncomputable def freeA (recs : List Rec) (anc : Nat) (wr : Bool) (fp : List (Nat × Nat × Nat)) : Bool :=
  recs.all fun r => anc.testBit r.i || (match wr, r.wr with
    | true, true => false
    | false, false => true
    | _, _ => apartAll r.fp fp)
noncomputable def runDraw (E : Env) (call : CallT) (ops : Array Oper) : List Oper → Nat → List Nat → List Rec → St → Option (Ex × St)
  | [], _, _, _, st => some (.normal, st)
  | o :: rest, i, anc, recs, st =>
    let a := ancOf anc o
    match wantedA ops st.tm o with
    | none => none
    | some w => match bc w (kindOf E st.tm st.heap o) (some .plain) with
      | none => none
      | some k => match (match k with
          | .plain => some recs
          | .read fp => bc (freeA recs a false fp) (some (⟨i, false, fp⟩ :: recs)) none
          | .write fp => bc (freeA recs a true fp) (some (⟨i, true, fp⟩ :: recs)) none) with
        | none => none
        | some recs => match stepA E call ops o st with
          | some (.normal, st) => runDraw E call ops rest (i + 1) (anc ++ [a]) recs st
          | _ => none

/-! ### code -/
noncomputable def refsT : List (Nat × AV) → List Nat
  | [] => []
  | (_, v) :: l => v.refs ++ refsT l
noncomputable def refsD : List (FuncId × List AV) → List Nat
  | [] => []
  | (_, v) :: l => refsL v ++ refsD l
/-- At the head of a round: the slots that were there ahead of the loop; no block that nothing leads to. -/
noncomputable def trim (n0 h0 : Nat) (st : St) : Option St :=
  let T := st.tm.loc.take n0
  bc (Nat.beq st.heap.length h0) (some { st with tm := { st.tm with loc := T, reg := [] } })
    (let L := close st.heap (st.heap.length + 1) (addNew (upTo h0) (refsT T ++ refsD st.defers)) 0
     match renT (idx L) T, renD (idx L) st.defers, pickB (idx L) st.heap L with
     | some T, some D, some H => some { st with tm := { st.tm with loc := T, reg := [] }, heap := H, defers := D }
     | _, _, _ => none)
noncomputable def loopN (n0 h0 : Nat) (f : St → StR) (k : Nat) : St → StR :=
  Nat.rec (fun _ => none) (fun _ ih st => thenA (f st) fun st => ob (trim n0 h0 st) ih) k
noncomputable def leaveA (id : Nat) (e : Ex) : Ex := Ex.rec .normal (fun i => Bool.rec (.exit i) .normal (Nat.beq i id)) .ret (fun v => .panic v) e
noncomputable def runCond (v : Option AV) (a b : StR) : StR := match v with
  | some (.bool t) => bc t a b
  | _ => none
noncomputable def runRegion (E : Env) (call : CallT) (ops : Array Oper) (draw : Bool) (st : St) : StR :=
  let st : St := ⟨⟨st.tm.mask, st.tm.loc, []⟩, st.heap, st.n, st.defers⟩
  Bool.rec (runOps E call ops ops.toList st) (runDraw E call ops ops.toList 0 [] [] st) draw
abbrev CodeT := Env → CallT → Nat → St → StR
noncomputable def cSkip : CodeT := fun _ _ _ st => some (.normal, st)
noncomputable def cRegion (_ : Nat) (ops : Array Oper) (draw : Bool) : CodeT := fun E call _ st => runRegion E call ops draw st
noncomputable def cSeq (_ _ : Code) (a b : CodeT) : CodeT := fun E call lf st => thenA (a E call lf st) (b E call lf)
noncomputable def cCond (c : Operand) (_ _ : Code) (a b : CodeT) : CodeT := fun E call lf st => runCond (ev E st.tm c) (a E call lf st) (b E call lf st)
noncomputable def cBlock (id : Nat) (_ : Code) (a : CodeT) : CodeT := fun E call lf st => ob (a E call lf st) fun p => some (leaveA id p.1, p.2)
noncomputable def cLoop (_ : Code) (a : CodeT) : CodeT := fun E call lf st => loopN st.tm.loc.length st.heap.length (a E call lf) lf st
noncomputable def cExit (id : Nat) : CodeT := fun _ _ _ st => some (.exit id, st)
noncomputable def cRet : CodeT := fun _ _ _ st => some (.ret, st)
noncomputable def cNone : CodeT := fun _ _ _ _ => none
noncomputable def runCode (E : Env) (call : CallT) (lf : Nat) (c : Code) (st : St) : StR :=
  Code.rec (motive := fun _ => CodeT) cSkip cRegion cSeq cCond cBlock cLoop (fun _ _ _ _ _ _ => cNone) cExit (fun _ _ => cNone) (fun _ => cNone) (fun _ => cNone) cRet (fun _ => cNone) c E call lf st

noncomputable def resultA (P : Ty) (T : Tm) (H : List ABlk) : ResultVar → Option AV
  | .tmp t => T.get t
  | .cell a t => match T.get a with | some p => loadA P H t p | none => none
noncomputable def resultsA (P : Ty) (T : Tm) (H : List ABlk) : List ResultVar → Option (List AV)
  | [] => some []
  | r :: l => match resultA P T H r, resultsA P T H l with | some v, some l => some (v :: l) | _, _ => none
noncomputable def oneA : List AV → AV
  | [v] => v
  | vs => .tuple vs
noncomputable def runFn (E : Env) (call : CallT) (lf mask : Nat) (fn : Func) (args : List AV) (H : List ABlk) : StR :=
  match fn.body with
  | none => none
  | some c => bc (Nat.ble args.length fn.ntmps) (runCode E call lf c ⟨⟨mask, numbered 0 args, []⟩, H, fn.ntmps, []⟩) none
noncomputable def isEmptyD (l : List (FuncId × List AV)) : Bool := List.rec true (fun _ _ _ => false) l
noncomputable def finishA (E : Env) (fn : Func) (st : St) (H : List ABlk) : Option (End × List ABlk) := ob (resultsA E.ty st.tm H fn.results.toList) fun vs => some (.ret (oneA vs), H)
/-- A function that has deferred nothing when it ends. -/
noncomputable def runPlain (E : Env) (call : CallT) (lf mask : Nat) (fn : Func) (args : List AV) (H : List ABlk) : Option (End × List ABlk) :=
  match runFn E call lf mask fn args H with
  | some (.panic v, st) => bc (isEmptyD st.defers) (some (.panic v, st.heap)) none
  | some (.normal, st) => bc (isEmptyD st.defers) (finishA E fn st st.heap) none
  | some (.ret, st) => bc (isEmptyD st.defers) (finishA E fn st st.heap) none
  | _ => none
noncomputable def dcall (E : Env) (call : CallT) (lf : Nat) : CallT := fun f args H => ob (E.func f) fun fn => runPlain E call lf (E.mask f) fn args H
/-- The deferred calls. -/
noncomputable def deferA (call : CallT) : List (FuncId × List AV) → List ABlk → Option (List ABlk)
  | [], H => some H
  | (f, as) :: l, H => match callAt call f as H with
    | some (.ret _, H) => deferA call l H
    | _ => none
noncomputable def runBody (E : Env) (call : CallT) (lf mask : Nat) (fn : Func) (args : List AV) (H : List ABlk) : Option (End × List ABlk) :=
  match runFn E call lf mask fn args H with
  | some (.panic v, st) => bc (isEmptyD st.defers) (some (.panic v, st.heap)) none
  | some (.normal, st) => ob (deferA (dcall E call lf) st.defers st.heap) fun H => finishA E fn st H
  | some (.ret, st) => ob (deferA (dcall E call lf) st.defers st.heap) fun H => finishA E fn st H
  | _ => none
noncomputable def callN (E : Env) (k : Nat) : CallT :=
  Nat.rec (fun _ _ _ => none) (fun k ih f args H => Option.rec (ob (E.func f) fun fn => runBody E ih k (E.mask f) fn args H) (fun g => g args H) (E.intr f)) k
end Go.Pm
namespace Go.Pm
open Go

noncomputable def rET (v : AV) (H : List ABlk) : Option (End × List ABlk) := some (.ret v, H)
noncomputable def indexByteA : List UInt8 → UInt8 → Nat → Int
  | [], _, _ => -1
  | b :: l, c, i => bc (b == c) i (indexByteA l c (i + 1))
noncomputable def isPre : List UInt8 → List UInt8 → Bool
  | [], _ => true
  | _ :: _, [] => false
  | a :: x, b :: y => bc (a == b) (isPre x y) false
noncomputable def indexA' (t : List UInt8) : List UInt8 → Nat → Int
  | [], i => cond t.isEmpty i (-1)
  | b :: l, i => bc (isPre t (b :: l)) i (indexA' t l (i + 1))
/-- internal/stringslite.IndexByte -/
noncomputable def iIndexByte : List AV → List ABlk → Option (End × List ABlk)
  | [.str s, .int .u8 c], H => rET (.int .i64 (indexByteA s (UInt8.ofNat c.toNat) 0)) H
  | _, _ => none
/-- internal/stringslite.Index -/
noncomputable def iIndex : List AV → List ABlk → Option (End × List ABlk)
  | [.str s, .str t], H => rET (.int .i64 (indexA' t s 0)) H
  | _, _ => none
noncomputable def strsA : List AV → Option (List (List UInt8))
  | [] => some []
  | .str s :: l => ob (strsA l) fun r => some (s :: r)
  | _ => none
noncomputable def joinT (sep : List UInt8) : List (List UInt8) → List UInt8
  | [] => []
  | y :: r => sep ++ (y ++ joinT sep r)
noncomputable def joinA (sep : List UInt8) : List (List UInt8) → List UInt8
  | [] => []
  | x :: r => x ++ joinT sep r
/-- strings.Join -/
noncomputable def iJoin : List AV → List ABlk → Option (End × List ABlk)
  | [.slice _ n cs, .str sep], H => ob (strsA cs) fun xs =>
    bc (Nat.beq xs.length n && Nat.ble n 140737488355328 && Nat.ble (joinA sep xs).length 140737488355328) (rET (.str (joinA sep xs)) H) none
  | _, _ => none
noncomputable def repeatA (s : List UInt8) (n : Nat) : List UInt8 := Nat.rec [] (fun _ ih => s ++ ih) n
/-- strings.Repeat -/
noncomputable def iRepeat : List AV → List ABlk → Option (End × List ABlk)
  | [.str s, .int .i64 c], H => bc (decide (0 ≤ c) && decide (c ≤ 9223372036854775807) && Nat.ble (s.length * c.toNat) 140737488355328) (rET (.str (repeatA s c.toNat)) H) none
  | _, _ => none
/-- slices.Clone, of a slice whose elements are then written -/
noncomputable def iClone : List AV → List ABlk → Option (End × List ABlk)
  | [.slice _ n cs], H => bc (Nat.ble 1 n && Nat.ble n 1073741824 && Nat.beq cs.length (n * 2) && cs.all AV.pure) (rET (.vslice H.length 0 n) (H ++ [.cells cs])) none
  | _, _ => none
end Go.Pm
