/-
  A clean form of the walk, first part: what the operations of a function do, with the frame of temporaries told as a function from numbers to values; proved against the model's own rules.
-/
import Derived.Calls
import Derived.Tactics
import Derived.WalkKit
import Derived.KernelRfl
import Derived.Laws.Tables
import Derived.Orders
import Derived.OrdersHeld
namespace Go.Proofs.YtpolbdakhfcilaaGreatDoorEng
open Go

/-! ### the frame as a function -/
abbrev Env := Nat → Value
def upd (r : Env) (d : Nat) (v : Value) : Env := fun t => bif Nat.beq t d then v else r t
def putE (r : Env) (d : Option Nat) (v : Value) : Env := match d with
  | some d => upd r d v
  | none => r
def val (r : Env) : Operand → Value
  | .tmp t => r t
  | .const v => v
  | .global g => .pointer (some ⟨g, 0, none⟩)
  | .func f => .func (.func f) #[] #[]
theorem upd_eq (r : Env) (d : Nat) (v : Value) (t : Nat) : upd r d v t = if t = d then v else r t := by
  unfold upd
  by_cases h : t = d
  · subst h; simp
  · have h2 : Nat.beq t d = false := by
      cases e : Nat.beq t d with
      | false => rfl
      | true => exact absurd (Nat.eq_of_beq_eq_true e) h
    simp [h2, h]

/-! ### what a value holds -/
def wSome (A : Option Addr) (K : Addr → Prop) : Prop := match A with
  | some A => K A
  | none => False
def wPtr (v : Value) (K : Addr → Prop) : Prop := match v with
  | .pointer p => wSome p K
  | _ => False
def wSlice (v : Value) (K : Option Addr → Nat → Nat → Prop) : Prop := match v with
  | .slice A n c => K A n c
  | _ => False
def wStr (v : Value) (K : ByteArray → Prop) : Prop := match v with
  | .string s => K s
  | _ => False
def wBool (v : Value) (K : Bool → Prop) : Prop := match v with
  | .bool b => K b
  | _ => False
def wInt (v : Value) (K : IntKind → Int → Prop) : Prop := match v with
  | .int k n => K k n
  | _ => False
def wAgg (v : Value) (K : List Value → Prop) : Prop := match v with
  | .agg cs => K cs.toList
  | _ => False
def isNilI : Value → Bool
  | .nilIface => true
  | _ => false

/-! ### operations that look at no memory -/
def intW (op : BinOp) (k : IntKind) (a : Int) (k' : IntKind) (b : Int) (K : Value → Prop) : Prop := match op with
  | .shl => 0 ≤ b ∧ K (.int k (k.wrap (a * 2 ^ min b.toNat k.bits)))
  | .shr => 0 ≤ b ∧ K (.int k (a.fdiv (2 ^ min b.toNat k.bits)))
  | .add => if k = k' then K (.int k (k.wrap (a + b))) else False
  | .sub => if k = k' then K (.int k (k.wrap (a - b))) else False
  | .mul => if k = k' then K (.int k (k.wrap (a * b))) else False
  | .quo => if k = k' then b ≠ 0 ∧ K (.int k (k.wrap (a.tdiv b))) else False
  | .rem => if k = k' then b ≠ 0 ∧ K (.int k (a.tmod b)) else False
  | .and => if k = k' then K (.int k (k.wrap (BitVec.ofInt k.bits a &&& BitVec.ofInt k.bits b).toNat)) else False
  | .or => if k = k' then K (.int k (k.wrap (BitVec.ofInt k.bits a ||| BitVec.ofInt k.bits b).toNat)) else False
  | .xor => if k = k' then K (.int k (k.wrap (BitVec.ofInt k.bits a ^^^ BitVec.ofInt k.bits b).toNat)) else False
  | .andNot => if k = k' then K (.int k (k.wrap (BitVec.ofInt k.bits a &&& ~~~BitVec.ofInt k.bits b).toNat)) else False
  | .eql => if k = k' then K (.bool (a == b)) else False
  | .neq => if k = k' then K (.bool (a != b)) else False
  | .lss => if k = k' then K (.bool (decide (a < b))) else False
  | .leq => if k = k' then K (.bool (decide (a ≤ b))) else False
  | .gtr => if k = k' then K (.bool (decide (a > b))) else False
  | .geq => if k = k' then K (.bool (decide (a ≥ b))) else False
def strW (op : BinOp) (x y : ByteArray) (K : Value → Prop) : Prop := match op with
  | .add => ((x.size + y.size : Nat) : Int) ≤ IntKind.i64.max ∧ K (.string (x ++ y))
  | .eql => K (.bool (x.toList == y.toList))
  | .neq => K (.bool (!(x.toList == y.toList)))
  | .lss => K (.bool (Op.bytesLess x.toList y.toList))
  | .leq => K (.bool (Op.bytesLess x.toList y.toList || x.toList == y.toList))
  | .gtr => K (.bool (!(Op.bytesLess x.toList y.toList || x.toList == y.toList)))
  | .geq => K (.bool (!Op.bytesLess x.toList y.toList))
  | _ => False
def eqW (op : BinOp) (b : Bool) (K : Value → Prop) : Prop := match op with
  | .eql => K (.bool b)
  | .neq => K (.bool (!b))
  | _ => False
def isC : Operand → Bool
  | .const _ => true
  | _ => false
def kindOf (P : Program) (t : TypeId) : Nat := match P.underlying t with
  | some (.bool) => 1
  | some (.int _) => 2
  | some (.string) => 3
  | some (.pointer _) => 4
  | some (.slice _) => 5
  | some (.array ..) => 6
  | some (.map ..) => 7
  | some (.struct _) => 8
  | some (.func ..) => 9
  | some (.interface _) => 10
  | _ => 0
def leafK (k : Nat) : Bool := k == 1 || k == 2 || k == 3
def cellOfT (P : Program) (t : TypeId) : Nat := match P.info? t with
  | some i => i.size
  | none => 0
def flatF (P : Program) : Nat → List Field → Option (List Nat)
  | _, [] => some []
  | i, f :: fs => if f.name = "_" then none else if f.offset = i ∧ leafK (kindOf P f.type) = true then (match flatF P (i + 1) fs with
    | some ks => some (kindOf P f.type :: ks)
    | none => none) else none
/-- the kinds of the cells of a struct or an array whose '==' goes cell by cell -/
def flatK (P : Program) (t : TypeId) : Option (List Nat) := if P.eqGuardType P.depth t = true then none else match P.underlying t with
  | some (.struct fs) => if P.stoodInHeld t = true then none else flatF P 0 fs.toList
  | some (.array n e) => if leafK (kindOf P e) = true ∧ cellOfT P e = 1 then some (List.replicate n (kindOf P e)) else none
  | _ => none
def leafEq (k : Nat) (v u : Value) : Option Bool := match k, v, u with
  | 1, .bool a, .bool b => some (a == b)
  | 2, .int k a, .int k' b => if k = k' then some (a == b) else none
  | 3, .string a, .string b => some (a.toList == b.toList)
  | _, _, _ => none
def eqsL : List Nat → List Value → List Value → Option Bool
  | [], [], [] => some true
  | k :: ks, v :: vs, u :: us => (match leafEq k v u with
    | some a => (match eqsL ks vs us with
      | some b => some (a && b)
      | none => none)
    | none => none)
  | _, _, _ => none
def eqAggW (P : Program) (op : BinOp) (t : TypeId) (xs ys : List Value) (K : Value → Prop) : Prop := match flatK P t with
  | some ks => (match eqsL ks xs ys with
    | some b => eqW op b K
    | none => False)
  | none => False
/-- '==', '!=', the orders, the arithmetic of two values; c: is one of them the text's own word 'nil' .. -/
def compT (P : Program) (t : TypeId) : Bool := match P.info? t with
  | some i => i.comparable
  | none => false
/-- are two interface values the same? none: not told (two nils; what no cell holds by itself) -/
def ifEq (P : Program) (x y : Value) : Option Bool := match x, y with
  | .iface t v, .iface t' u => if t = t' then (if compT P t = true ∧ leafK (kindOf P t) = true then leafEq (kindOf P t) v u else none) else some false
  | .nilIface, .iface _ _ => some false
  | .iface _ _, .nilIface => some false
  | _, _ => none
def nilIW (op : BinOp) (v y : Value) (K : Value → Prop) : Prop := match y with
  | .nilIface => (v = .nilIface ∨ ∃ u z, v = .iface u z) ∧ eqW op (isNilI v) K
  | _ => False
def eqIW (P : Program) (op : BinOp) (c : Bool) (x y : Value) (K : Value → Prop) : Prop := if c = true then nilIW op x y K else ∃ b, ifEq P x y = some b ∧ eqW op b K
def binW0 (P : Program) (op : BinOp) (t : TypeId) (x y : Value) (K : Value → Prop) : Prop := match x, y with
  | .int k a, .int k' b => intW op k a k' b K
  | .string a, .string b => strW op a b K
  | .bool a, .bool b => if kindOf P t = 1 then eqW op (a == b) K else False
  | .pointer a, .pointer none => if kindOf P t = 4 then eqW op a.isNone K else False
  | .slice a _ _, .slice none _ _ => if kindOf P t = 5 then eqW op a.isNone K else False
  | .map a, .map none => if kindOf P t = 7 then eqW op a.isNone K else False
  | .agg xs, .agg ys => eqAggW P op t xs.toList ys.toList K
  | .func .., .nilFunc => if kindOf P t = 9 then eqW op false K else False
  | .nilFunc, .nilFunc => if kindOf P t = 9 then eqW op true K else False
  | _, _ => False
def binW (P : Program) (op : BinOp) (t : TypeId) (c : Bool) (x y : Value) (K : Value → Prop) : Prop := if kindOf P t = 10 then eqIW P op c x y K else binW0 P op t x y K
def elemOfT (P : Program) (t : TypeId) : TypeId := match P.underlying t with
  | some (.slice e) => e
  | some (.array _ e) => e
  | _ => 0
def lenOfT (P : Program) (t : TypeId) : Nat := match P.underlying t with
  | some (.array n _) => n
  | _ => 0
def sizeOfT (P : Program) (t : TypeId) : Nat := match P.info? t with
  | some i => i.size
  | none => 0
def fieldOfT (P : Program) (t : TypeId) (f : Nat) : Option Field := match P.underlying t with
  | some (.struct fs) => fs[f]?
  | _ => none
def isAggT (P : Program) (t : TypeId) : Bool := match P.underlying t with
  | some (.struct _) => true
  | some (.array ..) => true
  | _ => false
def hasInfo (P : Program) (t : TypeId) : Bool := (P.info? t).isSome
def addK (A : Addr) (n : Nat) : Addr := A.add n
def boundW (v : Value) (y : Nat) (K : Nat → Prop) : Prop := wInt v fun _ i => 0 ≤ i ∧ i ≤ y ∧ K i.toNat
def optW (v : Option Value) (y : Nat) (d : Nat) (K : Nat → Prop) : Prop := match v with
  | some v => boundW v y K
  | none => K d
/-- the three bounds of x[lo:hi:max] -/
def boundsW (len cap : Nat) (lo hi mx : Option Value) (K : Nat → Nat → Nat → Prop) : Prop := match mx with
  | some m => boundW m cap fun m => (match hi with
    | some h => boundW h m fun h => optW lo h 0 fun l => K l h m
    | none => False)
  | none => optW hi cap len fun h => optW lo h 0 fun l => K l h cap
def sliceW (P : Program) (t : TypeId) (x : Value) (lo hi mx : Option Value) (K : Value → Prop) : Prop := match kindOf P t with
  | 3 => if mx.isSome then False else wStr x fun s => boundsW s.size s.size lo hi none fun l h _ => K (.string (s.extract l h))
  | 5 => if hasInfo P (elemOfT P t) then wSlice x fun a len cap => boundsW len cap lo hi mx fun l h m => K (.slice (if m = l then a else a.map (fun a => addK a (l * sizeOfT P (elemOfT P t)))) (h - l) (m - l)) else False
  | 6 => if hasInfo P (elemOfT P t) then wPtr x fun a => boundsW (lenOfT P t) (lenOfT P t) lo hi mx fun l h m => K (.slice (some (if m = l then a else addK a (l * sizeOfT P (elemOfT P t)))) (h - l) (m - l)) else False
  | _ => False
def fieldW (P : Program) (t : TypeId) (x : Value) (f : Nat) (K : Value → Prop) : Prop := match fieldOfT P t f with
  | some f => wAgg x fun cs => if isAggT P f.type then (if hasInfo P f.type then K (.agg ((cs.drop f.offset).take (sizeOfT P f.type)).toArray) else False) else if kindOf P f.type = 0 then False else (match cs[f.offset]? with
    | some v => K v
    | none => False)
  | none => False
def fieldAddrW (P : Program) (t : TypeId) (x : Value) (f : Nat) (K : Value → Prop) : Prop := match fieldOfT P t f with
  | some f => if hasInfo P f.type ∧ sizeOfT P f.type ≠ 0 then wPtr x fun A => K (.pointer (some (addK A f.offset))) else False
  | none => False
def indexAddrW (P : Program) (t : TypeId) (x ix : Value) (K : Value → Prop) : Prop := match kindOf P t with
  | 5 => if hasInfo P (elemOfT P t) then wSlice x fun a n _ => wInt ix fun _ i => 0 ≤ i ∧ i < n ∧ wSome a fun A => K (.pointer (some (addK A (i.toNat * sizeOfT P (elemOfT P t))))) else False
  | 6 => if hasInfo P (elemOfT P t) then wPtr x fun A => wInt ix fun _ i => 0 ≤ i ∧ i < lenOfT P t ∧ K (.pointer (some (addK A (i.toNat * sizeOfT P (elemOfT P t))))) else False
  | _ => False
def byteAt (s : ByteArray) (i : Int) : Int := ((s.data.toList[i.toNat]?).getD 0).toNat
/-- a part of a known kind -/
def headW (z v : Value) (K : Value → Prop) : Prop := match z with
  | .int k _ => ∃ x, v = .int k x ∧ K (.int k x)
  | .bool _ => ∃ b, v = .bool b ∧ K (.bool b)
  | .string _ => ∃ s, v = .string s ∧ K (.string s)
  | .pointer _ => ∃ p, v = .pointer p ∧ K (.pointer p)
  | .slice .. => ∃ a n c, v = .slice a n c ∧ K (.slice a n c)
  | _ => K v
def zeroT (P : Program) (t : TypeId) : Value := match (P.info? t).bind (·.zero) with
  | some z => z
  | none => undef
def indexW (P : Program) (t : TypeId) (x ix : Value) (K : Value → Prop) : Prop := match kindOf P t with
  | 3 => wStr x fun s => wInt ix fun _ i => 0 ≤ i ∧ i < s.size ∧ K (.int .u8 (byteAt s i))
  | 6 => if hasInfo P (elemOfT P t) ∧ isAggT P (elemOfT P t) = false ∧ kindOf P (elemOfT P t) ≠ 0 ∧ sizeOfT P (elemOfT P t) = 1 then wAgg x fun cs => wInt ix fun _ i => 0 ≤ i ∧ i < lenOfT P t ∧ i < cs.length ∧ headW (zeroT P (elemOfT P t)) (cs[i.toNat]?.getD undef) K else False
  | _ => False
def unW (op : UnOp) (x : Value) (K : Value → Prop) : Prop := match op, x with
  | .not, .bool b => K (.bool (!b))
  | .neg, .int k n => K (.int k (k.wrap (0 - n)))
  | .xor, .int k n => K (.int k (k.wrap (BitVec.ofInt k.bits (if k.signed then -1 else k.max) ^^^ BitVec.ofInt k.bits n).toNat))
  | _, _ => False
def convW (P : Program) (s t : TypeId) (x : Value) (K : Value → Prop) : Prop := match P.underlying s, P.underlying t, x with
  | some _, some (.int k), .int _ n => K (.int k (k.wrap n))
  | some _, some .string, .string s => K (.string s)
  | _, _, _ => False
def lenW (P : Program) (t : TypeId) (x : Value) (K : Value → Prop) : Prop := match kindOf P t with
  | 3 => wStr x fun s => K (.int .i64 s.size)
  | 5 => wSlice x fun _ n _ => K (.int .i64 n)
  | 6 => K (.int .i64 (lenOfT P t))
  | _ => False
def capW (P : Program) (t : TypeId) (x : Value) (K : Value → Prop) : Prop := match kindOf P t with
  | 5 => wSlice x fun _ _ c => K (.int .i64 c)
  | _ => False
def nilW (v : Value) (K : Value → Prop) : Prop := match v with
  | .pointer p => wSome p fun A => K (.pointer (some A))
  | .func (.func f) a b => K (.func (.func f) a b)
  | .iface t w => K (.iface t w)
  | _ => False
def fillW (P : Program) (t : TypeId) (parts : List (Nat × Value)) (K : Value → Prop) : Prop := match P.built t parts with
  | some cs => K (.agg cs)
  | none => False
def firstTwo (l : List Operand) (K : Operand → Prop) : Prop := match l with
  | [x] => K x
  | _ => False
/-- Whether an operation is told by 'pureW'. -/
def isPure (P : Program) : Op → Bool
  | .move _ | .assign _ | .pick .. | .nilCheck _ | .fieldAddr .. | .indexAddr .. | .field .. | .unOp .. | .makeFunc .. | .slice .. | .extract .. => true
  | .index t .. => kindOf P t == 3 || (kindOf P t == 6 && !isAggT P (elemOfT P t))
  | .makeInterface t _ => kindOf P t != 10 && kindOf P t != 0
  | .build .. => true
  | .convert s t _ => (match P.underlying s, P.underlying t with
    | some (.int _), some (.int _) => true
    | some .string, some .string => true
    | _, _ => false)
  | .binOp _ t x y _ => (match kindOf P t with
    | 1 | 2 | 3 => true
    | 6 | 8 => (flatK P t).isSome
    | 10 => true
    | 4 | 5 | 7 | 9 => (match x, y with
      | _, .const (.pointer none) | _, .const (.slice none _ _) | _, .const (.map none) | _, .const .nilFunc | _, .const .nilIface => true
      | _, _ => false)
    | _ => false)
  | .call { callee := .builtin .len, args, argTypes } => args.size == 1 && argTypes.size == 1 && (kindOf P (argTypes.getD 0 0) == 3 || kindOf P (argTypes.getD 0 0) == 5 || kindOf P (argTypes.getD 0 0) == 6)
  | .call { callee := .builtin .cap, args, argTypes } => args.size == 1 && argTypes.size == 1 && kindOf P (argTypes.getD 0 0) == 5
  | _ => false
def pureW (P : Program) (r : Operand → Value) (op : Op) (K : Value → Prop) : Prop := match op with
  | .move x | .assign x => K (r x)
  | .pick c a b => wBool (r c) fun t => K (if t then r a else r b)
  | .nilCheck x => nilW (r x) K
  | .fieldAddr t x f => fieldAddrW P t (r x) f K
  | .indexAddr t x i => indexAddrW P t (r x) (r i) K
  | .field t x f => fieldW P t (r x) f K
  | .index t x i => indexW P t (r x) (r i) K
  | .unOp op _ x => unW op (r x) K
  | .makeFunc fn a b => K (.func fn (a.map r) (b.map r))
  | .slice t x lo hi mx => sliceW P t (r x) (lo.map r) (hi.map r) (mx.map r) K
  | .extract t i => (match r t with
    | .tuple vs => (match vs.toList[i]? with
      | some v => K v
      | none => False)
    | _ => False)
  | .makeInterface t x => K (.iface t (r x))
  | .build t parts => fillW P t (parts.toList.map fun p => (p.1, r p.2)) K
  | .convert s t x => convW P s t (r x) K
  | .binOp op t x y _ => binW P op t (isC x || isC y) (r x) (r y) K
  | .call { callee := .builtin .len, args, argTypes } => firstTwo args.toList fun x => lenW P (argTypes.getD 0 0) (r x) K
  | .call { callee := .builtin .cap, args, argTypes } => firstTwo args.toList fun x => capW P (argTypes.getD 0 0) (r x) K
  | _ => False
