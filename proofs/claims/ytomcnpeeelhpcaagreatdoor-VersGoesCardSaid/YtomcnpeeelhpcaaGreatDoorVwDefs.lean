/-
  A calculus of verification conditions over the model, by knowledge of memory: what is read and written of known blocks; locals that nobody else sees are kept as lists. Definitions alone: 'evF' makes of a function's loaded body, an annotation and a postcondition a proposition; other texts prove that it suffices.
-/
import Derived.Tactics
import Derived.Laws.Rows
namespace Go.Vw
open Go

/-- What is known of memory: of some blocks, what they hold. -/
abbrev Heap := Nat → Option Obj
def Heap.set (h : Heap) (b : Nat) (o : Obj) : Heap := fun c => if c = b then some o else h c
def Heap.le (h g : Heap) : Prop := ∀ b o, h b = some o → g b = some o

/-- A slice's value. -/
structure Sl where
  a : Option Addr
  len : Nat
  cap : Nat
/-- A string's value. -/
abbrev S (l : List UInt8) : Value := .string ⟨⟨l⟩⟩

/-- A function's value. -/
structure FnV where
  fn : Fn
  first : Array Value
  captured : Array Value
inductive Ty : Type 1 where
  | bool | int (k : IntKind) | str | ptr | slice | map | func | iface
  | st (α : Type) (cells : α → List Value) (safe : Nat)
abbrev Ty.T : Ty → Type
  | .bool => Bool | .int _ => Int | .str => List UInt8 | .ptr => Option Addr | .slice => Sl | .map => Option Nat
  | .func => FnV | .iface => Option (TypeId × Value) | .st α _ _ => α
abbrev ifaceV : Option (TypeId × Value) → Value
  | none => .nilIface
  | some (t, v) => .iface t v
abbrev Ty.v : (t : Ty) → t.T → Value
  | .bool, b => .bool b
  | .int k, n => .int k n
  | .str, l => S l
  | .ptr, p => .pointer p
  | .slice, s => .slice s.a s.len s.cap
  | .map, m => .map m
  | .func, f => .func f.fn f.first f.captured
  | .iface, f => ifaceV f
  | .st _ c _, x => .agg ⟨c x⟩
/-- The cells of a value. -/
abbrev cellsL : Value → List Value
  | .agg c => c.toList
  | v => [v]
def Ty.isSt : Ty → Bool
  | .st _ _ _ => true
  | _ => false

def rd (h : Heap) (a : Addr) : Option Value :=
  match h a.block with
  | some (.cells c _ _) => if a.spot.isSome then none else c[a.off]?
  | _ => none
def rdn (h : Heap) (a : Addr) (n : Nat) : Option (List Value) :=
  match h a.block with
  | some (.cells c _ _) => if a.spot.isSome then none else if a.off + n ≤ c.size then some ((c.toList.drop a.off).take n) else none
  | _ => none
def splice (c : List Value) (o : Nat) (vs : List Value) : List Value := c.take o ++ vs ++ c.drop (o + vs.length)
def wr (h : Heap) (a : Addr) (vs : List Value) : Option Heap :=
  match h a.block with
  | some (.cells c e fr) => if a.spot.isSome then none else if a.off + vs.length ≤ c.size ∧ (fr.2 ≤ fr.1 ∨ fr.2 ≤ a.off ∨ a.off + vs.length ≤ fr.1) then some (h.set a.block (.cells ⟨splice c.toList a.off vs⟩ e fr)) else none
  | _ => none
/-- A part of a list, where it lies in it. -/
def sub (c : List Value) (o n : Nat) : Option (List Value) := if o + n ≤ c.length then some ((c.drop o).take n) else none
/-- The bytes that cells hold. -/
def byteV (b : UInt8) : Value := .int .u8 b.toNat

/-- What is known of a map: its keys and values, in the order in which they came. -/
def mapIs (h : Heap) (m : Option Nat) (kt vt : Ty) (kvs : List (kt.T × vt.T)) : Prop :=
  match m with
  | none => kvs = []
  | some r => ∃ es clock, h r = some (.map es clock) ∧ es.toList.map (fun e => (e.key, e.val)) = kvs.map (fun p => (kt.v p.1, vt.v p.2))
def kEq : (t : Ty) → t.T → t.T → Bool
  | .int _, a, b => a == b
  | .str, a, b => a == b
  | _, _, _ => false
def kFind (kt : Ty) {β : Type} : List (kt.T × β) → kt.T → Option β
  | [], _ => none
  | p :: r, k => if kEq kt k p.1 then some p.2 else kFind kt r k
def kPut (kt : Ty) {β : Type} : List (kt.T × β) → kt.T → β → List (kt.T × β)
  | [], k, v => [(k, v)]
  | p :: r, k, v => if kEq kt k p.1 then (k, v) :: r else p :: kPut kt r k v
def kDel (kt : Ty) {β : Type} : List (kt.T × β) → kt.T → List (kt.T × β)
  | [], _ => []
  | p :: r, k => if kEq kt k p.1 then r else p :: kDel kt r k

/-- An operand as the walk knows it: a value; a bool that is decided; the address of a local; a slice of a local row. -/
inductive EV where
  | v (x : Value)
  | lit (b : Bool)
  | loc (i off : Nat) (dyn : Bool)
  | sl (i off len cap : Nat)
/-- A local: its cells, while nobody else sees it; or the block in which it lies, known as others are. -/
inductive LC where
  | live (c : List Value) (e : TypeId)
  | mat (b : Nat)
structure St where
  env : List (Nat × EV)
  loc : List LC
  h : Heap
  tch : List Nat
def one : Value → Bool
  | .agg _ => false
  | .tuple _ => false
  | _ => true
/-- Types whose cells hold one thing each. -/
def TyOk : Ty → Prop
  | .st _ c _ => ∀ x, ∀ v ∈ c x, one v = true
  | _ => True
def TOk (τ : TypeId → Option Ty) : Prop := ∀ t ty, τ t = some ty → TyOk ty
structure Cx where
  P : Program
  τ : TypeId → Option Ty
  N : Nat
  ok : TOk τ

def lk : List (Nat × EV) → Nat → Option EV
  | [], _ => none
  | p :: r, t => match Nat.beq p.1 t with
    | true => some p.2
    | false => lk r t
def vok : Value → Bool
  | .agg c => c.toList.all one
  | .tuple _ => false
  | _ => true
def getE (s : St) : Operand → Option EV
  | .tmp t => lk s.env t
  | .const (.bool b) => some (.lit b)
  | .const v => if vok v then some (.v v) else none
  | .global g => some (.v (.pointer (some ⟨g, 0, none⟩)))
  | .func f => some (.v (.func (.func f) #[] #[]))
/-- The value of an operand that is no local in hiding. -/
def toV (L : List LC) : EV → Option Value
  | .v x => some x
  | .lit b => some (.bool b)
  | .loc i off _ => match L[i]? with
    | some (.mat b) => some (.pointer (some ⟨b, off, none⟩))
    | _ => none
  | .sl i off len cap => match L[i]? with
    | some (.mat b) => some (.slice (some ⟨b, off, none⟩) len cap)
    | _ => none

/-! ### Operations that compute, or read -/

def aggD : TypeDesc → Bool
  | .struct _ => true
  | .array _ _ => true
  | _ => false
def bitsV (op : BinOp) (k : IntKind) (x y : Int) : Int :=
  let a := BitVec.ofInt k.bits x
  let b := BitVec.ofInt k.bits y
  match op with
  | .and => k.wrap (a &&& b).toNat
  | .or => k.wrap (a ||| b).toNat
  | .xor => k.wrap (a ^^^ b).toNat
  | _ => k.wrap (a &&& ~~~b).toNat
def strLt (a b : List UInt8) : Bool := Op.bytesLess a b

def binV (cx : Cx) (op : BinOp) (t : TypeId) (yc : Bool) (K : EV → Prop) : Value → Value → Prop
  | .int k a, .int k' b =>
    match op with
    | .shl => if yc then (if 0 ≤ b then K (.v (.int k (k.wrap (a * 2 ^ (min b.toNat k.bits))))) else False) else 0 ≤ b ∧ K (.v (.int k (k.wrap (a * 2 ^ (min b.toNat k.bits)))))
    | .shr => if yc then (if 0 ≤ b then K (.v (.int k (a.fdiv (2 ^ (min b.toNat k.bits))))) else False) else 0 ≤ b ∧ K (.v (.int k (a.fdiv (2 ^ (min b.toNat k.bits)))))
    | _ => if k' = k then
      match op with
      | .add => K (.v (.int k (k.wrap (a + b))))
      | .sub => K (.v (.int k (k.wrap (a - b))))
      | .mul => K (.v (.int k (k.wrap (a * b))))
      | .quo => b ≠ 0 ∧ K (.v (.int k (k.wrap (a.tdiv b))))
      | .rem => b ≠ 0 ∧ K (.v (.int k (a.tmod b)))
      | .and => K (.v (.int k (bitsV .and k a b)))
      | .or => K (.v (.int k (bitsV .or k a b)))
      | .xor => K (.v (.int k (bitsV .xor k a b)))
      | .andNot => K (.v (.int k (bitsV .andNot k a b)))
      | .eql => K (.v (.bool (a == b)))
      | .neq => K (.v (.bool (a != b)))
      | .lss => K (.v (.bool (decide (a < b))))
      | .leq => K (.v (.bool (decide (a ≤ b))))
      | .gtr => K (.v (.bool (decide (a > b))))
      | .geq => K (.v (.bool (decide (a ≥ b))))
      | _ => False
      else False
  | .string x, .string y =>
    let a := x.data.toList
    let b := y.data.toList
    match op with
    | .add => a.length + b.length ≤ 9223372036854775807 ∧ K (.v (S (a ++ b)))
    | .eql => K (.v (.bool (a == b)))
    | .neq => K (.v (.bool (!(a == b))))
    | .lss => K (.v (.bool (strLt a b)))
    | .leq => K (.v (.bool (strLt a b || (a == b))))
    | .gtr => K (.v (.bool !(strLt a b || (a == b))))
    | .geq => K (.v (.bool !(strLt a b)))
    | _ => False
  | .bool a, .bool b =>
    match op, cx.P.underlying t with
    | .eql, some .bool => K (.v (.bool (a == b)))
    | .neq, some .bool => K (.v (.bool (!(a == b))))
    | _, _ => False
  | .pointer p, .pointer none =>
    match op, cx.P.underlying t with
    | .eql, some (.pointer _) => K (.v (.bool p.isNone))
    | .neq, some (.pointer _) => K (.v (.bool (!p.isNone)))
    | _, _ => False
  | .slice p _ _, .slice none _ _ =>
    match op, cx.P.underlying t with
    | .eql, some (.slice _) => K (.v (.bool p.isNone))
    | .neq, some (.slice _) => K (.v (.bool (!p.isNone)))
    | _, _ => False
  | .map p, .map none =>
    match op, cx.P.underlying t with
    | .eql, some (.map _ _) => K (.v (.bool p.isNone))
    | .neq, some (.map _ _) => K (.v (.bool (!p.isNone)))
    | _, _ => False
  | .agg x, .agg y => match cx.P.underlying t with
    | some (.array n elem) => match cx.P.underlying elem, cx.P.info? elem with
      | some .string, some ei => match Nat.beq ei.size 1, cx.P.eqGuardType cx.P.depth t with
        | true, false => ∃ xs ys : List (List UInt8), x.toList = xs.map (fun l => S l) ∧ y.toList = ys.map (fun l => S l) ∧ (xs.length = n ∧ ys.length = n) ∧ match op with
          | .eql => K (.v (.bool (xs == ys)))
          | .neq => K (.v (.bool (!(xs == ys))))
          | _ => False
        | _, _ => False
      | _, _ => False
    | _ => False
  | _, _ => False

def unV (op : UnOp) (K : EV → Prop) : EV → Prop
  | .lit b => match op with | .not => K (.lit !b) | _ => False
  | .v (.bool b) => match op with | .not => K (.v (.bool !b)) | _ => False
  | .v (.int k n) => match op with
    | .neg => K (.v (.int k (k.wrap (0 - n))))
    | .xor => K (.v (.int k (bitsV .xor k (if k.signed then -1 else k.max) n)))
    | _ => False
  | _ => False

/-- A load from known memory. -/
def loadH (cx : Cx) (h : Heap) (t : TypeId) (a : Addr) (K : EV → Prop) : Prop :=
  match cx.P.underlying t with
  | none => False
  | some d => match aggD d, cx.τ t with
    | true, some (.st α c _) => match cx.P.info? t with
      | some i => ∃ x : α, rdn h a i.size = some (c x) ∧ K (.v (.agg ⟨c x⟩))
      | none => False
    | false, some ty => if ty.isSt then False else ∃ x : ty.T, rd h a = some (ty.v x) ∧ K (.v (ty.v x))
    | _, _ => False
/-- A load from a local's cells. -/
def loadL (cx : Cx) (c : List Value) (e : TypeId) (off : Nat) (dyn : Bool) (t : TypeId) (K : EV → Prop) : Prop :=
  match cx.P.underlying t with
  | none => False
  | some d => match aggD d with
    | true => match cx.P.info? t with
      | some i =>
        match dyn with
        | true => match cx.τ t with
          | some (.st α c' _) => ∃ x : α, sub c off i.size = some (c' x) ∧ K (.v (.agg ⟨c' x⟩))
          | _ => False
        | false => match Nat.beq off 0 && Nat.beq e t with
          | true => c.length = i.size ∧ K (.v (.agg ⟨c⟩))
          | false => match cx.τ t with
            | some (.st α c' _) => ∃ x : α, sub c off i.size = some (c' x) ∧ K (.v (.agg ⟨c' x⟩))
            | _ => False
      | none => False
    | false => match dyn with
      | true => match cx.τ t with
        | some ty => if ty.isSt then False else ∃ x : ty.T, c[off]? = some (ty.v x) ∧ K (.v (ty.v x))
        | none => False
      | false => match c[off]? with
        | some v => K (.v v)
        | none => False
def safeOf (cx : Cx) (e : TypeId) : Nat :=
  match cx.τ e with
  | some (.st _ _ s) => s
  | _ => 1
/-- Is a place in a local one that cannot be told at once? -/
def dynAt (cx : Cx) (L : List LC) (i off : Nat) (dyn : Bool) : Bool :=
  match dyn with
  | true => true
  | false => match L[i]? with
    | some (.live _ e) => !(Nat.ble (off + 1) (safeOf cx e))
    | _ => true
/-- The parts of a struct or an array: each at its place, zeros elsewhere. -/
def partAt? (parts : List (Nat × Value)) (i : Nat) : Option Value :=
  match parts with
  | [] => none
  | p :: r => match Nat.beq p.1 i with
    | true => some p.2
    | false => partAt? r i
/-- One field's cells; what must be known of them. -/
def buildFields (P : Program) (zero : List Value) (parts : List (Nat × Value)) : List Field → Nat → (List Value → Prop) → Prop
  | [], _, K => K []
  | f :: fs, i, K => match P.info? f.type with
    | none => False
    | some fi => match partAt? parts i with
      | none => buildFields P zero parts fs (i + 1) fun r => K ((zero.drop f.offset).take fi.size ++ r)
      | some (.agg c) => c.toList.length = fi.size ∧ buildFields P zero parts fs (i + 1) fun r => K (c.toList ++ r)
      | some v => match Nat.beq fi.size 1 with
        | true => buildFields P zero parts fs (i + 1) fun r => K (v :: r)
        | false => False
/-- A row's cells: what is given at its places, zeros elsewhere. -/
def buildRow (size : Nat) (zero : List Value) (parts : List (Nat × Value)) : Nat → Nat → (List Value → Prop) → Prop
  | 0, _, K => K []
  | n + 1, i, K => match partAt? parts i with
    | none => buildRow size zero parts n (i + 1) fun r => K (zero ++ r)
    | some (.agg c) => c.toList.length = size ∧ buildRow size zero parts n (i + 1) fun r => K (c.toList ++ r)
    | some v => match Nat.beq size 1 with
      | true => buildRow size zero parts n (i + 1) fun r => K (v :: r)
      | false => False
def partsV (L : List LC) (g : Operand → Option EV) : List (Nat × Operand) → Option (List (Nat × Value))
  | [] => some []
  | (i, x) :: r => match (g x).bind (toV L), partsV L g r with
    | some v, some l => some ((i, v) :: l)
    | _, _ => none
/-- Do fields lie one behind the other, from a place on? -/
def fieldsAt (P : Program) : List Field → Nat → Option Nat
  | [], o => some o
  | f :: fs, o => match P.info? f.type with
    | some fi => match Nat.beq f.offset o with
      | true => fieldsAt P fs (o + fi.size)
      | false => none
    | none => none
def partsOk : List (Nat × Value) → Nat → Bool
  | [], _ => true
  | p :: r, n => Nat.blt p.1 n && (partAt? r p.1).isNone && partsOk r n
/-- No part is a tuple. -/
def noTuple : List (Nat × Value) → Bool
  | [] => true
  | p :: r => (match p.2 with | .tuple _ => false | _ => true) && noTuple r
def subSl (s : Sl) (size l h m : Nat) : Value := .slice (s.a.map fun a => if m = l then a else a.add (l * size)) (h - l) (m - l)

/-- A bound of a slice: what it is, or what stands for it where there is none. -/
def bndOp (g : Operand → Option EV) (o : Option Operand) (d : Nat) (k : Nat → Prop) : Prop :=
  match o with
  | none => k d
  | some y => match g y with
    | some (.v (.int _ n)) => 0 ≤ n ∧ k n.toNat
    | _ => False

def prOp (cx : Cx) (o : Op) (g : Operand → Option EV) (h : Heap) (L : List LC) (K : EV → Prop) : Prop :=
  match o with
  | .move x | .assign x => match g x with
    | some e => K e
    | none => False
  | .pick c a b => match g c, g a, g b with
    | some (.lit true), some e, _ => K e
    | some (.lit false), _, some e => K e
    | some (.v (.bool t)), some e, some f => (t = true → K e) ∧ (t = false → K f)
    | _, _, _ => False
  | .nilCheck x => match g x with
    | some (.v (.pointer p)) => ∃ a, p = some a ∧ K (.v (.pointer (some a)))
    | some (.loc i o d) => K (.loc i o d)
    | _ => False
  | .fieldAddr st x f => match cx.P.underlying st with
    | some (.struct fs) => match fs[f]? with
      | some fd => match cx.P.info? fd.type with
        | some fi => match Nat.beq fi.size 0, g x with
          | false, some (.loc i o d) => K (.loc i (o + fd.offset) (dynAt cx L i (o + fd.offset) d))
          | false, some (.v (.pointer (some a))) => K (.v (.pointer (some (a.add fd.offset))))
          | _, _ => False
        | none => False
      | none => False
    | _ => False
  | .field st x f => match cx.P.underlying st with
    | some (.struct fs) => match fs[f]? with
      | some fd => match g x with
        | some (.v (.agg c)) => loadL cx c.toList st fd.offset (!(Nat.ble (fd.offset + 1) (safeOf cx st))) fd.type K
        | _ => False
      | none => False
    | _ => False
  | .indexAddr t x i => match g i with
    | some (.v (.int _ n)) => match cx.P.underlying t, g x with
      | some (.array len elem), some (.loc j o _) => match cx.P.info? elem with
        | some ei => (0 ≤ n ∧ n < len) ∧ K (.loc j (o + n.toNat * ei.size) true)
        | none => False
      | some (.array len elem), some (.v (.pointer (some a))) => match cx.P.info? elem with
        | some ei => (0 ≤ n ∧ n < len) ∧ K (.v (.pointer (some (a.add (n.toNat * ei.size)))))
        | none => False
      | some (.slice elem), some (.v (.slice p len _)) => match cx.P.info? elem with
        | some ei => (0 ≤ n ∧ n < len) ∧ ∃ a, p = some a ∧ K (.v (.pointer (some (a.add (n.toNat * ei.size)))))
        | none => False
      | _, _ => False
    | _ => False
  | .index t x i => match g i with
    | some (.v (.int _ n)) => match cx.P.underlying t, g x with
      | some .string, some (.v (.string s)) => ∃ b, 0 ≤ n ∧ s.data.toList[n.toNat]? = some b ∧ K (.v (.int .u8 b.toNat))
      | some (.array len elem), some (.v (.agg c)) => match cx.P.info? elem with
        | some ei => (0 ≤ n ∧ n < len) ∧ loadL cx c.toList t (n.toNat * ei.size) true elem K
        | none => False
      | _, _ => False
    | _ => False
  | .sliceToArrayPointer arr x => match cx.P.underlying arr, g x with
    | some (.array n _), some (.v (.slice p len _)) => n ≤ len ∧ ∃ a, p = some a ∧ K (.v (.pointer (some a)))
    | _, _ => False
  | .slice t x lo hi mx =>
    match cx.P.underlying t, g x with
    | some .string, some (.v (.string s)) => match mx with
      | none => bndOp g lo 0 fun l => bndOp g hi s.data.toList.length fun u => (l ≤ u ∧ u ≤ s.data.toList.length) ∧ K (.v (S ((s.data.toList.take u).drop l)))
      | some _ => False
    | some (.slice elem), some (.v (.slice a len cap)) => match cx.P.info? elem with
      | some ei => bndOp g lo 0 fun l => bndOp g hi len fun u => bndOp g mx cap fun m => (l ≤ u ∧ u ≤ m ∧ m ≤ cap) ∧ (mx.isSome = true → hi.isSome = true) ∧ K (.v (subSl ⟨a, len, cap⟩ ei.size l u m))
      | none => False
    | some (.array n elem), some e => match toV L e, cx.P.info? elem with
      | some (.pointer (some a)), some ei => bndOp g lo 0 fun l => bndOp g hi n fun u => bndOp g mx n fun m => (l ≤ u ∧ u ≤ m ∧ m ≤ n) ∧ (mx.isSome = true → hi.isSome = true) ∧ K (.v (subSl ⟨some a, n, n⟩ ei.size l u m))
      | _, _ => False
    | _, _ => False
  | .binOp op t x y _ => match g x, g y with
    | some (.loc _ _ _), some (.v (.pointer none)) => match op, cx.P.underlying t with
      | .eql, some (.pointer _) => K (.lit false)
      | .neq, some (.pointer _) => K (.lit true)
      | _, _ => False
    | some e, some f => match toV L e, toV L f with
      | some a, some b => binV cx op t (match y with | .const _ => true | _ => false) K a b
      | _, _ => False
    | _, _ => False
  | .unOp op _ x => match g x with
    | some e => unV op K e
    | none => False
  | .convert s d x => match cx.P.underlying s, cx.P.underlying d, g x with
    | some (.int _), some (.int k), some (.v (.int _ n)) => K (.v (.int k (k.wrap n)))
    | some .string, some .string, some (.v (.string b)) => K (.v (.string b))
    | some (.slice e), some .string, some (.v (.slice a len _)) => match cx.P.underlying e with
      | some (.int .u8) => match a with
        | none => K (.v (S []))
        | some a => ∃ bs : List UInt8, rdn h a len = some (bs.map byteV) ∧ K (.v (S bs))
      | _ => False
    | some (.slice e), some .string, some (.sl i off len _) => match cx.P.underlying e, L[i]? with
      | some (.int .u8), some (.live c _) => ∃ bs : List UInt8, sub c off len = some (bs.map byteV) ∧ K (.v (S bs))
      | _, _ => False
    | _, _, _ => False
  | .makeInterface t x => match cx.P.underlying t, (g x).bind (toV L) with
    | some (.interface _), _ => False
    | some _, some v => K (.v (.iface t v))
    | _, _ => False
  | .extract x i => match g x with
    | some (.v (.tuple vs)) => match vs.toList[i]? with
      | some v => K (.v v)
      | none => False
    | _ => False
  | .build t parts => match cx.P.info? t, partsV L g parts.toList with
    | some ti, some ps => match ti.zero, cx.P.underlying t with
      | some z, some (.struct fs) => match fieldsAt cx.P fs.toList 0, partsOk ps fs.size with
        | some n, true => match Nat.beq n (cellsL z).length with
          | true => match noTuple ps && (cellsL z).all one with
            | true => buildFields cx.P (cellsL z) ps fs.toList 0 fun c => K (.v (.agg ⟨c⟩))
            | false => False
          | false => False
        | _, _ => False
      | some z, some (.array n elem) => match cx.P.info? elem, partsOk ps n with
        | some ei, true => match ei.zero with
          | some ez => match Nat.beq (cellsL z).length (n * ei.size), Nat.beq (cellsL ez).length ei.size with
            | true, true => match noTuple ps && (cellsL z).all one with
              | true => cellsL z = (List.replicate n (cellsL ez)).flatten ∧ buildRow ei.size (cellsL ez) ps n 0 fun c => K (.v (.agg ⟨c⟩))
              | false => False
            | _, _ => False
          | none => False
        | _, _ => False
      | _, _ => False
    | _, _ => False
  | .load t x => match g x with
    | some (.loc i o d) => match L[i]? with
      | some (.live c e) => loadL cx c e o d t K
      | some (.mat b) => loadH cx h t ⟨b, o, none⟩ K
      | none => False
    | some (.v (.pointer (some a))) => loadH cx h t a K
    | _ => False
  | .lookup t m k ok => match cx.P.underlying t with
    | some (.map kt vt) => match cx.τ kt, cx.τ vt, (cx.P.info? vt).bind (·.zero), g m, (g k).bind (toV L) with
      | some (.int ik), some v, some z, some (.v (.map m)), some (.int ik' n) => match cx.P.underlying kt with
        | some (.int ik'') => if (ik = ik' ∧ ik'' = ik) ∧ vok z = true then ∃ kvs, mapIs h m (.int ik) v kvs ∧ (∀ x, kFind (.int ik) kvs n = some x → K (.v (if ok then .tuple #[v.v x, .bool true] else v.v x))) ∧
            (kFind (.int ik) kvs n = none → K (.v (if ok then .tuple #[z, .bool false] else z))) else False
        | _ => False
      | some .str, some v, some z, some (.v (.map m)), some (.string s) => match cx.P.underlying kt with
        | some .string => if vok z = true then ∃ kvs, mapIs h m .str v kvs ∧ (∀ x, kFind .str kvs s.data.toList = some x → K (.v (if ok then .tuple #[v.v x, .bool true] else v.v x))) ∧
            (kFind .str kvs s.data.toList = none → K (.v (if ok then .tuple #[z, .bool false] else z))) else False
        | _ => False
      | _, _, _, _, _ => False
    | _ => False
  | .call { callee := .builtin b, args, argTypes } => match b with
    | .len => match argTypes.toList, args.toList with
      | [t], [x] => match cx.P.underlying t, g x with
        | some .string, some (.v (.string s)) => K (.v (.int .i64 s.data.toList.length))
        | some (.array n _), some _ => K (.v (.int .i64 n))
        | some (.slice _), some (.v (.slice _ n _)) => K (.v (.int .i64 n))
        | some (.slice _), some (.sl _ _ n _) => K (.v (.int .i64 n))
        | _, _ => False
      | _, _ => False
    | .min => match args.toList with
      | [x, y] => match g x, g y with
        | some (.v (.int k a)), some (.v (.int k' b)) => if k' = k then K (.v (.int k (if b < a then b else a))) else False
        | _, _ => False
      | _ => False
    | .max => match args.toList with
      | [x, y] => match g x, g y with
        | some (.v (.int k a)), some (.v (.int k' b)) => if k' = k then K (.v (.int k (if b > a then b else a))) else False
        | _, _ => False
      | _ => False
    | _ => False
  | _ => False
end Go.Vw
