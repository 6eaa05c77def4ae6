/-
  The calculus' second half: operations that change memory, regions in their order and in any order, statements, whole functions. Definitions alone.
-/
import Derived.Orders
import Derived.MapKept
import Derived.Test.YtomcnpeeelhpcaaGreatDoorVwDefs
namespace Go.Vw
open Go

inductive Out : Type 1 where
  | slot (t : Nat) (ty : Ty)
  | loc (i : Nat) (ty : Ty)
abbrev Out.ty : Out → Ty
  | .slot _ t => t
  | .loc _ t => t
/-- What is told beside the code: where ways meet ('j': what of the state is read behind), what a loop turns ('lo'), in which order a region is taken ('ord'). -/
inductive An : Type 1 where
  | leaf
  | nd (j : Option (List Out)) (lo : List Out) (ord : List Nat) (l r : An)
abbrev An.j : An → Option (List Out)
  | .leaf => none
  | .nd j _ _ _ _ => j
abbrev An.lo : An → List Out
  | .leaf => []
  | .nd _ lo _ _ _ => lo
abbrev An.ord : An → List Nat
  | .leaf => []
  | .nd _ _ o _ _ => o
abbrev An.l : An → An
  | .leaf => .leaf
  | .nd _ _ _ l _ => l
abbrev An.r : An → An
  | .leaf => .leaf
  | .nd _ _ _ _ r => r

abbrev TO (C : Type) : List Out → Type
  | [] => Heap → C
  | o :: os => o.ty.T → TO C os

/-- A value, typed. -/
def matchT : (t : Ty) → Value → (t.T → Prop) → Prop
  | .bool, .bool b, K => K b
  | .int k, .int k' n, K => if k' = k then K n else False
  | .str, .string s, K => K s.data.toList
  | .ptr, .pointer p, K => K p
  | .slice, .slice a l c, K => K ⟨a, l, c⟩
  | .map, .map m, K => K m
  | .func, .func f a b, K => K ⟨f, a, b⟩
  | .iface, .nilIface, K => K none
  | .iface, .iface t v, K => K (some (t, v))
  | .st α c _, .agg cs, K => ∃ y : α, cs.toList = c y ∧ K y
  | _, _, _ => False
def contentV (ty : Ty) (c : List Value) : Value :=
  match ty with
  | .st _ _ _ => .agg ⟨c⟩
  | _ => match c with
    | [v] => v
    | _ => .tuple #[]

/-- What has hidden so far is known as other blocks are. -/
def matE (s : St) (e : EV) (K : Value → St → Prop) : Prop :=
  match e with
  | .v x => K x s
  | .lit b => K (.bool b) s
  | .loc i off _ => match s.loc[i]? with
    | some (.live c t) => ∀ b, s.h b = none → K (.pointer (some ⟨b, off, none⟩)) { s with loc := s.loc.set i (.mat b), h := s.h.set b (.cells ⟨c⟩ t (0, 0)), tch := i :: s.tch }
    | some (.mat b) => K (.pointer (some ⟨b, off, none⟩)) s
    | none => False
  | .sl i off len cap => match s.loc[i]? with
    | some (.live c t) => ∀ b, s.h b = none → K (.slice (some ⟨b, off, none⟩) len cap) { s with loc := s.loc.set i (.mat b), h := s.h.set b (.cells ⟨c⟩ t (0, 0)), tch := i :: s.tch }
    | some (.mat b) => K (.slice (some ⟨b, off, none⟩) len cap) s
    | none => False
def matL (s : St) : List Operand → (List Value → St → Prop) → Prop
  | [], K => K [] s
  | x :: r, K => match getE s x with
    | some e => matE s e fun v s' => matL s' r fun vs s'' => K (v :: vs) s''
    | none => False
/-- Locals that are among operands come out of hiding. -/
def matO (s : St) : List Operand → (St → Prop) → Prop
  | [], K => K s
  | x :: r, K => match getE s x with
    | some e => matE s e fun _ s' => matO s' r K
    | none => False

/-- The operands that an operation wants as values. -/
def wantV : Op → List Operand
  | .build _ ps => ps.toList.map (·.2)
  | .makeInterface _ x => [x]
  | .slice _ x _ _ _ => [x]
  | .lookup _ _ k _ => [k]
  | _ => []
/-- Does an operation compute or read, and no more? -/
def isPR (cx : Cx) : Op → Bool
  | .move _ | .assign _ | .pick .. | .nilCheck _ | .fieldAddr .. | .field .. | .indexAddr .. | .index .. | .slice .. | .binOp .. | .unOp .. | .makeInterface .. | .extract .. | .build .. | .load .. | .lookup .. | .sliceToArrayPointer .. => true
  | .convert s d _ => match cx.P.underlying s, cx.P.underlying d with
    | some .string, some (.slice _) => false
    | _, _ => true
  | .call { callee := .builtin b, .. } => match b with
    | .len | .min | .max => true
    | _ => false
  | _ => false

/-- What a call answers, typed by what it is. -/
def typedV (cx : Cx) (P : Program) (t : TypeId) (v : Value) (K : EV → Prop) : Prop :=
  match P.underlying t with
  | some (.tuple ts) => typedTs cx ts.toList fun l => v = .tuple ⟨l⟩ ∧ K (.v (.tuple ⟨l⟩))
  | some _ => match cx.τ t with
    | some ty => ∃ x : ty.T, v = ty.v x ∧ K (.v (ty.v x))
    | none => False
  | none => False
where
  typedTs (cx : Cx) : List TypeId → (List Value → Prop) → Prop
    | [], K => K []
    | t :: ts, K => match cx.τ t with
      | some ty => ∃ x : ty.T, typedTs cx ts fun l => K (ty.v x :: l)
      | none => False

/-- What a call comes to, by what is known of memory. -/
def HW (h : Heap) : Prop :=
  ∀ b es k, h b = some (.map es k) → MapKept.Stamped es k
def vokR : Value → Bool
  | .tuple vs => vs.toList.all vok
  | v => vok v
def Rel (h : Heap) (w : World) : Prop := ∀ b o, h b = some o → w.heap[b]? = some o
structure Fr (h₀ : Heap) (w₀ : World) (h : Heap) (w : World) : Prop where
  os : w.os = w₀.os
  tape : w.tape = w₀.tape
  output : w.output = w₀.output
  size : w₀.heap.size ≤ w.heap.size
  old : ∀ b, b < w₀.heap.size → h₀ b = none → h b = none ∧ w.heap[b]? = w₀.heap[b]?
def Spec (P : Program) (f : FuncId) (args : List Value) (h : Heap) (Q : Value → Heap → Prop) : Prop :=
  HW h → (∀ v ∈ args, vokR v = true) → ∀ w, Rel h w →
    Calls P f ⟨args⟩ w fun e w' => ∃ v h', e = .returned v ∧ Rel h' w' ∧ HW h' ∧ vokR v = true ∧ Fr h w h' w' ∧ Q v h'

/-- What an append comes to: in its place, or in a new block. -/
def AppRes (h : Heap) (s : Sl) (size : Nat) (e : TypeId) (xs ys : List Value) (m : Nat) (r : Sl) (h' : Heap) : Prop :=
  r.len = s.len + m ∧
  ((s.len + m ≤ s.cap ∧ r.a = s.a ∧ r.cap = s.cap ∧ match s.a with
      | some a => wr h (a.add (s.len * size)) ys = some h'
      | none => ys = [] ∧ h' = h) ∨
   (s.cap < s.len + m ∧ ∃ b rest, h b = none ∧ r.a = some ⟨b, 0, none⟩ ∧ s.len + m ≤ r.cap ∧ rest.length = (r.cap - (s.len + m)) * size ∧ (∀ v ∈ rest, one v = true) ∧
      h' = h.set b (.cells ⟨xs ++ ys ++ rest⟩ e (0, 0))))
def rowOf (h : Heap) (p : Option Addr) (n : Nat) : Option (List Value) :=
  match p with
  | some a => rdn h a n
  | none => if n = 0 then some [] else none

/-- May a function be called by its number? -/
def callable (P : Program) (g : FuncId) : Bool :=
  match P.funcs[g]? with
  | some fn => fn.body.isSome && !(fn.name == "runtime.NumGoroutine")
  | none => false
/-- A store into known memory. -/
def storeM (h : Heap) (p : Addr) (size : Nat) (v : Value) (K : Heap → Prop) : Prop :=
  match v with
  | .tuple _ => False
  | .agg vs => vs.toList.length = size ∧ ∃ h', wr h p vs.toList = some h' ∧ K h'
  | v => match Nat.beq size 1 with
    | true => ∃ h', wr h p [v] = some h' ∧ K h'
    | false => False
/-- A store into a local's cells. -/
def storeL (c : List Value) (off : Nat) (whole dyn : Bool) (size : Nat) (v : Value) (K : List Value → Prop) : Prop :=
  match v with
  | .tuple _ => False
  | .agg vs => match whole with
    | true => (vs.toList.length = size ∧ vs.toList.length = c.length) ∧ K vs.toList
    | false => (vs.toList.length = size ∧ off + vs.toList.length ≤ c.length) ∧ K (splice c off vs.toList)
  | v => match Nat.beq size 1, dyn with
    | true, false => match c[off]? with
      | some _ => K (c.set off v)
      | none => False
    | true, true => off < c.length ∧ K (c.set off v)
    | false, _ => False

def evE (cx : Cx) (o : Oper) (s : St) (K : EV → St → Prop) : Prop :=
  match o.op with
  | .alloc t => match (cx.P.info? t).bind (·.zero) with
    | some z => if vok z then K (.loc s.loc.length 0 false) { s with loc := s.loc ++ [.live (cellsL z) t] } else False
    | none => False
  | .box t x => match getE s x with
    | some e => matE s e fun v s' => match v with
      | .tuple _ => False
      | v => K (.loc s'.loc.length 0 false) { s' with loc := s'.loc ++ [.live (cellsL v) t] }
    | none => False
  | .buildSlice t n parts => matO s (parts.toList.map (·.2)) fun s' => match cx.P.underlying t with
    | some (.slice e) => match cx.P.info? e, partsV s'.loc (getE s') parts.toList with
      | some ei, some ps => match ei.zero, partsOk ps n, Nat.ble (n * ei.size) (2 ^ 24) with
        | some ez, true, true => match Nat.beq (cellsL ez).length ei.size, vok ez with
          | true, true => match noTuple ps with
            | true => buildRow ei.size (cellsL ez) ps n 0 fun c => K (.sl s'.loc.length 0 n n) { s' with loc := s'.loc ++ [.live c e] }
            | false => False
          | _, _ => False
        | _, _, _ => False
      | _, _ => False
    | _ => False
  | .store t a x => match getE s x with
    | some e => matE s e fun v s' => match cx.P.info? t with
      | some ti => match getE s' a with
        | some (.loc i off d) => match s'.loc[i]? with
          | some (.live c et) => storeL c off (Nat.beq off 0 && Nat.beq et t) d ti.size v fun c' => K (.v undef) { s' with loc := s'.loc.set i (.live c' et), tch := i :: s'.tch }
          | some (.mat b) => storeM s'.h ⟨b, off, none⟩ ti.size v fun h' => K (.v undef) { s' with h := h' }
          | none => False
        | some (.v (.pointer (some p))) => storeM s'.h p ti.size v fun h' => K (.v undef) { s' with h := h' }
        | _ => False
      | none => False
    | none => False
  | .makeMap t none => match cx.P.underlying t with
    | some (.map _ _) => ∀ r, s.h r = none → K (.v (.map (some r))) { s with h := s.h.set r (.map #[] 0) }
    | _ => False
  | .makeSlice t l c => match cx.P.underlying t with
    | some (.slice e) => match cx.P.info? e with
      | some ei => match ei.zero, getE s l, getE s c with
        | some ez, some (.v (.int .i64 n)), some (.v (.int .i64 m)) => match Nat.beq (cellsL ez).length ei.size, vok ez with
          | true, true => (0 ≤ n ∧ n ≤ m ∧ ei.bytes * m ≤ 281474976710656) ∧ m ≤ 9223372036854775807 ∧
              ∀ b, s.h b = none → K (.v (.slice (some ⟨b, 0, none⟩) n.toNat m.toNat)) { s with h := s.h.set b (.cells ⟨(List.replicate m.toNat (cellsL ez)).flatten⟩ e (0, 0)) }
          | _, _ => False
        | _, _, _ => False
      | none => False
    | _ => False
  | .makeFunc fn first captured => matL s first.toList fun fs s' => matL s' captured.toList fun cs s'' => K (.v (.func fn ⟨fs⟩ ⟨cs⟩)) s''
  | .mapUpdate t m k x => match cx.P.underlying t with
    | some (.map kt vt) => match getE s m, getE s k, getE s x with
      | some (.v (.map m)), some ke, some xe => matE s ke fun kv s' => matE s' xe fun xv s'' => match cx.τ kt, cx.τ vt, kv, cx.P.underlying kt with
        | some (.int ik), some v, .int ik' n, some (.int ik'') => if ik = ik' ∧ ik'' = ik then ∃ r kvs, m = some r ∧ mapIs s''.h m (.int ik) v kvs ∧ ∃ y : v.T, xv = v.v y ∧
            ∀ es clock, es.toList.map (fun e => (e.key, e.val)) = (kPut (.int ik) kvs n y).map (fun p => (.int ik p.1, v.v p.2)) → K (.v undef) { s'' with h := s''.h.set r (.map es clock) } else False
        | some .str, some v, .string b, some .string => ∃ r kvs, m = some r ∧ mapIs s''.h m .str v kvs ∧ ∃ y : v.T, xv = v.v y ∧
            ∀ es clock, es.toList.map (fun e => (e.key, e.val)) = (kPut .str kvs b.data.toList y).map (fun p => (S p.1, v.v p.2)) → K (.v undef) { s'' with h := s''.h.set r (.map es clock) }
        | _, _, _, _ => False
      | _, _, _ => False
    | _ => False
  | .convert st d x => match cx.P.underlying st, cx.P.underlying d, getE s x with
    | some .string, some (.slice e), some (.v (.string bs)) => match cx.P.underlying e with
      | some (.int .u8) => ∀ b cap rest, s.h b = none → bs.data.toList.length ≤ cap → rest.length = cap - bs.data.toList.length → (∀ v ∈ rest, v = .int .u8 0) →
          K (.v (.slice (some ⟨b, 0, none⟩) bs.data.toList.length cap)) { s with h := s.h.set b (.cells ⟨bs.data.toList.map byteV ++ rest⟩ e (bs.data.toList.length + rest.length, bs.data.toList.length + rest.length + 1)) }
      | _ => False
    | _, _, _ => False
  | .call { callee := .value f, args, .. } => match f with
    | .func g => match callable cx.P g with
      | true => matL s args.toList fun vs s' => Spec cx.P g vs s'.h fun v h' => typedV cx cx.P o.type v fun e => K e { s' with h := h' }
      | false => False
    | f => match getE s f with
      | some (.v (.func fn first captured)) => matL s args.toList fun vs s' => ∃ g, fn = .func g ∧ callable cx.P g = true ∧ (first.toList.all vokR && captured.toList.all vokR) = true ∧
          Spec cx.P g (first.toList ++ vs ++ captured.toList) s'.h fun v h' => typedV cx cx.P o.type v fun e => K e { s' with h := h' }
      | _ => False
  | .call { callee := .builtin .append, args, argTypes } => match args.toList, argTypes.toList with
    | [x, y], [t, u] => match cx.P.underlying t, getE s x with
      | some (.slice e), some xe => matE s xe fun xv s => match xv, getE s y, cx.P.info? e, cx.P.underlying u with
        | .slice a n c, some (.sl i off m _), some ei, some (.slice _) => match s.loc[i]?, ei.zero with
          | some (.live ys _), some ez => match Nat.beq off 0, Nat.beq (cellsL ez).length ei.size, vok ez with
            | true, true, true => ys.length = m * ei.size ∧ ∃ xs, rowOf s.h a (n * ei.size) = some xs ∧ (n + m) * ei.bytes ≤ 140737488355328 ∧ n + m ≤ 9223372036854775807 ∧
                (n + m ≤ c → ∀ p, a = some p → (wr s.h (p.add (n * ei.size)) ys).isSome = true) ∧ (a = none → n + m ≤ c → ys = []) ∧
                ∀ r h', AppRes s.h ⟨a, n, c⟩ ei.size e xs ys m r h' → K (.v (.slice r.a r.len r.cap)) { s with h := h' }
            | _, _, _ => False
          | _, _ => False
        | .slice a n c, some (.v (.slice a' m _)), some ei, some (.slice _) => match ei.zero with
          | some ez => match Nat.beq (cellsL ez).length ei.size, vok ez with
            | true, true => ∃ xs ys, rowOf s.h a (n * ei.size) = some xs ∧ rowOf s.h a' (m * ei.size) = some ys ∧ (∀ v ∈ ys, one v = true) ∧ (n + m) * ei.bytes ≤ 140737488355328 ∧ n + m ≤ 9223372036854775807 ∧
                (n + m ≤ c → ∀ p, a = some p → (wr s.h (p.add (n * ei.size)) ys).isSome = true) ∧ (a = none → n + m ≤ c → ys = []) ∧
                ∀ r h', AppRes s.h ⟨a, n, c⟩ ei.size e xs ys m r h' → K (.v (.slice r.a r.len r.cap)) { s with h := h' }
            | _, _ => False
          | none => False
        | .slice a n c, some (.v (.string bs)), some ei, some .string => match ei.zero, cx.P.underlying e with
          | some ez, some (.int .u8) => match Nat.beq (cellsL ez).length 1, Nat.beq ei.size 1, vok ez with
            | true, true, true => ∃ xs, rowOf s.h a n = some xs ∧ (n + bs.data.toList.length) * ei.bytes ≤ 140737488355328 ∧ n + bs.data.toList.length ≤ 9223372036854775807 ∧
                (n + bs.data.toList.length ≤ c → ∀ p, a = some p → (wr s.h (p.add n) (bs.data.toList.map byteV)).isSome = true) ∧ (a = none → n + bs.data.toList.length ≤ c → bs.data.toList.map byteV = []) ∧
                ∀ r h', AppRes s.h ⟨a, n, c⟩ 1 e xs (bs.data.toList.map byteV) bs.data.toList.length r h' → K (.v (.slice r.a r.len r.cap)) { s with h := h' }
            | _, _, _ => False
          | _, _ => False
        | _, _, _, _ => False
      | _, _ => False
    | _, _ => False
  | .call { callee := .builtin .delete, args, argTypes } => match args.toList, argTypes.toList with
    | [m, k], t :: _ => match cx.P.underlying t with
      | some (.map kt vt) => match getE s m, getE s k, cx.τ kt, cx.τ vt, cx.P.underlying kt with
        | some (.v (.map m)), some (.v (.int ik' n)), some (.int ik), some v, some (.int ik'') => if ik = ik' ∧ ik'' = ik then ∃ r kvs, m = some r ∧ mapIs s.h m (.int ik) v kvs ∧
            ∀ es clock, es.toList.map (fun e => (e.key, e.val)) = (kDel (.int ik) kvs n).map (fun p => (.int ik p.1, v.v p.2)) → K (.v (.tuple #[])) { s with h := s.h.set r (.map es clock) } else False
        | some (.v (.map m)), some (.v (.string b)), some .str, some v, some .string => ∃ r kvs, m = some r ∧ mapIs s.h m .str v kvs ∧
            ∀ es clock, es.toList.map (fun e => (e.key, e.val)) = (kDel .str kvs b.data.toList).map (fun p => (S p.1, v.v p.2)) → K (.v (.tuple #[])) { s with h := s.h.set r (.map es clock) }
        | _, _, _, _, _ => False
      | _ => False
    | _, _ => False
  | _ => False

def evOp (cx : Cx) (o : Oper) (s : St) (K : EV → St → Prop) : Prop :=
  match isPR cx o.op with
  | true => matO s (wantV o.op) fun s' => prOp cx o.op (getE s') s'.h s'.loc fun e => K e s'
  | false => evE cx o s K

def St.put (cx : Cx) (s : St) (dst : Option Nat) (e : EV) (K : St → Prop) : Prop :=
  match dst with
  | none => K s
  | some d => match Nat.blt d cx.N with
    | true => K { s with env := (d, e) :: s.env }
    | false => False

/-- An operation under its guard. -/
def evGuard (cx : Cx) (ops : Array Oper) (o : Oper) (s : St) (run skip : St → Prop) : Prop :=
  match o.guard with
  | none => run s
  | some (j, want) => match (ops[j]?).bind (·.dst) with
    | some d => match lk s.env d with
      | some (.lit b) => if b = want then run s else skip s
      | some (.v (.bool b)) => (b = want → run { s with env := (d, .lit want) :: s.env }) ∧ (b = (!want) → skip { s with env := (d, .lit (!want)) :: s.env })
      | some (.v (.tuple _)) => skip s
      | _ => False
    | none => False

def evOps (cx : Cx) (ops : Array Oper) : List Oper → St → (St → Prop) → Prop
  | [], s, K => K s
  | o :: rest, s, K => evGuard cx ops o s
      (fun s => evOp cx o s fun e s' => s'.put cx o.dst e fun s'' => evOps cx ops rest s'' K)
      (fun s => s.put cx o.dst (.v undef) fun s'' => evOps cx ops rest s'' K)

inductive Exi where
  | normal
  | exit (id : Nat)
  | ret

/-- The slots that a piece of code writes. -/
def dsts : List Oper → List Nat
  | [] => []
  | o :: r => match o.dst with
    | some d => d :: dsts r
    | none => dsts r
def writes : Code → List Nat
  | .region _ ops _ => dsts ops.toList
  | .seq a b => writes a ++ writes b
  | .cond _ a b => writes a ++ writes b
  | .block _ b => writes b
  | .loop b => writes b
  | .scope b => writes b
  | _ => []
def memN : Nat → List Nat → Bool
  | _, [] => false
  | t, u :: r => match Nat.beq t u with
    | true => true
    | false => memN t r
def keep (ws : List Nat) : List (Nat × EV) → List (Nat × EV)
  | [] => []
  | p :: r => match memN p.1 ws with
    | true => keep ws r
    | false => p :: keep ws r
def outLocs : List Out → List Nat
  | [] => []
  | .slot _ _ :: r => outLocs r
  | .loc i _ :: r => i :: outLocs r
/-- Of what was there at first nothing has turned but what is told. -/
def okTouch (n : Nat) (ls : List Nat) : List Nat → Bool
  | [] => true
  | i :: r => (Nat.ble n i || memN i ls) && okTouch n ls r

/-- Are the locals among outs in hiding? -/
def outsOk (L : List LC) : List Out → Bool
  | [] => true
  | .slot _ _ :: r => outsOk L r
  | .loc i _ :: r => match L[i]? with
    | some (.live _ _) => outsOk L r
    | _ => false
/-- What is told of the outs, for all their values. -/
def allO (C : Type) : (os : List Out) → St → TO C os → (St → C → Prop) → Prop
  | [], s, F, G => ∀ h, G { s with h := h } (F h)
  | .slot t ty :: r, s, F, G => ∀ x : ty.T, allO C r { s with env := (t, .v (ty.v x)) :: s.env } (F x) G
  | .loc i ty :: r, s, F, G => ∀ x : ty.T, match s.loc[i]? with
    | some (.live _ e) => allO C r { s with loc := s.loc.set i (.live (cellsL (ty.v x)) e) } (F x) G
    | _ => True
/-- What is told of the outs, at the values that they have. -/
def atO (C : Type) : (os : List Out) → St → TO C os → (C → Prop) → Prop
  | [], s, F, G => G (F s.h)
  | .slot t ty :: r, s, F, G => match (lk s.env t).bind (toV s.loc) with
    | some v => matchT ty v fun x => atO C r s (F x) G
    | none => False
  | .loc i ty :: r, s, F, G => match s.loc[i]? with
    | some (.live c _) => matchT ty (contentV ty c) fun x => atO C r s (F x) G
    | _ => False
/-- A state with what may have been written forgotten, but for the outs, which come by 'allO'. -/
def St.forget (s : St) (ws : List Nat) (os : List Out) : St := { s with env := keep ws s.env, tch := outLocs os ++ s.tch }
/-- Slots that hold locals in hiding, among the outs, come out of it first. -/
def matOuts : List Out → St → (St → Prop) → Prop
  | [], s, K => K s
  | .slot t _ :: r, s, K => match lk s.env t with
    | some e => matE s e fun _ s' => matOuts r s' K
    | none => False
  | .loc _ _ :: r, s, K => matOuts r s K

/-! ### A region in any order -/

/-- An operation that computes or reads ('pr') may come behind its place; one that changes memory stands fast. -/
def isEff (cx : Cx) (o : Oper) : Bool := !isPR cx o.op
/-- What must stand ahead of an operation, directly or through others: of each, in the order taken. -/
def unionN : List Nat → List Nat → List Nat
  | [], l => l
  | x :: r, l => match memN x l with
    | true => unionN r l
    | false => x :: unionN r l
def befGet : List (Nat × List Nat) → Nat → List Nat
  | [], _ => []
  | p :: r, i => match Nat.beq p.1 i with
    | true => p.2
    | false => befGet r i
def befOf (acc : List (Nat × List Nat)) : List Edge → List Nat
  | [] => []
  | e :: r => match Region.binds .any e with
    | true => unionN (e.on :: befGet acc e.on) (befOf acc r)
    | false => befOf acc r
def edgesDone (acc : List (Nat × List Nat)) : List Edge → Bool
  | [] => true
  | e :: r => (!Region.binds .any e || memN e.on (acc.map (·.1))) && edgesDone acc r
/-- May this operation be taken behind those that were? -/
def fitsBehind (cx : Cx) (ops : Array Oper) (o : Oper) (b : List Nat) : List (Nat × List Nat) → Bool
  | [] => true
  | p :: r => (match ops[p.1]? with
      | some q => (match q.dst, o.dst with | some d, some d' => !Nat.beq d d' | _, _ => true) && (match q.op, o.dst with | .load _ (.tmp t), some d => !Nat.beq t d | .convert _ _ (.tmp t), some d => !Nat.beq t d | _, _ => true) &&
          (memN p.1 b || (q.apart ops o && o.apart ops q && isPR cx q.op))
      | none => false) && fitsBehind cx ops o b r
def coverN (ks : List Nat) : Nat → Bool
  | 0 => true
  | n + 1 => memN n ks && coverN ks n
def selfOk (o : Oper) : Bool :=
  match o.op, o.dst with
  | .select .., _ => false
  | .load _ (.tmp t), some d => !Nat.beq t d
  | .convert _ _ (.tmp t), some d => !Nat.beq t d
  | _, _ => true
def okOrder (cx : Cx) (ops : Array Oper) : List Nat → List (Nat × List Nat) → Bool
  | [], acc => coverN (acc.map (·.1)) ops.size
  | i :: r, acc => match ops[i]? with
    | some o => !memN i (acc.map (·.1)) && edgesDone acc o.after.toList && fitsBehind cx ops o (befOf acc o.after.toList) acc && selfOk o &&
        okOrder cx ops r ((i, befOf acc o.after.toList) :: acc)
    | none => false
/-- What a load reads, whole. -/
def readH (cx : Cx) (h : Heap) (a : Addr) (t : TypeId) : Option Value :=
  match cx.P.underlying t with
  | some d => match aggD d with
    | true => match cx.P.info? t with
      | some i => (rdn h a i.size).map fun l => .agg ⟨l⟩
      | none => none
    | false => rd h a
  | none => none
def readC (cx : Cx) (c : List Value) (off : Nat) (t : TypeId) : Option Value :=
  match cx.P.underlying t with
  | some d => match aggD d with
    | true => match cx.P.info? t with
      | some i => (sub c off i.size).map fun l => .agg ⟨l⟩
      | none => none
    | false => c[off]?
  | none => none
def readE (cx : Cx) (h : Heap) (L : List LC) (t : TypeId) : EV → Option Value
  | .loc i off _ => match L[i]? with
    | some (.live c _) => readC cx c off t
    | some (.mat b) => readH cx h ⟨b, off, none⟩ t
    | none => none
  | .v (.pointer (some a)) => readH cx h a t
  | _ => none
/-- What a conversion reads, it reads again. -/
def convAgain (s s' : St) (ev : EV) : Prop :=
  match ev with
  | .v (.slice (some a) len _) => rdn s'.h a len = rdn s.h a len
  | .sl i off len _ => match s.loc[i]?, s'.loc[i]? with
    | some (.live c _), some (.live c' _) => sub c' off len = sub c off len
    | _, _ => False
  | _ => True
/-- A read that may come behind a change reads the same there. -/
def again (cx : Cx) (r : Oper) (s s' : St) : Prop :=
  match r.dst with
  | none => False
  | some d => match lk s.env d with
    | some (.v (.tuple ⟨[]⟩)) => True
    | _ => match r.op with
      | .load t x => match getE s x with
        | some ev => readE cx s'.h s'.loc t ev = readE cx s.h s.loc t ev
        | none => False
      | .convert _ _ x => match getE s x with
        | some ev => convAgain s s' ev
        | none => False
      | _ => False
/-- Does a read that may wait, and is no load, answer as one that was skipped? -/
def isUn (op : Op) : EV → Bool
  | .v (.tuple ⟨[]⟩) => match op with
    | .load .. => false
    | .convert .. => false
    | _ => true
  | _ => false
def readsMem : Op → Bool
  | .load .. => true
  | .lookup .. => true
  | .convert .. => true
  | .binOp .. => false
  | _ => false
/-- All reads that were taken and are not bound ahead. -/
def againAll (cx : Cx) (ops : Array Oper) (b : List Nat) (s s' : St) : List Nat → Prop → Prop
  | [], K => K
  | i :: r, K => match ops[i]? with
    | some o => match readsMem o.op && !memN i b with
      | true => again cx o s s' ∧ againAll cx ops b s s' r K
      | false => againAll cx ops b s s' r K
    | none => False
def evD (cx : Cx) (ops : Array Oper) : List Nat → List (Nat × List Nat) → St → (St → Prop) → Prop
  | [], _, s, K => K s
  | i :: rest, acc, s, K => match ops[i]? with
    | some o => evGuard cx ops o s
        (fun s => match isPR cx o.op with
          | true => prOp cx o.op (getE s) s.h s.loc fun e => match readsMem o.op && isUn o.op e with
            | true => False
            | false => s.put cx o.dst e fun s'' => evD cx ops rest ((i, befOf acc o.after.toList) :: acc) s'' K
          | false => evE cx o s fun e s' => againAll cx ops (befOf acc o.after.toList) s s' (acc.map (·.1)) (s'.put cx o.dst e fun s'' => evD cx ops rest ((i, befOf acc o.after.toList) :: acc) s'' K))
        (fun s => s.put cx o.dst (.v undef) fun s'' => evD cx ops rest ((i, befOf acc o.after.toList) :: acc) s'' K)
    | none => False

/-- A region in which one operation is bound behind another. -/
def bound (ops : Array Oper) (x y : Nat) : Array Oper :=
  match ops[y]? with
  | some o => ops.setIfInBounds y { o with after := o.after.push ⟨x, .data⟩ }
  | none => ops
/-- A region in any order: split by which of two comes first, as often as is told. -/
def evR (cx : Cx) : An → Array Oper → St → (St → Prop) → Prop
  | .nd _ _ (x :: y :: _) (.nd j lo o l r) b, ops, s, K => match Nat.beq x y with
    | true => False
    | false => evR cx (.nd j lo o l r) (bound ops x y) s K ∧ evR cx b (bound ops y x) s K
  | an, ops, s, K => match okOrder cx ops an.ord [] with
    | true => evD cx ops an.ord [] s K
    | false => False

/-- Locals that a region's computing wants as values come out of hiding ahead of it. -/
def matS : List Operand → St → (St → Prop) → Prop
  | [], s, K => K s
  | x :: r, s, K => match getE s x with
    | some e => matE s e fun _ s' => matS r s' K
    | none => matS r s K
def wants (cx : Cx) : List Oper → List Operand
  | [] => []
  | o :: r => match isPR cx o.op with
    | true => wantV o.op ++ wants cx r
    | false => wants cx r

/-! ### Statements -/

/-- Ways that meet: what follows is told once, of the outs. -/
def joinW (ws : List Nat) (os : Option (List Out)) (s : St) (K : Exi → St → Prop) (body : St → (Exi → St → Prop) → Prop) : Prop :=
  match os with
  | none => body s K
  | some os => match outsOk s.loc os with
    | false => False
    | true => ∀ J : TO Prop os, allO Prop os (s.forget ws os) J (fun s' Jx => K .normal s' → Jx) →
      body { s with tch := [] } fun e s' => match e with
        | .normal => matOuts os s' fun s' => match okTouch s.loc.length (outLocs os) s'.tch with
          | true => atO Prop os s' J fun Jx => Jx
          | false => False
        | .exit i => K (.exit i) { s' with tch := s'.tch ++ s.tch }
        | .ret => K .ret { s' with tch := s'.tch ++ s.tch }

def evC (cx : Cx) : Code → An → St → (Exi → St → Prop) → Prop
  | .skip, _, s, K => K .normal s
  | .region _ ops draw, an, s, K => matOuts an.lo s fun s => joinW (dsts ops.toList) an.j s K fun s K => match draw with
    | false => evOps cx ops ops.toList s (K .normal)
    | true => matS (wants cx ops.toList) s fun s => evR cx an ops s (K .normal)
  | .seq a b, an, s, K => joinW (writes a ++ writes b) an.j s K fun s K => evC cx a an.l s fun e s' => match e with
    | .normal => evC cx b an.r s' K
    | .exit i => K (.exit i) s'
    | .ret => K .ret s'
  | .cond c a b, an, s, K => matOuts an.lo s fun s => joinW (writes a ++ writes b) an.j s K fun s K => match getE s c with
    | some (.lit true) => evC cx a an.l s K
    | some (.lit false) => evC cx b an.r s K
    | some (.v (.bool t)) => (t = true → evC cx a an.l s K) ∧ (t = false → evC cx b an.r s K)
    | _ => False
  | .block id b, an, s, K => matOuts an.lo s fun s => joinW (writes b) an.j s K fun s K => evC cx b an.l s fun e s' => match e with
    | .exit i => match Nat.beq i id with
      | true => K .normal s'
      | false => K (.exit i) s'
    | .normal => K .normal s'
    | .ret => K .ret s'
  | .loop b, an, s, K => matOuts an.lo s fun s => match outsOk s.loc an.lo with
    | false => False
    | true => ∃ F : TO (Prop × Nat) an.lo, atO (Prop × Nat) an.lo s F (fun p => p.1) ∧
      allO (Prop × Nat) an.lo (s.forget (writes b) an.lo) F fun s₁ p => p.1 → evC cx b an.l { s₁ with tch := [] } fun e s' => match e with
        | .normal => matOuts an.lo s' fun s' => match okTouch s.loc.length (outLocs an.lo) s'.tch with
          | true => atO (Prop × Nat) an.lo s' F fun p' => p'.1 ∧ p'.2 < p.2
          | false => False
        | .exit i => K (.exit i) { s' with tch := s'.tch ++ s₁.tch }
        | .ret => K .ret { s' with tch := s'.tch ++ s₁.tch }
  | .exit id, _, s, K => K (.exit id) s
  | .ret, _, s, K => K .ret s
  | .scope b, an, s, K => evC cx b an.l s K
  | _, _, _, _ => False

/-! ### Functions -/

def argsE : Nat → List Value → List (Nat × EV)
  | _, [] => []
  | i, v :: r => (i, .v v) :: argsE (i + 1) r
def retL (cx : Cx) (s : St) : List ResultVar → (List Value → St → Prop) → Prop
  | [], K => K [] s
  | .tmp t :: r, K => match lk s.env t with
    | some e => matE s e fun v s' => match v with
      | .tuple _ => False
      | v => retL cx s' r fun vs s'' => K (v :: vs) s''
    | none => False
  | .cell t ty :: r, K => prOp cx (.load ty (.tmp t)) (getE s) s.h s.loc fun e => matE s e fun v s' => match v with
    | .tuple _ => False
    | v => retL cx s' r fun vs s'' => K (v :: vs) s''
def retV (cx : Cx) (fn : Func) (s : St) (Q : Value → Heap → Prop) : Prop :=
  retL cx s fn.results.toList fun vs s' => match vs with
    | [v] => Q v s'.h
    | vs => Q (.tuple ⟨vs⟩) s'.h
def evF (P : Program) (τ : TypeId → Option Ty) (ok : TOk τ) (f : FuncId) (an : An) (args : List Value) (h : Heap) (Q : Value → Heap → Prop) : Prop :=
  match P.funcs[f]? with
  | some fn => match fn.body with
    | some c =>
      let cx : Cx := ⟨P, τ, max fn.ntmps args.length, ok⟩
      evC cx c an ⟨argsE 0 args, [], h, []⟩ fun e s => match e with
        | .exit _ => False
        | .normal => retV cx fn s Q
        | .ret => retV cx fn s Q
    | none => False
  | none => False
end Go.Vw
