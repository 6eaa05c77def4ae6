/-
  Conditions of functions, printed by a tool of mine (vcs.py). Stores in memory: texts by their sums; what 'store.New', 'Put', 'Get', 'Node' come to. Stores in memory: what sums reach. A map's keys, sorted: 'slices.Sorted(maps.Keys(m))', by the kit's shelf's contracts, laid at this program.
-/
import Derived.Test.YtomcnpeeelhpcaaGreatDoorVwBase0
import Derived.Test.YtomcnpeeelhpcaaGreatDoorPah
import Derived.Shelf.SlIter.Nil
import Derived.Shelf.SlIterI.Nil
import Derived.Shelf.SortM.Plain
import Derived.Shelf.SortM.SortNone
import Derived.StringKeys
namespace Go.Vw
open Go Go.Proofs

/- pharos/store.New -/
def an66 : An := .leaf
def VC66 (h : Heap) (Q : Value → Heap → Prop) : Prop :=
 (∀ r : Nat,
 (((h r) = Option.none) →
 (∀ b : Nat,
 (((Heap.set h r (Obj.map ⟨[]⟩ 0) b) = Option.none) →
  (Q (Value.pointer (Option.some (Addr.mk b 0 Option.none))) (Heap.set (Heap.set h r (Obj.map ⟨[]⟩ 0)) b (Obj.cells ⟨[(Value.map (Option.some r))]⟩ 270 (Prod.mk 0 0))))))))
theorem vc66 (h : Heap) (Q : Value → Heap → Prop) : evF Tryz.prog τ tok 66 an66 [] h Q = VC66  h Q := by kernel_rfl
theorem ok66 {h : Heap} {Q : Value → Heap → Prop} (hv : VC66  h Q) : Spec Tryz.prog 66 [] h Q := evF_sound (P := Tryz.prog) (τ := τ) (ok := tok) (an := an66) (fun _ => drawn mixed) (by rw [vc66]; exact hv)

/- (*pharos/store.Store).Put -/
def an160 : An := (.nd none [] [] .leaf (.nd none [] [] .leaf (.nd none [] [] (.nd none [] [] .leaf (.nd none [] [] .leaf (.nd (some []) [] [] .leaf .leaf))) .leaf)))
def VC160 (s : Option Addr) (text : List UInt8) (h : Heap) (Q : Value → Heap → Prop) : Prop :=
 (Spec Tryz.prog 220 [(Value.int IntKind.i64 (1 : Int)), (S text)] h (fun v h1 =>
 (∃ l : (List UInt8),
 (∃ n : Int,
 ((v = (Value.tuple ⟨[(S l), (Value.int IntKind.i64 n)]⟩)) ∧
  (∃ ad : Addr,
  ((s = (Option.some ad)) ∧
  (∃ p : (Option Nat),
  (((rd h1 (Addr.add ad 0)) = (Option.some (Value.map p))) ∧
   (∃ l1 : (List (Prod (List UInt8) Sl)),
   ((mapIs h1 p Ty.str Ty.slice l1) ∧
   ((∀ sl : Sl,
    (((kFind Ty.str l1 l) = (Option.some sl)) →
    (∀ J : (Heap → Prop),
    (((∀ h2 : Heap,
     ((Q (S l) h2) →
     (J h2)))) →
    (((Bool.false = Bool.true) →
     (∃ ad1 : Addr,
     ((s = (Option.some ad1)) ∧
     (∃ p1 : (Option Nat),
      (((rd h1 (Addr.add ad1 0)) = (Option.some (Value.map p1))) ∧
      (∀ b : Nat,
      (∀ cap : Nat,
      (∀ l2 : (List Value),
       (((h1 b) = Option.none) →
       (((List.length text) ≤ cap) →
       (((List.length l2) = (cap - (List.length text))) →
       (((∀ va : Value,
        ((Membership.mem l2 va) →
        (va = (Value.int IntKind.u8 (0 : Int)))))) →
        (∃ m : Nat,
        (∃ l3 : (List (Prod (List UInt8) Sl)),
        ((p1 = (Option.some m)) ∧
        ((mapIs (Heap.set h1 b (Obj.cells ⟨((List.map byteV text) ++ l2)⟩ 5 (Prod.mk ((List.length text) + (List.length l2)) (((List.length text) + (List.length l2)) + 1)))) p1 Ty.str Ty.slice l3) ∧
         (∃ sl1 : Sl,
         (((Value.slice (Option.some (Addr.mk b 0 Option.none)) (List.length text) cap) = (Value.slice (sl1).a (sl1).len (sl1).cap)) ∧
         (∀ x : (Array MapEntry),
         (∀ clock : Nat,
         (((List.map (fun (ma : MapEntry) => (Prod.mk (ma).key (ma).val)) (x).toList) = (List.map (fun (x1 : (Prod (Ty.T Ty.str) (Ty.T ((Prod.mk (144 : Nat) Ty.slice)).snd))) => (Prod.mk (S (x1).fst) (Value.slice ((x1).snd).a ((x1).snd).len ((x1).snd).cap))) (kPut Ty.str l3 l sl1))) →
         (J (Heap.set (Heap.set h1 b (Obj.cells ⟨((List.map byteV text) ++ l2)⟩ 5 (Prod.mk ((List.length text) + (List.length l2)) (((List.length text) + (List.length l2)) + 1)))) m (Obj.map x clock)))))))))))))))))))))))) ∧
     ((Bool.false = Bool.false) →
     (J h1))))))) ∧
   (((kFind Ty.str l1 l) = Option.none) →
    (∀ J1 : (Heap → Prop),
    (((∀ h3 : Heap,
    ((Q (S l) h3) →
     (J1 h3)))) →
    (((Bool.true = Bool.true) →
     (∃ ad2 : Addr,
     ((s = (Option.some ad2)) ∧
     (∃ p2 : (Option Nat),
     (((rd h1 (Addr.add ad2 0)) = (Option.some (Value.map p2))) ∧
      (∀ b1 : Nat,
      (∀ cap1 : Nat,
      (∀ l4 : (List Value),
      (((h1 b1) = Option.none) →
       (((List.length text) ≤ cap1) →
       (((List.length l4) = (cap1 - (List.length text))) →
       (((∀ va1 : Value,
        ((Membership.mem l4 va1) →
        (va1 = (Value.int IntKind.u8 (0 : Int)))))) →
       (∃ m1 : Nat,
        (∃ l5 : (List (Prod (List UInt8) Sl)),
        ((p2 = (Option.some m1)) ∧
        ((mapIs (Heap.set h1 b1 (Obj.cells ⟨((List.map byteV text) ++ l4)⟩ 5 (Prod.mk ((List.length text) + (List.length l4)) (((List.length text) + (List.length l4)) + 1)))) p2 Ty.str Ty.slice l5) ∧
        (∃ sl2 : Sl,
         (((Value.slice (Option.some (Addr.mk b1 0 Option.none)) (List.length text) cap1) = (Value.slice (sl2).a (sl2).len (sl2).cap)) ∧
         (∀ x2 : (Array MapEntry),
         (∀ clock1 : Nat,
         (((List.map (fun (ma1 : MapEntry) => (Prod.mk (ma1).key (ma1).val)) (x2).toList) = (List.map (fun (x3 : (Prod (Ty.T Ty.str) (Ty.T ((Prod.mk (144 : Nat) Ty.slice)).snd))) => (Prod.mk (S (x3).fst) (Value.slice ((x3).snd).a ((x3).snd).len ((x3).snd).cap))) (kPut Ty.str l5 l sl2))) →
         (J1 (Heap.set (Heap.set h1 b1 (Obj.cells ⟨((List.map byteV text) ++ l4)⟩ 5 (Prod.mk ((List.length text) + (List.length l4)) (((List.length text) + (List.length l4)) + 1)))) m1 (Obj.map x2 clock1)))))))))))))))))))))))) ∧
    ((Bool.true = Bool.false) →
     (J1 h1))))))))))))))))))
theorem vc160 (s : Option Addr) (text : List UInt8) (h : Heap) (Q : Value → Heap → Prop) : evF Tryz.prog τ tok 160 an160 [.pointer s, S text] h Q = VC160 s text h Q := by kernel_rfl
theorem ok160 {s : Option Addr} {text : List UInt8} {h : Heap} {Q : Value → Heap → Prop} (hv : VC160 s text h Q) : Spec Tryz.prog 160 [.pointer s, S text] h Q := evF_sound (P := Tryz.prog) (τ := τ) (ok := tok) (an := an160) (fun _ => drawn mixed) (by rw [vc160]; exact hv)

/- (*pharos/store.Store).Get -/
def an321 : An := .leaf
def VC321 (s : Option Addr) (sum : List UInt8) (h : Heap) (Q : Value → Heap → Prop) : Prop :=
 (∃ ad : Addr,
 ((s = (Option.some ad)) ∧
 (∃ p : (Option Nat),
 (((rd h (Addr.add ad 0)) = (Option.some (Value.map p))) ∧
  (∃ l : (List (Prod (List UInt8) Sl)),
  ((mapIs h p Ty.str Ty.slice l) ∧
  ((∀ sl : Sl,
   (((kFind Ty.str l sum) = (Option.some sl)) →
   (Option.elim (sl).a (
   (Q (Value.tuple ⟨[(S []), (Value.bool Bool.true)]⟩) h))
   (fun (ad1 : Addr) =>
   (∃ l1 : (List UInt8),
    (((rdn h ad1 (sl).len) = (Option.some (List.map byteV l1))) ∧
    (Q (Value.tuple ⟨[(S l1), (Value.bool Bool.true)]⟩) h))))))) ∧
  (((kFind Ty.str l sum) = Option.none) →
   (Q (Value.tuple ⟨[(S []), (Value.bool Bool.false)]⟩) h)))))))))
theorem vc321 (s : Option Addr) (sum : List UInt8) (h : Heap) (Q : Value → Heap → Prop) : evF Tryz.prog τ tok 321 an321 [.pointer s, S sum] h Q = VC321 s sum h Q := by kernel_rfl
theorem ok321 {s : Option Addr} {sum : List UInt8} {h : Heap} {Q : Value → Heap → Prop} (hv : VC321 s sum h Q) : Spec Tryz.prog 321 [.pointer s, S sum] h Q := evF_sound (P := Tryz.prog) (τ := τ) (ok := tok) (an := an321) (fun _ => drawn mixed) (by rw [vc321]; exact hv)

/- (*pharos/store.Store).Node -/
def an246 : An := .leaf
def VC246 (s : Option Addr) (sum : List UInt8) (h : Heap) (Q : Value → Heap → Prop) : Prop :=
 (Spec Tryz.prog 321 [(Value.pointer s), (S sum)] h (fun v h1 =>
 (∃ l : (List UInt8),
 (∃ b : Bool,
 ((v = (Value.tuple ⟨[(S l), (Value.bool b)]⟩)) ∧
  ((((!b) = Bool.true) →
  ((((List.length [(Value.int IntKind.i64 (0 : Int)), (S []), (S []), (S []), (S []), (S []), (S []), (S []), (S []), (S []), (S []), (S []), (S []), (S []), (S []), (S []), (S []), (S []), (S [])]) = (19 : Nat)) ∧
   ((List.length [(Value.int IntKind.i64 (0 : Int)), (S []), (S []), (S []), (S []), (S []), (S []), (S []), (S []), (S []), (S []), (S []), (S []), (S []), (S []), (S []), (S []), (S []), (S [])]) = 19)) ∧
  (((List.length [(Value.int IntKind.i64 (0 : Int)), (S []), (S []), (S []), (S []), (S []), (S []), (S []), (S []), (S []), (S []), (S []), (S []), (S []), (S []), (S []), (S []), (S []), (S [])]) = (19 : Nat)) ∧
   (Q (Value.tuple ⟨[(Value.agg ⟨[(Value.int IntKind.i64 (0 : Int)), (S []), (S []), (S []), (S []), (S []), (S []), (S []), (S []), (S []), (S []), (S []), (S []), (S []), (S []), (S []), (S []), (S []), (S [])]⟩), (Value.int IntKind.i64 (90 : Int))]⟩) h1)))) ∧
  (((!b) = Bool.false) →
  (Spec Tryz.prog 322 [(S l)] h1 (fun v1 h2 =>
  (∃ ga : GApiNode,
   (∃ n : Int,
   ((v1 = (Value.tuple ⟨[(Value.agg ⟨(cGApiNode ga)⟩), (Value.int IntKind.i64 n)]⟩)) ∧
   ((((List.length (cGApiNode ga)) = (19 : Nat)) ∧
    ((List.length (cGApiNode ga)) = 19)) ∧
   (((List.length (cGApiNode ga)) = (19 : Nat)) ∧
    (Q (Value.tuple ⟨[(Value.agg ⟨(cGApiNode ga)⟩), (Value.int IntKind.i64 n)]⟩) h2)))))))))))))))
theorem vc246 (s : Option Addr) (sum : List UInt8) (h : Heap) (Q : Value → Heap → Prop) : evF Tryz.prog τ tok 246 an246 [.pointer s, S sum] h Q = VC246 s sum h Q := by kernel_rfl
theorem ok246 {s : Option Addr} {sum : List UInt8} {h : Heap} {Q : Value → Heap → Prop} (hv : VC246 s sum h Q) : Spec Tryz.prog 246 [.pointer s, S sum] h Q := evF_sound (P := Tryz.prog) (τ := τ) (ok := tok) (an := an246) (fun _ => drawn mixed) (by rw [vc246]; exact hv)

/- (*pharos/store.Store).Sums -/
def an159 : An := .leaf
def VC159 (s : Option Addr) (h : Heap) (Q : Value → Heap → Prop) : Prop :=
 (∃ ad : Addr,
 ((s = (Option.some ad)) ∧
 (∃ p : (Option Nat),
 (((rd h (Addr.add ad 0)) = (Option.some (Value.map p))) ∧
  (Spec Tryz.prog 242 [(Value.map p)] h (fun v h1 =>
  (∃ fn : FnV,
  ((v = (Value.func (fn).fn (fn).first (fn).captured)) ∧
  (Spec Tryz.prog 241 [(Value.func (fn).fn (fn).first (fn).captured)] h1 (fun v1 h2 =>
   (∃ sl : Sl,
   ((v1 = (Value.slice (sl).a (sl).len (sl).cap)) ∧
   (Q (Value.slice (sl).a (sl).len (sl).cap) h2)))))))))))))
theorem vc159 (s : Option Addr) (h : Heap) (Q : Value → Heap → Prop) : evF Tryz.prog τ tok 159 an159 [.pointer s] h Q = VC159 s h Q := by kernel_rfl
theorem ok159 {s : Option Addr} {h : Heap} {Q : Value → Heap → Prop} (hv : VC159 s h Q) : Spec Tryz.prog 159 [.pointer s] h Q := evF_sound (P := Tryz.prog) (τ := τ) (ok := tok) (an := an159) (fun _ => drawn mixed) (by rw [vc159]; exact hv)

/- (*pharos/store.Store).reached -/
def an164 : An := (.nd none [] [] .leaf (.nd none [] [] .leaf (.nd none [] [] .leaf (.nd none [] [] (.nd none [] [] (.nd none [.slot 6 .slice] [] (.nd none [] [] .leaf (.nd (some [.slot 6 .slice]) [] [] (.nd none [] [] .leaf (.nd none [] [] .leaf (.nd none [] [] (.nd none [] [] .leaf (.nd none [] [] (.nd (some [.slot 45 .bool]) [] [] .leaf .leaf) .leaf)) (.nd none [] [] .leaf (.nd none [] [] .leaf (.nd none [] [] .leaf (.nd (some [.slot 6 .slice]) [] [] .leaf .leaf))))))) .leaf)) .leaf) .leaf) .leaf))))
def VC164 (s : Option Addr) (sums : Sl) (h : Heap) (Q : Value → Heap → Prop) : Prop :=
 (∀ r : Nat,
 (((h r) = Option.none) →
 (Spec Tryz.prog 151 [(Value.slice (sums).a (sums).len (sums).cap)] (Heap.set h r (Obj.map ⟨[]⟩ 0)) (fun v h1 =>
 (∃ sl : Sl,
  ((v = (Value.slice (sl).a (sl).len (sl).cap)) ∧
  (∃ k : (Sl → (Heap → (Prod Prop Nat))),
  (((k (Sl.mk (sl).a (sl).len (sl).cap) h1)).fst ∧
  (∀ sl1 : Sl,
   (∀ h2 : Heap,
   (((k sl1 h2)).fst →
   ((((decide ((((sl1).len : Nat) : Int) > (0 : Int))) = Bool.true) →
    (∀ J : (Sl → (Heap → Prop)),
    (((∀ sl2 : Sl,
    (∀ h3 : Heap,
     (((((k (Sl.mk (sl2).a (sl2).len (sl2).cap) h3)).fst ∧
     (((k (Sl.mk (sl2).a (sl2).len (sl2).cap) h3)).snd < ((k sl1 h2)).snd))) →
     (J sl2 h3))))) →
    ((((0 : Int) ≤ (IntKind.wrap IntKind.i64 ((((sl1).len : Nat) : Int) - (1 : Int)))) ∧
     ((IntKind.wrap IntKind.i64 ((((sl1).len : Nat) : Int) - (1 : Int))) < (((sl1).len : Nat) : Int))) ∧
    (∃ ad : Addr,
     (((sl1).a = (Option.some ad)) ∧
     (∃ l : (List UInt8),
     (((rd h2 (Addr.add ad ((Int.toNat (IntKind.wrap IntKind.i64 ((((sl1).len : Nat) : Int) - (1 : Int)))) * (1 : Nat)))) = (Option.some (S l))) ∧
     (((0 : Int) ≤ (IntKind.wrap IntKind.i64 ((((sl1).len : Nat) : Int) - (1 : Int)))) ∧
      (((0 ≤ (Int.toNat (IntKind.wrap IntKind.i64 ((((sl1).len : Nat) : Int) - (1 : Int))))) ∧
      (((Int.toNat (IntKind.wrap IntKind.i64 ((((sl1).len : Nat) : Int) - (1 : Int)))) ≤ (sl1).cap) ∧
      ((sl1).cap ≤ (sl1).cap))) ∧
      (((Bool.false = Bool.true) →
      (Bool.true = Bool.true)) ∧
      (∃ ad1 : Addr,
      ((s = (Option.some ad1)) ∧
       (∃ p : (Option Nat),
       (((rd h2 (Addr.add ad1 0)) = (Option.some (Value.map p))) ∧
       (∃ l1 : (List (Prod (List UInt8) Sl)),
       ((mapIs h2 p Ty.str Ty.slice l1) ∧
        ((∀ sl3 : Sl,
        (((kFind Ty.str l1 l) = (Option.some sl3)) →
        (∀ J1 : (Bool → (Heap → Prop)),
         (((∀ b : Bool,
         (∀ h4 : Heap,
         (((((b = Bool.true) →
         (J (Sl.mk (Option.map (fun (ad2 : Addr) => (if ((sl1).cap = 0) then ad2 else (Addr.add ad2 (0 * (1 : Nat))))) ((Sl.mk (sl1).a (sl1).len (sl1).cap)).a) ((Int.toNat (IntKind.wrap IntKind.i64 ((((sl1).len : Nat) : Int) - (1 : Int)))) - 0) ((sl1).cap - 0)) h4)) ∧
         ((b = Bool.false) →
         (∃ l2 : (List (Prod (List UInt8) Int)),
         ((mapIs h4 (Option.some r) Ty.str (Ty.int IntKind.i64) l2) ∧
         ((∀ n : Int,
         (((kFind Ty.str l2 l) = (Option.some n)) →
         (∃ m : Nat,
         (∃ l3 : (List (Prod (List UInt8) Int)),
         (((Option.some r) = (Option.some m)) ∧
         ((mapIs h4 (Option.some r) Ty.str (Ty.int IntKind.i64) l3) ∧
         (∃ n1 : Int,
         (((Value.int IntKind.i64 (IntKind.wrap IntKind.i64 (n + (1 : Int)))) = (Value.int IntKind.i64 n1)) ∧
         (∀ x : (Array MapEntry),
         (∀ clock : Nat,
         (((List.map (fun (ma : MapEntry) => (Prod.mk (ma).key (ma).val)) (x).toList) = (List.map (fun (x1 : (Prod (Ty.T Ty.str) (Ty.T ((Prod.mk (3 : Nat) (Ty.int IntKind.i64))).snd))) => (Prod.mk (S (x1).fst) (Value.int IntKind.i64 (x1).snd))) (kPut Ty.str l3 l n1))) →
         (Spec Tryz.prog 246 [(Value.pointer s), (S l)] (Heap.set h4 m (Obj.map x clock)) (fun v1 h5 =>
         (∃ ga : GApiNode,
         (∃ n2 : Int,
         ((v1 = (Value.tuple ⟨[(Value.agg ⟨(cGApiNode ga)⟩), (Value.int IntKind.i64 n2)]⟩)) ∧
         ((((List.length (cGApiNode ga)) = (19 : Nat)) ∧
         ((List.length (cGApiNode ga)) = 19)) ∧
         (∀ J2 : (Sl → (Heap → Prop)),
         (((∀ sl4 : Sl,
         (∀ h6 : Heap,
         ((J (Sl.mk (sl4).a (sl4).len (sl4).cap) h6) →
         (J2 sl4 h6))))) →
         ((((n2 == (0 : Int)) = Bool.true) →
         (((List.length (cGApiNode ga)) = (19 : Nat)) ∧
         (Spec Tryz.prog 247 [(Value.agg ⟨(cGApiNode ga)⟩)] h5 (fun v2 h7 =>
         (∃ sl5 : Sl,
         ((v2 = (Value.slice (sl5).a (sl5).len (sl5).cap)) ∧
         (∃ l4 : (List Value),
         (∃ l5 : (List Value),
         (((rowOf h7 (Option.map (fun (ad3 : Addr) => (if ((sl1).cap = 0) then ad3 else (Addr.add ad3 (0 * (1 : Nat))))) ((Sl.mk (sl1).a (sl1).len (sl1).cap)).a) (((Int.toNat (IntKind.wrap IntKind.i64 ((((sl1).len : Nat) : Int) - (1 : Int)))) - 0) * (1 : Nat))) = (Option.some l4)) ∧
         (((rowOf h7 (sl5).a ((sl5).len * (1 : Nat))) = (Option.some l5)) ∧
         ((∀ va : Value,
         ((Membership.mem l5 va) →
         ((one va) = Bool.true))) ∧
         ((((((Int.toNat (IntKind.wrap IntKind.i64 ((((sl1).len : Nat) : Int) - (1 : Int)))) - 0) + (sl5).len) * (16 : Nat)) ≤ 140737488355328) ∧
         (((((Int.toNat (IntKind.wrap IntKind.i64 ((((sl1).len : Nat) : Int) - (1 : Int)))) - 0) + (sl5).len) ≤ 9223372036854775807) ∧
         ((((((Int.toNat (IntKind.wrap IntKind.i64 ((((sl1).len : Nat) : Int) - (1 : Int)))) - 0) + (sl5).len) ≤ ((sl1).cap - 0)) →
         (∀ ad4 : Addr,
         (((Option.map (fun (ad5 : Addr) => (if ((sl1).cap = 0) then ad5 else (Addr.add ad5 (0 * (1 : Nat))))) ((Sl.mk (sl1).a (sl1).len (sl1).cap)).a) = (Option.some ad4)) →
         ((Option.isSome (wr h7 (Addr.add ad4 (((Int.toNat (IntKind.wrap IntKind.i64 ((((sl1).len : Nat) : Int) - (1 : Int)))) - 0) * (1 : Nat))) l5)) = Bool.true)))) ∧
         ((((Option.map (fun (ad6 : Addr) => (if ((sl1).cap = 0) then ad6 else (Addr.add ad6 (0 * (1 : Nat))))) ((Sl.mk (sl1).a (sl1).len (sl1).cap)).a) = Option.none) →
         (((((Int.toNat (IntKind.wrap IntKind.i64 ((((sl1).len : Nat) : Int) - (1 : Int)))) - 0) + (sl5).len) ≤ ((sl1).cap - 0)) →
         (l5 = []))) ∧
         (∀ sl6 : Sl,
         (∀ h8 : Heap,
         ((AppRes h7 (Sl.mk (Option.map (fun (ad7 : Addr) => (if ((sl1).cap = 0) then ad7 else (Addr.add ad7 (0 * (1 : Nat))))) ((Sl.mk (sl1).a (sl1).len (sl1).cap)).a) ((Int.toNat (IntKind.wrap IntKind.i64 ((((sl1).len : Nat) : Int) - (1 : Int)))) - 0) ((sl1).cap - 0)) (1 : Nat) 9 l4 l5 (sl5).len sl6 h8) →
         (J2 (Sl.mk (sl6).a (sl6).len (sl6).cap) h8))))))))))))))))))) ∧
         (((n2 == (0 : Int)) = Bool.false) →
         (J2 (Sl.mk (Option.map (fun (ad8 : Addr) => (if ((sl1).cap = 0) then ad8 else (Addr.add ad8 (0 * (1 : Nat))))) ((Sl.mk (sl1).a (sl1).len (sl1).cap)).a) ((Int.toNat (IntKind.wrap IntKind.i64 ((((sl1).len : Nat) : Int) - (1 : Int)))) - 0) ((sl1).cap - 0)) h5)))))))))))))))))))))) ∧
         (((kFind Ty.str l2 l) = Option.none) →
         (∃ m1 : Nat,
         (∃ l6 : (List (Prod (List UInt8) Int)),
         (((Option.some r) = (Option.some m1)) ∧
         ((mapIs h4 (Option.some r) Ty.str (Ty.int IntKind.i64) l6) ∧
         (∃ n3 : Int,
         (((Value.int IntKind.i64 (1 : Int)) = (Value.int IntKind.i64 n3)) ∧
         (∀ x2 : (Array MapEntry),
         (∀ clock1 : Nat,
         (((List.map (fun (ma1 : MapEntry) => (Prod.mk (ma1).key (ma1).val)) (x2).toList) = (List.map (fun (x3 : (Prod (Ty.T Ty.str) (Ty.T ((Prod.mk (3 : Nat) (Ty.int IntKind.i64))).snd))) => (Prod.mk (S (x3).fst) (Value.int IntKind.i64 (x3).snd))) (kPut Ty.str l6 l n3))) →
         (Spec Tryz.prog 246 [(Value.pointer s), (S l)] (Heap.set h4 m1 (Obj.map x2 clock1)) (fun v3 h9 =>
         (∃ ga1 : GApiNode,
         (∃ n4 : Int,
         ((v3 = (Value.tuple ⟨[(Value.agg ⟨(cGApiNode ga1)⟩), (Value.int IntKind.i64 n4)]⟩)) ∧
         ((((List.length (cGApiNode ga1)) = (19 : Nat)) ∧
         ((List.length (cGApiNode ga1)) = 19)) ∧
         (∀ J3 : (Sl → (Heap → Prop)),
         (((∀ sl7 : Sl,
         (∀ h10 : Heap,
         ((J (Sl.mk (sl7).a (sl7).len (sl7).cap) h10) →
         (J3 sl7 h10))))) →
         ((((n4 == (0 : Int)) = Bool.true) →
         (((List.length (cGApiNode ga1)) = (19 : Nat)) ∧
         (Spec Tryz.prog 247 [(Value.agg ⟨(cGApiNode ga1)⟩)] h9 (fun v4 h11 =>
         (∃ sl8 : Sl,
         ((v4 = (Value.slice (sl8).a (sl8).len (sl8).cap)) ∧
         (∃ l7 : (List Value),
         (∃ l8 : (List Value),
         (((rowOf h11 (Option.map (fun (ad9 : Addr) => (if ((sl1).cap = 0) then ad9 else (Addr.add ad9 (0 * (1 : Nat))))) ((Sl.mk (sl1).a (sl1).len (sl1).cap)).a) (((Int.toNat (IntKind.wrap IntKind.i64 ((((sl1).len : Nat) : Int) - (1 : Int)))) - 0) * (1 : Nat))) = (Option.some l7)) ∧
         (((rowOf h11 (sl8).a ((sl8).len * (1 : Nat))) = (Option.some l8)) ∧
         ((∀ va1 : Value,
         ((Membership.mem l8 va1) →
         ((one va1) = Bool.true))) ∧
         ((((((Int.toNat (IntKind.wrap IntKind.i64 ((((sl1).len : Nat) : Int) - (1 : Int)))) - 0) + (sl8).len) * (16 : Nat)) ≤ 140737488355328) ∧
         (((((Int.toNat (IntKind.wrap IntKind.i64 ((((sl1).len : Nat) : Int) - (1 : Int)))) - 0) + (sl8).len) ≤ 9223372036854775807) ∧
         ((((((Int.toNat (IntKind.wrap IntKind.i64 ((((sl1).len : Nat) : Int) - (1 : Int)))) - 0) + (sl8).len) ≤ ((sl1).cap - 0)) →
         (∀ ad10 : Addr,
         (((Option.map (fun (ad11 : Addr) => (if ((sl1).cap = 0) then ad11 else (Addr.add ad11 (0 * (1 : Nat))))) ((Sl.mk (sl1).a (sl1).len (sl1).cap)).a) = (Option.some ad10)) →
         ((Option.isSome (wr h11 (Addr.add ad10 (((Int.toNat (IntKind.wrap IntKind.i64 ((((sl1).len : Nat) : Int) - (1 : Int)))) - 0) * (1 : Nat))) l8)) = Bool.true)))) ∧
         ((((Option.map (fun (ad12 : Addr) => (if ((sl1).cap = 0) then ad12 else (Addr.add ad12 (0 * (1 : Nat))))) ((Sl.mk (sl1).a (sl1).len (sl1).cap)).a) = Option.none) →
         (((((Int.toNat (IntKind.wrap IntKind.i64 ((((sl1).len : Nat) : Int) - (1 : Int)))) - 0) + (sl8).len) ≤ ((sl1).cap - 0)) →
         (l8 = []))) ∧
         (∀ sl9 : Sl,
         (∀ h12 : Heap,
         ((AppRes h11 (Sl.mk (Option.map (fun (ad13 : Addr) => (if ((sl1).cap = 0) then ad13 else (Addr.add ad13 (0 * (1 : Nat))))) ((Sl.mk (sl1).a (sl1).len (sl1).cap)).a) ((Int.toNat (IntKind.wrap IntKind.i64 ((((sl1).len : Nat) : Int) - (1 : Int)))) - 0) ((sl1).cap - 0)) (1 : Nat) 9 l7 l8 (sl8).len sl9 h12) →
         (J3 (Sl.mk (sl9).a (sl9).len (sl9).cap) h12))))))))))))))))))) ∧
         (((n4 == (0 : Int)) = Bool.false) →
         (J3 (Sl.mk (Option.map (fun (ad14 : Addr) => (if ((sl1).cap = 0) then ad14 else (Addr.add ad14 (0 * (1 : Nat))))) ((Sl.mk (sl1).a (sl1).len (sl1).cap)).a) ((Int.toNat (IntKind.wrap IntKind.i64 ((((sl1).len : Nat) : Int) - (1 : Int)))) - 0) ((sl1).cap - 0)) h9))))))))))))))))))))))))))) →
         (J1 b h4))))) →
         (((Bool.false = Bool.false) →
         (∃ l9 : (List (Prod (List UInt8) Int)),
         ((mapIs h2 (Option.some r) Ty.str (Ty.int IntKind.i64) l9) ∧
         ((∀ n5 : Int,
         (((kFind Ty.str l9 l) = (Option.some n5)) →
         (J1 (decide (n5 > (0 : Int))) h2))) ∧
         (((kFind Ty.str l9 l) = Option.none) →
         (J1 Bool.false h2)))))) ∧
         ((Bool.false = Bool.true) →
         (J1 Bool.true h2))))))) ∧
        (((kFind Ty.str l1 l) = Option.none) →
        (∀ J4 : (Bool → (Heap → Prop)),
        (((∀ b1 : Bool,
         (∀ h13 : Heap,
         (((((b1 = Bool.true) →
         (J (Sl.mk (Option.map (fun (ad15 : Addr) => (if ((sl1).cap = 0) then ad15 else (Addr.add ad15 (0 * (1 : Nat))))) ((Sl.mk (sl1).a (sl1).len (sl1).cap)).a) ((Int.toNat (IntKind.wrap IntKind.i64 ((((sl1).len : Nat) : Int) - (1 : Int)))) - 0) ((sl1).cap - 0)) h13)) ∧
         ((b1 = Bool.false) →
         (∃ l10 : (List (Prod (List UInt8) Int)),
         ((mapIs h13 (Option.some r) Ty.str (Ty.int IntKind.i64) l10) ∧
         ((∀ n6 : Int,
         (((kFind Ty.str l10 l) = (Option.some n6)) →
         (∃ m2 : Nat,
         (∃ l11 : (List (Prod (List UInt8) Int)),
         (((Option.some r) = (Option.some m2)) ∧
         ((mapIs h13 (Option.some r) Ty.str (Ty.int IntKind.i64) l11) ∧
         (∃ n7 : Int,
         (((Value.int IntKind.i64 (IntKind.wrap IntKind.i64 (n6 + (1 : Int)))) = (Value.int IntKind.i64 n7)) ∧
         (∀ x4 : (Array MapEntry),
         (∀ clock2 : Nat,
         (((List.map (fun (ma2 : MapEntry) => (Prod.mk (ma2).key (ma2).val)) (x4).toList) = (List.map (fun (x5 : (Prod (Ty.T Ty.str) (Ty.T ((Prod.mk (3 : Nat) (Ty.int IntKind.i64))).snd))) => (Prod.mk (S (x5).fst) (Value.int IntKind.i64 (x5).snd))) (kPut Ty.str l11 l n7))) →
         (Spec Tryz.prog 246 [(Value.pointer s), (S l)] (Heap.set h13 m2 (Obj.map x4 clock2)) (fun v5 h14 =>
         (∃ ga2 : GApiNode,
         (∃ n8 : Int,
         ((v5 = (Value.tuple ⟨[(Value.agg ⟨(cGApiNode ga2)⟩), (Value.int IntKind.i64 n8)]⟩)) ∧
         ((((List.length (cGApiNode ga2)) = (19 : Nat)) ∧
         ((List.length (cGApiNode ga2)) = 19)) ∧
         (∀ J5 : (Sl → (Heap → Prop)),
         (((∀ sl10 : Sl,
         (∀ h15 : Heap,
         ((J (Sl.mk (sl10).a (sl10).len (sl10).cap) h15) →
         (J5 sl10 h15))))) →
         ((((n8 == (0 : Int)) = Bool.true) →
         (((List.length (cGApiNode ga2)) = (19 : Nat)) ∧
         (Spec Tryz.prog 247 [(Value.agg ⟨(cGApiNode ga2)⟩)] h14 (fun v6 h16 =>
         (∃ sl11 : Sl,
         ((v6 = (Value.slice (sl11).a (sl11).len (sl11).cap)) ∧
         (∃ l12 : (List Value),
         (∃ l13 : (List Value),
         (((rowOf h16 (Option.map (fun (ad16 : Addr) => (if ((sl1).cap = 0) then ad16 else (Addr.add ad16 (0 * (1 : Nat))))) ((Sl.mk (sl1).a (sl1).len (sl1).cap)).a) (((Int.toNat (IntKind.wrap IntKind.i64 ((((sl1).len : Nat) : Int) - (1 : Int)))) - 0) * (1 : Nat))) = (Option.some l12)) ∧
         (((rowOf h16 (sl11).a ((sl11).len * (1 : Nat))) = (Option.some l13)) ∧
         ((∀ va2 : Value,
         ((Membership.mem l13 va2) →
         ((one va2) = Bool.true))) ∧
         ((((((Int.toNat (IntKind.wrap IntKind.i64 ((((sl1).len : Nat) : Int) - (1 : Int)))) - 0) + (sl11).len) * (16 : Nat)) ≤ 140737488355328) ∧
         (((((Int.toNat (IntKind.wrap IntKind.i64 ((((sl1).len : Nat) : Int) - (1 : Int)))) - 0) + (sl11).len) ≤ 9223372036854775807) ∧
         ((((((Int.toNat (IntKind.wrap IntKind.i64 ((((sl1).len : Nat) : Int) - (1 : Int)))) - 0) + (sl11).len) ≤ ((sl1).cap - 0)) →
         (∀ ad17 : Addr,
         (((Option.map (fun (ad18 : Addr) => (if ((sl1).cap = 0) then ad18 else (Addr.add ad18 (0 * (1 : Nat))))) ((Sl.mk (sl1).a (sl1).len (sl1).cap)).a) = (Option.some ad17)) →
         ((Option.isSome (wr h16 (Addr.add ad17 (((Int.toNat (IntKind.wrap IntKind.i64 ((((sl1).len : Nat) : Int) - (1 : Int)))) - 0) * (1 : Nat))) l13)) = Bool.true)))) ∧
         ((((Option.map (fun (ad19 : Addr) => (if ((sl1).cap = 0) then ad19 else (Addr.add ad19 (0 * (1 : Nat))))) ((Sl.mk (sl1).a (sl1).len (sl1).cap)).a) = Option.none) →
         (((((Int.toNat (IntKind.wrap IntKind.i64 ((((sl1).len : Nat) : Int) - (1 : Int)))) - 0) + (sl11).len) ≤ ((sl1).cap - 0)) →
         (l13 = []))) ∧
         (∀ sl12 : Sl,
         (∀ h17 : Heap,
         ((AppRes h16 (Sl.mk (Option.map (fun (ad20 : Addr) => (if ((sl1).cap = 0) then ad20 else (Addr.add ad20 (0 * (1 : Nat))))) ((Sl.mk (sl1).a (sl1).len (sl1).cap)).a) ((Int.toNat (IntKind.wrap IntKind.i64 ((((sl1).len : Nat) : Int) - (1 : Int)))) - 0) ((sl1).cap - 0)) (1 : Nat) 9 l12 l13 (sl11).len sl12 h17) →
         (J5 (Sl.mk (sl12).a (sl12).len (sl12).cap) h17))))))))))))))))))) ∧
         (((n8 == (0 : Int)) = Bool.false) →
         (J5 (Sl.mk (Option.map (fun (ad21 : Addr) => (if ((sl1).cap = 0) then ad21 else (Addr.add ad21 (0 * (1 : Nat))))) ((Sl.mk (sl1).a (sl1).len (sl1).cap)).a) ((Int.toNat (IntKind.wrap IntKind.i64 ((((sl1).len : Nat) : Int) - (1 : Int)))) - 0) ((sl1).cap - 0)) h14)))))))))))))))))))))) ∧
         (((kFind Ty.str l10 l) = Option.none) →
         (∃ m3 : Nat,
         (∃ l14 : (List (Prod (List UInt8) Int)),
         (((Option.some r) = (Option.some m3)) ∧
         ((mapIs h13 (Option.some r) Ty.str (Ty.int IntKind.i64) l14) ∧
         (∃ n9 : Int,
         (((Value.int IntKind.i64 (1 : Int)) = (Value.int IntKind.i64 n9)) ∧
         (∀ x6 : (Array MapEntry),
         (∀ clock3 : Nat,
         (((List.map (fun (ma3 : MapEntry) => (Prod.mk (ma3).key (ma3).val)) (x6).toList) = (List.map (fun (x7 : (Prod (Ty.T Ty.str) (Ty.T ((Prod.mk (3 : Nat) (Ty.int IntKind.i64))).snd))) => (Prod.mk (S (x7).fst) (Value.int IntKind.i64 (x7).snd))) (kPut Ty.str l14 l n9))) →
         (Spec Tryz.prog 246 [(Value.pointer s), (S l)] (Heap.set h13 m3 (Obj.map x6 clock3)) (fun v7 h18 =>
         (∃ ga3 : GApiNode,
         (∃ n10 : Int,
         ((v7 = (Value.tuple ⟨[(Value.agg ⟨(cGApiNode ga3)⟩), (Value.int IntKind.i64 n10)]⟩)) ∧
         ((((List.length (cGApiNode ga3)) = (19 : Nat)) ∧
         ((List.length (cGApiNode ga3)) = 19)) ∧
         (∀ J6 : (Sl → (Heap → Prop)),
         (((∀ sl13 : Sl,
         (∀ h19 : Heap,
         ((J (Sl.mk (sl13).a (sl13).len (sl13).cap) h19) →
         (J6 sl13 h19))))) →
         ((((n10 == (0 : Int)) = Bool.true) →
         (((List.length (cGApiNode ga3)) = (19 : Nat)) ∧
         (Spec Tryz.prog 247 [(Value.agg ⟨(cGApiNode ga3)⟩)] h18 (fun v8 h20 =>
         (∃ sl14 : Sl,
         ((v8 = (Value.slice (sl14).a (sl14).len (sl14).cap)) ∧
         (∃ l15 : (List Value),
         (∃ l16 : (List Value),
         (((rowOf h20 (Option.map (fun (ad22 : Addr) => (if ((sl1).cap = 0) then ad22 else (Addr.add ad22 (0 * (1 : Nat))))) ((Sl.mk (sl1).a (sl1).len (sl1).cap)).a) (((Int.toNat (IntKind.wrap IntKind.i64 ((((sl1).len : Nat) : Int) - (1 : Int)))) - 0) * (1 : Nat))) = (Option.some l15)) ∧
         (((rowOf h20 (sl14).a ((sl14).len * (1 : Nat))) = (Option.some l16)) ∧
         ((∀ va3 : Value,
         ((Membership.mem l16 va3) →
         ((one va3) = Bool.true))) ∧
         ((((((Int.toNat (IntKind.wrap IntKind.i64 ((((sl1).len : Nat) : Int) - (1 : Int)))) - 0) + (sl14).len) * (16 : Nat)) ≤ 140737488355328) ∧
         (((((Int.toNat (IntKind.wrap IntKind.i64 ((((sl1).len : Nat) : Int) - (1 : Int)))) - 0) + (sl14).len) ≤ 9223372036854775807) ∧
         ((((((Int.toNat (IntKind.wrap IntKind.i64 ((((sl1).len : Nat) : Int) - (1 : Int)))) - 0) + (sl14).len) ≤ ((sl1).cap - 0)) →
         (∀ ad23 : Addr,
         (((Option.map (fun (ad24 : Addr) => (if ((sl1).cap = 0) then ad24 else (Addr.add ad24 (0 * (1 : Nat))))) ((Sl.mk (sl1).a (sl1).len (sl1).cap)).a) = (Option.some ad23)) →
         ((Option.isSome (wr h20 (Addr.add ad23 (((Int.toNat (IntKind.wrap IntKind.i64 ((((sl1).len : Nat) : Int) - (1 : Int)))) - 0) * (1 : Nat))) l16)) = Bool.true)))) ∧
         ((((Option.map (fun (ad25 : Addr) => (if ((sl1).cap = 0) then ad25 else (Addr.add ad25 (0 * (1 : Nat))))) ((Sl.mk (sl1).a (sl1).len (sl1).cap)).a) = Option.none) →
         (((((Int.toNat (IntKind.wrap IntKind.i64 ((((sl1).len : Nat) : Int) - (1 : Int)))) - 0) + (sl14).len) ≤ ((sl1).cap - 0)) →
         (l16 = []))) ∧
         (∀ sl15 : Sl,
         (∀ h21 : Heap,
         ((AppRes h20 (Sl.mk (Option.map (fun (ad26 : Addr) => (if ((sl1).cap = 0) then ad26 else (Addr.add ad26 (0 * (1 : Nat))))) ((Sl.mk (sl1).a (sl1).len (sl1).cap)).a) ((Int.toNat (IntKind.wrap IntKind.i64 ((((sl1).len : Nat) : Int) - (1 : Int)))) - 0) ((sl1).cap - 0)) (1 : Nat) 9 l15 l16 (sl14).len sl15 h21) →
         (J6 (Sl.mk (sl15).a (sl15).len (sl15).cap) h21))))))))))))))))))) ∧
         (((n10 == (0 : Int)) = Bool.false) →
         (J6 (Sl.mk (Option.map (fun (ad27 : Addr) => (if ((sl1).cap = 0) then ad27 else (Addr.add ad27 (0 * (1 : Nat))))) ((Sl.mk (sl1).a (sl1).len (sl1).cap)).a) ((Int.toNat (IntKind.wrap IntKind.i64 ((((sl1).len : Nat) : Int) - (1 : Int)))) - 0) ((sl1).cap - 0)) h18))))))))))))))))))))))))))) →
         (J4 b1 h13))))) →
         (((Bool.true = Bool.false) →
         (∃ l17 : (List (Prod (List UInt8) Int)),
         ((mapIs h2 (Option.some r) Ty.str (Ty.int IntKind.i64) l17) ∧
         ((∀ n11 : Int,
         (((kFind Ty.str l17 l) = (Option.some n11)) →
         (J4 (decide (n11 > (0 : Int))) h2))) ∧
         (((kFind Ty.str l17 l) = Option.none) →
         (J4 Bool.false h2)))))) ∧
         ((Bool.true = Bool.true) →
         (J4 Bool.true h2)))))))))))))))))))))))) ∧
   (((decide ((((sl1).len : Nat) : Int) > (0 : Int))) = Bool.false) →
    (Q (Value.map (Option.some r)) h2))))))))))))))
theorem vc164 (s : Option Addr) (sums : Sl) (h : Heap) (Q : Value → Heap → Prop) : evF Tryz.prog τ tok 164 an164 [.pointer s, .slice sums.a sums.len sums.cap] h Q = VC164 s sums h Q := by kernel_rfl
theorem ok164 {s : Option Addr} {sums : Sl} {h : Heap} {Q : Value → Heap → Prop} (hv : VC164 s sums h Q) : Spec Tryz.prog 164 [.pointer s, .slice sums.a sums.len sums.cap] h Q := evF_sound (P := Tryz.prog) (τ := τ) (ok := tok) (an := an164) (fun _ => drawn mixed) (by rw [vc164]; exact hv)

/- (*pharos/store.Store).Keep -/
def an71 : An := (.nd none [] [] .leaf (.nd none [] [] .leaf (.nd none [] [] .leaf (.nd none [] [] (.nd none [] [] .leaf (.nd none [] [] (.nd none [.slot 6 (.int .i64), .slot 15 (.int .i64)] [] (.nd none [] [] .leaf (.nd none [] [] .leaf (.nd none [] [] (.nd (some [.slot 6 (.int .i64)]) [] [] (.nd none [] [] .leaf (.nd none [] [] .leaf (.nd (some [.slot 6 (.int .i64)]) [] [] .leaf .leaf))) .leaf) .leaf))) .leaf) .leaf)) .leaf))))
def VC71 (s : Option Addr) (sums : Sl) (h : Heap) (Q : Value → Heap → Prop) : Prop :=
 (Spec Tryz.prog 164 [(Value.pointer s), (Value.slice (sums).a (sums).len (sums).cap)] h (fun v h1 =>
 (∃ p : (Option Nat),
 ((v = (Value.map p)) ∧
 (Spec Tryz.prog 159 [(Value.pointer s)] h1 (fun v1 h2 =>
  (∃ sl : Sl,
  ((v1 = (Value.slice (sl).a (sl).len (sl).cap)) ∧
  (∃ k : (Int → (Int → (Heap → (Prod Prop Nat)))),
  (((k (0 : Int) (0 : Int) h2)).fst ∧
   (∀ n : Int,
   (∀ n1 : Int,
   (∀ h3 : Heap,
   (((k n n1 h3)).fst →
    ((((decide (n1 < (((sl).len : Nat) : Int))) = Bool.true) →
    (∀ J : (Int → (Heap → Prop)),
    (((∀ n2 : Int,
     (∀ h4 : Heap,
     (((((k n2 (IntKind.wrap IntKind.i64 (n1 + (1 : Int))) h4)).fst ∧
      (((k n2 (IntKind.wrap IntKind.i64 (n1 + (1 : Int))) h4)).snd < ((k n n1 h3)).snd))) →
     (J n2 h4))))) →
     ((((0 : Int) ≤ n1) ∧
     (n1 < (((sl).len : Nat) : Int))) ∧
     (∃ ad : Addr,
     (((sl).a = (Option.some ad)) ∧
     (∃ l : (List UInt8),
      (((rd h3 (Addr.add ad ((Int.toNat n1) * (1 : Nat)))) = (Option.some (S l))) ∧
      (∃ l1 : (List (Prod (List UInt8) Int)),
      ((mapIs h3 p Ty.str (Ty.int IntKind.i64) l1) ∧
      ((∀ n3 : Int,
       (((kFind Ty.str l1 l) = (Option.some n3)) →
       (∀ J1 : (Int → (Heap → Prop)),
       (((∀ n4 : Int,
        (∀ h5 : Heap,
        ((J n4 h5) →
        (J1 n4 h5))))) →
        ((((n3 == (0 : Int)) = Bool.true) →
        (∃ ad1 : Addr,
        ((s = (Option.some ad1)) ∧
         (∃ p1 : (Option Nat),
         (((rd h3 (Addr.add ad1 0)) = (Option.some (Value.map p1))) ∧
         (∃ m : Nat,
         (∃ l2 : (List (Prod (List UInt8) Sl)),
         ((p1 = (Option.some m)) ∧
         ((mapIs h3 p1 Ty.str Ty.slice l2) ∧
         (∀ x : (Array MapEntry),
         (∀ clock : Nat,
         (((List.map (fun (ma : MapEntry) => (Prod.mk (ma).key (ma).val)) (x).toList) = (List.map (fun (x1 : (Prod (Ty.T Ty.str) (Ty.T ((Prod.mk (144 : Nat) Ty.slice)).snd))) => (Prod.mk (S (x1).fst) (Value.slice ((x1).snd).a ((x1).snd).len ((x1).snd).cap))) (kDel Ty.str l2 l))) →
         (J1 (IntKind.wrap IntKind.i64 (n + (1 : Int))) (Heap.set h3 m (Obj.map x clock))))))))))))))) ∧
        (((n3 == (0 : Int)) = Bool.false) →
        (J1 n h3))))))) ∧
       (((kFind Ty.str l1 l) = Option.none) →
       (∀ J2 : (Int → (Heap → Prop)),
       (((∀ n5 : Int,
        (∀ h6 : Heap,
        ((J n5 h6) →
        (J2 n5 h6))))) →
       (((Bool.true = Bool.true) →
        (∃ ad2 : Addr,
        ((s = (Option.some ad2)) ∧
        (∃ p2 : (Option Nat),
         (((rd h3 (Addr.add ad2 0)) = (Option.some (Value.map p2))) ∧
         (∃ m1 : Nat,
         (∃ l3 : (List (Prod (List UInt8) Sl)),
         ((p2 = (Option.some m1)) ∧
         ((mapIs h3 p2 Ty.str Ty.slice l3) ∧
         (∀ x2 : (Array MapEntry),
         (∀ clock1 : Nat,
         (((List.map (fun (ma1 : MapEntry) => (Prod.mk (ma1).key (ma1).val)) (x2).toList) = (List.map (fun (x3 : (Prod (Ty.T Ty.str) (Ty.T ((Prod.mk (144 : Nat) Ty.slice)).snd))) => (Prod.mk (S (x3).fst) (Value.slice ((x3).snd).a ((x3).snd).len ((x3).snd).cap))) (kDel Ty.str l3 l))) →
         (J2 (IntKind.wrap IntKind.i64 (n + (1 : Int))) (Heap.set h3 m1 (Obj.map x2 clock1))))))))))))))) ∧
        ((Bool.true = Bool.false) →
        (J2 n h3))))))))))))))))) ∧
    (((decide (n1 < (((sl).len : Nat) : Int))) = Bool.false) →
    (Q (Value.int IntKind.i64 n) h3)))))))))))))))))
theorem vc71 (s : Option Addr) (sums : Sl) (h : Heap) (Q : Value → Heap → Prop) : evF Tryz.prog τ tok 71 an71 [.pointer s, .slice sums.a sums.len sums.cap] h Q = VC71 s sums h Q := by kernel_rfl
theorem ok71 {s : Option Addr} {sums : Sl} {h : Heap} {Q : Value → Heap → Prop} (hv : VC71 s sums h Q) : Spec Tryz.prog 71 [.pointer s, .slice sums.a sums.len sums.cap] h Q := evF_sound (P := Tryz.prog) (τ := τ) (ok := tok) (an := an71) (fun _ => drawn mixed) (by rw [vc71]; exact hv)

/- slices.Clone[[]string,string] -/
def an151 : An := .leaf
def VC151 (s : Sl) (h : Heap) (Q : Value → Heap → Prop) : Prop :=
 ((((Option.isNone (s).a) = Bool.true) →
 (Q (Value.slice Option.none 0 0) h)) ∧
 (((Option.isNone (s).a) = Bool.false) →
 (∀ b : Nat,
 (((h b) = Option.none) →
  (∃ l : (List Value),
  (∃ l1 : (List Value),
  (((rowOf (Heap.set h b (Obj.cells ⟨[]⟩ 9 (Prod.mk 0 0))) (Option.some (Addr.mk b 0 Option.none)) (0 * (1 : Nat))) = (Option.some l)) ∧
  (((rowOf (Heap.set h b (Obj.cells ⟨[]⟩ 9 (Prod.mk 0 0))) (s).a ((s).len * (1 : Nat))) = (Option.some l1)) ∧
   ((∀ va : Value,
   ((Membership.mem l1 va) →
   ((one va) = Bool.true))) ∧
   ((((0 + (s).len) * (16 : Nat)) ≤ 140737488355328) ∧
   (((0 + (s).len) ≤ 9223372036854775807) ∧
   ((((0 + (s).len) ≤ 0) →
    (∀ ad : Addr,
    (((Option.some (Addr.mk b 0 Option.none)) = (Option.some ad)) →
    ((Option.isSome (wr (Heap.set h b (Obj.cells ⟨[]⟩ 9 (Prod.mk 0 0))) (Addr.add ad (0 * (1 : Nat))) l1)) = Bool.true)))) ∧
    ((((Option.some (Addr.mk b 0 Option.none)) = Option.none) →
    (((0 + (s).len) ≤ 0) →
    (l1 = []))) ∧
    (∀ sl : Sl,
    (∀ h1 : Heap,
    ((AppRes (Heap.set h b (Obj.cells ⟨[]⟩ 9 (Prod.mk 0 0))) (Sl.mk (Option.some (Addr.mk b 0 Option.none)) 0 0) (1 : Nat) 9 l l1 (s).len sl h1) →
     (Q (Value.slice (sl).a (sl).len (sl).cap) h1)))))))))))))))))
theorem vc151 (s : Sl) (h : Heap) (Q : Value → Heap → Prop) : evF Tryz.prog τ tok 151 an151 [.slice s.a s.len s.cap] h Q = VC151 s h Q := by kernel_rfl
theorem ok151 {s : Sl} {h : Heap} {Q : Value → Heap → Prop} (hv : VC151 s h Q) : Spec Tryz.prog 151 [.slice s.a s.len s.cap] h Q := evF_sound (P := Tryz.prog) (τ := τ) (ok := tok) (an := an151) (fun _ => drawn mixed) (by rw [vc151]; exact hv)

/- maps.Keys[map[string][]byte,string,[]byte] -/
def an242 : An := .leaf
def VC242 (m : Option Nat) (h : Heap) (Q : Value → Heap → Prop) : Prop :=
 (∀ b : Nat,
 (((h b) = Option.none) →
 (Q (Value.func (Fn.func 310) ⟨[]⟩ ⟨[(Value.pointer (Option.some (Addr.mk b 0 Option.none)))]⟩) (Heap.set h b (Obj.cells ⟨[(Value.map m)]⟩ 268 (Prod.mk 0 0))))))
theorem vc242 (m : Option Nat) (h : Heap) (Q : Value → Heap → Prop) : evF Tryz.prog τ tok 242 an242 [.map m] h Q = VC242 m h Q := by kernel_rfl
theorem ok242 {m : Option Nat} {h : Heap} {Q : Value → Heap → Prop} (hv : VC242 m h Q) : Spec Tryz.prog 242 [.map m] h Q := evF_sound (P := Tryz.prog) (τ := τ) (ok := tok) (an := an242) (fun _ => drawn mixed) (by rw [vc242]; exact hv)

end Go.Vw
namespace Go.Vw
open Go Go.Proofs

/-- Slices of bytes by keys, and the bytes. -/
def rows2 {κ : Type} (h : Heap) : List (κ × Sl) → List (κ × Bs) → Prop
  | [], [] => True
  | p :: r, q :: s => p.1 = q.1 ∧ p.2.len ≤ p.2.cap ∧ rowOf h p.2.a p.2.len = some (q.2.map byteV) ∧ rows2 h r s
  | _, _ => False
theorem rows2_le {κ : Type} {h g : Heap} (hl : h.le g) : ∀ {l : List (κ × Sl)} {m : List (κ × Bs)}, rows2 h l m → rows2 g l m
  | [], [], _ => trivial
  | [], _ :: _, k => k.elim
  | _ :: _, [], k => k.elim
  | p :: r, q :: s, ⟨h1, h2, h3, h4⟩ => ⟨h1, h2, rowOf_le hl h3, rows2_le hl h4⟩
theorem rows2_keys {κ : Type} {h : Heap} : ∀ {l : List (κ × Sl)} {m : List (κ × Bs)}, rows2 h l m → l.map (·.1) = m.map (·.1)
  | [], [], _ => rfl
  | [], _ :: _, k => k.elim
  | _ :: _, [], k => k.elim
  | p :: r, q :: s, ⟨h1, _, _, h4⟩ => by rw [List.map_cons, List.map_cons, h1, rows2_keys h4]
theorem rows2_none {kt : Ty} {h : Heap} : ∀ {l : List (kt.T × Sl)} {m : List (kt.T × Bs)} {k : kt.T}, rows2 h l m → (kFind kt l k = none ↔ kFind kt m k = none)
  | [], [], k, _ => ⟨fun _ => rfl, fun _ => rfl⟩
  | [], _ :: _, _, k => k.elim
  | _ :: _, [], _, k => k.elim
  | p :: r, q :: s, k, ⟨h1, _, _, h4⟩ => by
    unfold kFind
    rw [h1]
    split
    · simp
    · exact rows2_none h4
theorem rows2_some {kt : Ty} {h : Heap} : ∀ {l : List (kt.T × Sl)} {m : List (kt.T × Bs)} {k : kt.T} {sl : Sl}, rows2 h l m → kFind kt l k = some sl → ∃ t, kFind kt m k = some t ∧ sl.len ≤ sl.cap ∧ rowOf h sl.a sl.len = some (t.map byteV)
  | [], [], k, sl, _, hf => by cases hf
  | [], _ :: _, _, _, k, _ => k.elim
  | _ :: _, [], _, _, k, _ => k.elim
  | p :: r, q :: s, k, sl, ⟨h1, h2, h3, h4⟩, hf => by
    unfold kFind at hf ⊢
    rw [h1] at hf
    by_cases hk : kEq kt k q.1 = true
    · rw [if_pos hk] at hf ⊢
      injection hf with hf
      subst hf
      exact ⟨_, rfl, h2, h3⟩
    · rw [if_neg hk] at hf ⊢
      exact rows2_some h4 hf
theorem rows2_put {kt : Ty} {h : Heap} {k : kt.T} {sl : Sl} {t : Bs} (hc : sl.len ≤ sl.cap) (hr : rowOf h sl.a sl.len = some (t.map byteV)) : ∀ {l : List (kt.T × Sl)} {m : List (kt.T × Bs)}, rows2 h l m → rows2 h (kPut kt l k sl) (kPut kt m k t)
  | [], [], _ => ⟨rfl, hc, hr, trivial⟩
  | [], _ :: _, k => k.elim
  | _ :: _, [], k => k.elim
  | p :: r, q :: s, ⟨h1, h2, h3, h4⟩ => by
    unfold kPut
    rw [h1]
    split
    · exact ⟨rfl, hc, hr, h4⟩
    · exact ⟨h1, h2, h3, rows2_put hc hr h4⟩
theorem rows2_del {kt : Ty} {h : Heap} {k : kt.T} : ∀ {l : List (kt.T × Sl)} {m : List (kt.T × Bs)}, rows2 h l m → rows2 h (kDel kt l k) (kDel kt m k)
  | [], [], _ => trivial
  | [], _ :: _, k => k.elim
  | _ :: _, [], k => k.elim
  | p :: r, q :: s, ⟨h1, h2, h3, h4⟩ => by
    unfold kDel
    rw [h1]
    split
    · exact h4
    · exact ⟨h1, h2, h3, rows2_del h4⟩

abbrev Store := List (Bs × Bs)
def stFind (st : Store) (k : Bs) : Option Bs := kFind .str st k
def stPut (st : Store) (t : Bs) : Store := match stFind st (sumT t) with
  | some _ => st
  | none => kPut .str st (sumT t) t
def isS (h : Heap) (p : Option Addr) (mb : Nat) (st : Store) : Prop :=
  ∃ b e, p = some ⟨b, 0, none⟩ ∧ h b = some (.cells ⟨[.map (some mb)]⟩ e (0, 0)) ∧ ∃ kvs : List (Bs × Sl), mapIs h (some mb) .str .slice kvs ∧ rows2 h kvs st
/-- All but one block is as it was. -/
def Heap.leB (b : Nat) (h g : Heap) : Prop := ∀ c o, c ≠ b → h c = some o → g c = some o
theorem Heap.leB_refl (b : Nat) (h : Heap) : Heap.leB b h h := fun _ _ _ hh => hh
theorem Heap.le_leB {h g : Heap} (hl : h.le g) (b : Nat) : Heap.leB b h g := fun c o _ hc => hl c o hc
theorem Heap.leB_trans {b : Nat} {x y z : Heap} (h : Heap.leB b x y) (k : Heap.leB b y z) : Heap.leB b x z := fun c o hn hc => k c o hn (h c o hn hc)
/-- What is read of cells stays where a map alone has turned. -/
theorem rdn_leB {h g : Heap} {b : Nat} (hl : Heap.leB b h g) {es : Array MapEntry} {k : Nat} (hb : h b = some (.map es k)) {a : Addr} {n : Nat} {v : List Value} (hv : rdn h a n = some v) : rdn g a n = some v := by
  unfold rdn at *
  split at hv
  · rename_i c e fr hc
    have : a.block ≠ b := by rintro rfl; rw [hb] at hc; cases hc
    rw [hl _ _ this hc]; exact hv
  · cases hv
theorem rowOf_leB {h g : Heap} {b : Nat} (hl : Heap.leB b h g) {es : Array MapEntry} {k : Nat} (hb : h b = some (.map es k)) {a : Option Addr} {n : Nat} {v : List Value} (hv : rowOf h a n = some v) : rowOf g a n = some v := by
  cases a with
  | none => exact hv
  | some a => exact rdn_leB hl hb hv
theorem rows2_leB {κ : Type} {h g : Heap} {b : Nat} (hl : Heap.leB b h g) {es : Array MapEntry} {k : Nat} (hb : h b = some (.map es k)) : ∀ {l : List (κ × Sl)} {m : List (κ × Bs)}, rows2 h l m → rows2 g l m
  | [], [], _ => trivial
  | [], _ :: _, k => k.elim
  | _ :: _, [], k => k.elim
  | p :: r, q :: s, ⟨h1, h2, h3, h4⟩ => ⟨h1, h2, rowOf_leB hl hb h3, rows2_leB hl hb h4⟩
theorem isK_leB {h g : Heap} {b : Nat} (hl : Heap.leB b h g) {es : Array MapEntry} {k : Nat} (hb : h b = some (.map es k)) : ∀ {t : T} {p : Option Addr}, isK h t p → isK g t p
  | .nil, _, hk => hk
  | .leaf a v, _, ⟨c, e, f, h1, h2, h3⟩ => ⟨c, e, f, h1, hl _ _ (by rintro rfl; rw [hb] at h2; cases h2) h2, h3⟩
  | .ext a k, _, ⟨c, e, f, h1, h2, h3, h4⟩ => ⟨c, e, f, h1, hl _ _ (by rintro rfl; rw [hb] at h2; cases h2) h2, isK_leB hl hb h3, h4⟩
  | .br v ks, _, ⟨c, e, f, h1, h2, h3⟩ => ⟨c, e, f, h1, hl _ _ (by rintro rfl; rw [hb] at h2; cases h2) h2, fun i => isK_leB hl hb (h3 i)⟩
theorem isT_leB {h g : Heap} {b : Nat} (hl : Heap.leB b h g) {es : Array MapEntry} {k : Nat} (hb : h b = some (.map es k)) {p : Option Addr} {t : T} (hk : isT h p t) : isT g p t := by
  obtain ⟨c, e, q, h1, h2, h3⟩ := hk
  exact ⟨c, e, q, h1, hl _ _ (by rintro rfl; rw [hb] at h2; cases h2) h2, isK_leB hl hb h3⟩
theorem KH.leB {h g : Heap} {b : Nat} (hl : Heap.leB b h g) {es : Array MapEntry} {k : Nat} (hb : h b = some (.map es k)) (hK : KH h) : KH g := by
  obtain ⟨e, fr, hk⟩ := hK
  exact ⟨e, fr, hl _ _ (by intro h1; rw [h1] at hk; rw [hb] at hk; cases hk) hk⟩
theorem isS_le {h g : Heap} (hl : h.le g) {p : Option Addr} {mb : Nat} {st : Store} (k : isS h p mb st) : isS g p mb st := by
  obtain ⟨b, e, h1, h2, kvs, ⟨es, c, h3, h4⟩, h5⟩ := k
  exact ⟨b, e, h1, hl _ _ h2, kvs, ⟨es, c, hl _ _ h3, h4⟩, rows2_le hl h5⟩
theorem isS_map {h : Heap} {p : Option Addr} {mb : Nat} {st : Store} (k : isS h p mb st) : ∃ es c, h mb = some (.map es c) := by
  obtain ⟨b, e, h1, h2, kvs, ⟨es, c, h3, h4⟩, h5⟩ := k
  exact ⟨es, c, h3⟩

theorem snew_ok {h : Heap} : Spec Tryz.prog 66 [] h (fun v h' => h.le h' ∧ ∃ p mb, v = .pointer p ∧ h mb = none ∧ isS h' p mb []) := by
  apply ok66
  unfold VC66
  intro r hr b hb
  have hbr : b ≠ r := by
    rintro rfl
    rw [Heap.set_same] at hb; cases hb
  have hb0 : h b = none := by rwa [Heap.set_other _ _ hbr] at hb
  refine ⟨Heap.le_over (Heap.le_set _ hr) hb0 _, _, r, rfl, hr, b, 270, rfl, Heap.set_same _ _ _, [], ⟨#[], 0, ?_, rfl⟩, trivial⟩
  rw [Heap.set_other _ _ (fun e => hbr e.symm), Heap.set_same]

theorem mapIs_set {h : Heap} {m : Nat} {kt vt : Ty} {kvs : List (kt.T × vt.T)} {es : Array MapEntry} {c : Nat} (he : es.toList.map (fun e => (e.key, e.val)) = kvs.map (fun p => (kt.v p.1, vt.v p.2))) : mapIs (h.set m (.map es c)) (some m) kt vt kvs :=
  ⟨es, c, Heap.set_same _ _ _, he⟩

theorem sput_ok {h : Heap} {p : Option Addr} {mb : Nat} {st : Store} {text : Bs} (hS : isS h p mb st) (hK : KH h) (ht : text.length ≤ 1073741823) :
    Spec Tryz.prog 160 [.pointer p, S text] h (fun v h' => v = S (sumT text) ∧ isS h' p mb (stPut st text) ∧ Heap.leB mb h h') := by
  apply ok160
  unfold VC160
  refine (digest_ok (tag := 1) ht hK (by decide) (by decide)).mono ?_
  rintro v h1 ⟨rfl, rfl⟩
  have hS' := hS
  obtain ⟨b, e, rfl, hb, kvs, hm, hr⟩ := hS
  have hrd : rd h1 (Addr.add ⟨b, 0, none⟩ 0) = some (.map (some mb)) := by rw [add_zero']; exact rd_of hb
  have hsum : shaM (UInt8.ofNat (Int.toNat 1) :: text) = sumT text := rfl
  rw [hsum]
  refine ⟨_, _, rfl, _, rfl, some mb, hrd, kvs, hm, fun sl hf J hJ => ⟨fun hh => by simp at hh, fun _ => hJ _ ⟨rfl, ?_, Heap.leB_refl _ _⟩⟩, fun hf J hJ => ⟨fun _ => ?_, fun hh => by simp at hh⟩⟩
  · obtain ⟨t, ht1, _⟩ := rows2_some (kt := .str) hr hf
    have : stPut st text = st := by
      unfold stPut stFind
      rw [ht1]
    rw [this]; exact hS'
  · refine ⟨_, rfl, some mb, hrd, fun c cap rest hc hcap hrest _ => ?_⟩
    obtain ⟨es0, c0, hmb, hes0⟩ := hm
    have hcm : mb ≠ c := Heap.ne_of hc hmb
    obtain ⟨h2, eh2⟩ : ∃ h2, h2 = h1.set c (Obj.cells ⟨text.map byteV ++ rest⟩ 5 (text.length + rest.length, text.length + rest.length + 1)) := ⟨_, rfl⟩
    rw [← eh2]
    have hle : h1.le h2 := by rw [eh2]; exact Heap.le_set _ hc
    refine ⟨mb, kvs, rfl, ⟨es0, c0, hle _ _ hmb, hes0⟩, ⟨some ⟨c, 0, none⟩, text.length, cap⟩, rfl, fun es clock hes => hJ _ ⟨rfl, ?_, ?_⟩⟩
    · have hfn : stFind st (sumT text) = none := (rows2_none (kt := .str) hr).1 hf
      have hput : stPut st text = kPut .str st (sumT text) text := by
        unfold stPut; rw [hfn]
      rw [hput]
      have hrow : rowOf h2 (some ⟨c, 0, none⟩) text.length = some (text.map byteV) := by
        show rdn h2 _ _ = _
        rw [eh2, rdn_of (Heap.set_same _ _ _) (by rw [List.length_append, List.length_map]; omega), List.drop_zero, List.take_append_of_le_length (by rw [List.length_map]; exact Nat.le_refl _), List.take_of_length_le (by rw [List.length_map]; exact Nat.le_refl _)]
      have hbm : b ≠ mb := by rintro rfl; rw [hb] at hmb; cases hmb
      have hlB : Heap.leB mb h2 (h2.set mb (.map es clock)) := fun x o hx ho => by rw [Heap.set_other _ _ hx]; exact ho
      refine ⟨b, e, rfl, by rw [Heap.set_other _ _ hbm]; exact hle _ _ hb, kPut .str kvs (sumT text) ⟨some ⟨c, 0, none⟩, text.length, cap⟩, mapIs_set hes, ?_⟩
      exact rows2_leB hlB (hle _ _ hmb) (rows2_put hcap hrow (rows2_le hle hr))
    · intro x o hx ho
      rw [Heap.set_other _ _ hx]
      exact hle _ _ ho
theorem sget_ok {h : Heap} {p : Option Addr} {mb : Nat} {st : Store} {sum : Bs} (hS : isS h p mb st) :
    Spec Tryz.prog 321 [.pointer p, S sum] h (fun v h' => h' = h ∧ v = .tuple ⟨[S ((stFind st sum).getD []), .bool (stFind st sum).isSome]⟩) := by
  apply ok321
  unfold VC321
  obtain ⟨b, e, rfl, hb, kvs, hm, hr⟩ := hS
  have hrd : rd h (Addr.add ⟨b, 0, none⟩ 0) = some (.map (some mb)) := by rw [add_zero']; exact rd_of hb
  refine ⟨_, rfl, some mb, hrd, kvs, hm, fun sl hf => ?_, fun hf => ⟨rfl, ?_⟩⟩
  · obtain ⟨t, ht1, ht2, ht3⟩ := rows2_some (kt := .str) hr hf
    have hst : stFind st sum = some t := ht1
    rw [hst]
    cases hsa : sl.a with
    | none =>
      rw [hsa] at ht3
      unfold rowOf at ht3
      dsimp only at ht3
      split at ht3
      · injection ht3 with ht3
        have : t = [] := by simpa using ht3.symm
        subst this
        exact ⟨rfl, rfl⟩
      · cases ht3
    | some ad =>
      rw [hsa] at ht3
      exact ⟨t, ht3, rfl, rfl⟩
  · have : stFind st sum = none := (rows2_none (kt := .str) hr).1 hf
    rw [this]; rfl
theorem decN_kids (s : Bs) : (decN s).1.Kids.length = 16 := by
  unfold decN
  rcases hr : (RdS.mk s 0 0).Bytes 1 with ⟨l, r1⟩
  dsimp only
  by_cases hk : kindOf l = 3
  · rw [if_pos hk]
    split
    · show (branchR r1).1.Kids.length = 16
      unfold branchR
      split
      · rename_i b0 b1 t r2 _
        have : ∀ (bits : Nat) (l : List Nat) (r : RdS), (kidsR bits l r).1.length = l.length := by
          intro bits l
          induction l with
          | nil => intro r; rfl
          | cons i l ih =>
            intro r
            by_cases h : bitAt bits (15 - i) = true
            · rw [kidsR_pos h, List.length_cons, List.length_cons, ih]
            · rw [kidsR_neg h, List.length_cons, List.length_cons, ih]
        exact this _ (List.range 16) _
      · rfl
    · rfl
  · rw [if_neg hk]
    split
    · show (otherR (kindOf l) r1).1.1.Kids.length = 16
      unfold otherR
      dsimp only
      split <;> rfl
    · rfl
def nodeAt (st : Store) (sum : Bs) : GApiNode × Int := match stFind st sum with
  | none => (zeroN, 90)
  | some t => decN t
def StOk (st : Store) : Prop := ∀ k t, stFind st k = some t → t.length ≤ 1073741823
theorem snode_ok {h : Heap} {p : Option Addr} {mb : Nat} {st : Store} {sum : Bs} (hS : isS h p mb st) (hO : StOk st) :
    Spec Tryz.prog 246 [.pointer p, S sum] h (fun v h' => h' = h ∧ v = .tuple ⟨[.agg ⟨cGApiNode (nodeAt st sum).1⟩, .int .i64 (nodeAt st sum).2]⟩) := by
  apply ok246
  unfold VC246
  refine (sget_ok hS).mono ?_
  rintro v h1 ⟨rfl, rfl⟩
  refine ⟨_, _, rfl, fun hn => ?_, fun hy => ?_⟩
  · have : stFind st sum = none := by simpa using hn
    unfold nodeAt
    rw [this]
    exact ⟨⟨rfl, rfl⟩, rfl, rfl, rfl⟩
  · have hy : (stFind st sum).isSome = true := by simpa using hy
    obtain ⟨t, ht⟩ := Option.isSome_iff_exists.1 hy
    have hl := hO _ _ ht
    unfold nodeAt
    rw [ht]
    refine (decode_ok (s := t) (by omega)).mono ?_
    rintro v h2 ⟨rfl, rfl⟩
    have hlen : (cGApiNode (decN t).1).length = 19 := by
      apply node_len
      exact decN_kids t
    exact ⟨_, _, rfl, ⟨hlen, hlen⟩, hlen, rfl, rfl⟩
end Go.Vw
namespace Go.Vw
open Go Go.Proofs

/-! ### What is reached, as plain data -/

def kidsAt (st : Store) (s : Bs) : List Bs := match nodeAt st s with
  | (n, e) => if e = 0 then kidsN n else []
/-- 'wait' is what has still to be looked at, the last one first; 'inn' what was. -/
def reachF (st : Store) : Nat → List Bs → List Bs → List Bs
  | 0, _, inn => inn
  | n + 1, wait, inn => match wait.getLast? with
    | none => inn
    | some s => if stFind st s = none ∨ s ∈ inn then reachF st n wait.dropLast inn
      else reachF st n (wait.dropLast ++ kidsAt st s) (inn ++ [s])
def unm (st : Store) (inn : List Bs) : Nat := (st.map (·.1)).countP fun k => decide (k ∉ inn)
def mu (st : Store) (wait inn : List Bs) : Nat := wait.length + 17 * unm st inn
def reachM (st : Store) (roots : List Bs) : List Bs := reachF st (mu st roots []) roots []

theorem kidsN_le (n : GApiNode) (h : n.Kids.length = 16) : (kidsN n).length ≤ 16 := by
  have := List.length_filter_le (fun s => !(s == [])) n.Kids
  rw [h] at this
  exact this
theorem nodeAt_kids (st : Store) (s : Bs) : (nodeAt st s).1.Kids.length = 16 := by
  unfold nodeAt
  split
  · rfl
  · exact decN_kids _
theorem kidsAt_le (st : Store) (s : Bs) : (kidsAt st s).length ≤ 16 := by
  unfold kidsAt
  have h := nodeAt_kids st s
  rcases hn : nodeAt st s with ⟨n, e⟩
  rw [hn] at h
  dsimp only
  split
  · exact kidsN_le n h
  · simp
theorem stFind_mem {st : Store} {k t : Bs} (h : stFind st k = some t) : (k, t) ∈ st := by
  unfold stFind at h
  induction st with
  | nil => cases h
  | cons p r ih =>
    unfold kFind at h
    split at h
    · rename_i he
      injection h with h
      have : k = p.1 := by simpa [kEq] using he
      rw [this, ← h]; exact List.mem_cons_self ..
    · exact List.mem_cons_of_mem _ (ih h)
theorem stFind_none {st : Store} {k : Bs} : stFind st k = none ↔ k ∉ st.map (·.1) := by
  unfold stFind
  induction st with
  | nil => exact ⟨fun _ h => (by cases h), fun _ => rfl⟩
  | cons p r ih =>
    unfold kFind
    rw [List.map_cons, List.mem_cons]
    by_cases he : k = p.1
    · have : kEq .str k p.1 = true := by simpa [kEq] using he
      rw [if_pos this]
      exact ⟨fun h => (by cases h), fun h => absurd (.inl he) h⟩
    · have : ¬ kEq .str k p.1 = true := by simpa [kEq] using he
      rw [if_neg this, ih]
      exact ⟨fun h h' => h'.elim he h, fun h h' => h (.inr h')⟩
theorem unm_lt {st : Store} {inn : List Bs} {s : Bs} (h1 : ¬ stFind st s = none) (h2 : s ∉ inn) : unm st (inn ++ [s]) + 1 ≤ unm st inn := by
  have hm : s ∈ st.map (·.1) := by
    rw [stFind_none] at h1
    exact Classical.not_not.1 h1
  unfold unm
  generalize st.map (·.1) = l at hm
  induction l with
  | nil => cases hm
  | cons x l ih =>
    rw [List.countP_cons, List.countP_cons]
    have hmono : l.countP (fun k => decide (k ∉ inn ++ [s])) ≤ l.countP (fun k => decide (k ∉ inn)) := by
      apply List.countP_mono_left
      intro k _ hk
      simp only [decide_eq_true_eq] at hk ⊢
      exact fun h => hk (List.mem_append_left _ h)
    by_cases hx : x = s
    · subst hx
      have a1 : decide (x ∉ inn ++ [x]) = false := by simp
      have a2 : decide (x ∉ inn) = true := by simpa using h2
      rw [a1, a2]
      simp only [Bool.false_eq_true, if_false, if_true]
      omega
    · have hm' : s ∈ l := by
        rcases List.mem_cons.1 hm with h | h
        · exact absurd h.symm hx
        · exact h
      have := ih hm'
      have a : decide (x ∉ inn ++ [s]) = decide (x ∉ inn) := by
        apply decide_eq_decide.2
        rw [List.mem_append, List.mem_singleton]
        exact ⟨fun h h' => h (.inl h'), fun h h' => h'.elim h hx⟩
      rw [a]
      omega
theorem last_some {l : List Bs} (h : l ≠ []) : ∃ s, l.getLast? = some s ∧ l = l.dropLast ++ [s] := by
  refine ⟨l.getLast h, List.getLast?_eq_some_getLast h, (List.dropLast_concat_getLast h).symm⟩
theorem reachF_stable (st : Store) : ∀ (n m : Nat) (wait inn : List Bs), mu st wait inn ≤ n → mu st wait inn ≤ m → reachF st n wait inn = reachF st m wait inn
  | 0, m, wait, inn, h1, _ => by
    have : wait = [] := List.eq_nil_of_length_eq_zero (by unfold mu at h1; omega)
    subst this
    cases m <;> rfl
  | n + 1, 0, wait, inn, _, h2 => by
    have : wait = [] := List.eq_nil_of_length_eq_zero (by unfold mu at h2; omega)
    subst this
    rfl
  | n + 1, m + 1, wait, inn, h1, h2 => by
    unfold reachF
    by_cases hw : wait = []
    · subst hw; rfl
    · obtain ⟨s, hs, hd⟩ := last_some hw
      rw [hs]
      have hl : wait.length = wait.dropLast.length + 1 := by
        conv => lhs; rw [hd, List.length_append, List.length_singleton]
      dsimp only
      split
      · apply reachF_stable <;> (unfold mu at *; omega)
      · rename_i hc
        have hu := unm_lt (fun h => hc (.inl h)) (fun h => hc (.inr h))
        have hk := kidsAt_le st s
        apply reachF_stable <;> (unfold mu at *; rw [List.length_append]; omega)
theorem reachF_step {st : Store} {w : List Bs} {s : Bs} {inn : List Bs} : reachF st (mu st (w ++ [s]) inn) (w ++ [s]) inn =
    if stFind st s = none ∨ s ∈ inn then reachF st (mu st w inn) w inn else reachF st (mu st (w ++ kidsAt st s) (inn ++ [s])) (w ++ kidsAt st s) (inn ++ [s]) := by
  have e : mu st (w ++ [s]) inn = mu st w inn + 1 := by unfold mu; rw [List.length_append, List.length_singleton]; omega
  rw [e]
  conv => lhs; unfold reachF
  have hl : (w ++ [s]).getLast? = some s := by simp
  have hd : (w ++ [s]).dropLast = w := by simp
  rw [hl, hd]
  dsimp only
  split
  · rfl
  · rename_i hc
    have hu := unm_lt (fun h => hc (.inl h)) (fun h => hc (.inr h))
    have hk := kidsAt_le st s
    apply reachF_stable
    · unfold mu; rw [List.length_append]; omega
    · exact Nat.le_refl _
theorem unm_le (st : Store) (inn : List Bs) : unm st inn ≤ st.length := by
  unfold unm
  have := List.countP_le_length (p := fun k => decide (k ∉ inn)) (l := st.map (·.1))
  rwa [List.length_map] at this

/-! ### In memory -/

theorem Grow.le {h₀ h₁ h₂ : Heap} {sl : Sl} {size : Nat} {l : List Value} (g : Grow h₀ h₁ sl size l) (hl : h₁.le h₂) : Grow h₀ h₂ sl size l := by
  obtain ⟨h1, h2, h3, h4⟩ := g
  refine ⟨Heap.le_trans h1 hl, h2, h3, ?_⟩
  rcases h4 with h | ⟨b, rest, e, h5, h6, h7, h8⟩
  · exact .inl h
  · exact .inr ⟨b, rest, e, h5, h6, hl _ _ h7, h8⟩
theorem Grow.ne {h₀ h₁ : Heap} {sl : Sl} {size : Nat} {l : List Value} (g : Grow h₀ h₁ sl size l) {b : Nat} {o : Obj} (hb : h₀ b = some o) : ∀ ad, sl.a = some ad → ad.block ≠ b := by
  rintro ad ha rfl
  rcases g.2.2.2 with ⟨h1, _⟩ | ⟨c, rest, e, h5, h6, _⟩
  · rw [h1] at ha; cases ha
  · rw [h5] at ha; injection ha with ha; subst ha
    rw [hb] at h6; cases h6
/-- A slice that owns its block gives its last away. -/
theorem Grow.pop {h₀ h₁ : Heap} {sl : Sl} {l : List Value} {v : Value} (g : Grow h₀ h₁ sl 1 (l ++ [v])) : Grow h₀ h₁ ⟨sl.a, sl.len - 1, sl.cap⟩ 1 l := by
  obtain ⟨h1, h2, h3, h4⟩ := g
  rw [List.length_append, List.length_singleton, Nat.mul_one] at h2
  refine ⟨h1, by dsimp only; omega, by dsimp only; omega, ?_⟩
  rcases h4 with ⟨h5, h6⟩ | ⟨b, rest, e, h5, h6, h7, h8⟩
  · exact absurd h3 (by omega)
  · refine .inr ⟨b, v :: rest, e, h5, h6, by rw [h7, List.append_assoc]; rfl, ?_⟩
    rw [List.length_cons, h8]
    dsimp only
    omega
theorem Grow.own {h₀ h₁ : Heap} {sl : Sl} {size : Nat} {l : List Value} (g : Grow h₀ h₁ sl size l) (hl : 0 < sl.len) : ∃ b, sl.a = some ⟨b, 0, none⟩ := by
  rcases g.2.2.2 with ⟨_, h6⟩ | ⟨b, rest, e, h5, _⟩
  · have := g.2.2.1; omega
  · exact ⟨b, h5⟩
theorem row_len {h : Heap} {a : Option Addr} {n : Nat} {l : List Value} (hr : rowOf h a n = some l) : l.length = n := by
  cases a with
  | none =>
    unfold rowOf at hr
    dsimp only at hr
    split at hr
    · rename_i h0; injection hr with hr; rw [← hr, h0]; rfl
    · cases hr
  | some a => exact rdn_len hr

theorem clone_ok {s : Sl} {ls : List Bs} {h : Heap} (hr : rowOf h s.a s.len = some (sv ls)) (hl : ls.length ≤ 1000000) : Spec Tryz.prog 151 [.slice s.a s.len s.cap] h (fun v h' => h.le h' ∧ ∃ r, v = .slice r.a r.len r.cap ∧ Grow h h' r 1 (sv ls)) := by
  apply ok151
  unfold VC151
  have hlen : ls.length = s.len := by have := row_len hr; rwa [List.length_map] at this
  refine ⟨fun hn => ?_, fun hn b hb => ?_⟩
  · have hn : s.a = none := by simpa using hn
    rw [hn] at hr
    unfold rowOf at hr
    dsimp only at hr
    split at hr
    · injection hr with hr
      rw [← hr]
      exact ⟨Heap.le_refl _, ⟨none, 0, 0⟩, rfl, Heap.le_refl _, rfl, Nat.le_refl _, .inl ⟨rfl, rfl⟩⟩
    · cases hr
  · have hle := Heap.le_set (h := h) (Obj.cells ⟨[]⟩ 9 (0, 0)) hb
    have g0 : Grow h (h.set b (Obj.cells ⟨[]⟩ 9 (0, 0))) ⟨some ⟨b, 0, none⟩, 0, 0⟩ 1 [] := ⟨hle, rfl, Nat.le_refl _, .inr ⟨b, [], 9, rfl, hb, Heap.set_same _ _ _, rfl⟩⟩
    refine ⟨[], sv ls, g0.row, by rw [Nat.mul_one]; exact rowOf_le hle hr, ao_map (fun _ => rfl), by omega, by omega, fun h0 ad had => ?_, fun h => (by cases h), fun r h1 happ => ?_⟩
    · have : ls = [] := List.eq_nil_of_length_eq_zero (by omega)
      subst this
      exact (g0.fits (m := 0) (ys := []) rfl).1 (Nat.le_refl _) ad had
    · have g := g0.app (m := s.len) (ys := sv ls) (by rw [List.length_map, Nat.mul_one, hlen]) happ
      rw [List.nil_append] at g
      exact ⟨g.1, r, rfl, g⟩

def inL (inn : List Bs) : List (Bs × Int) := inn.map fun k => (k, 1)
theorem inL_find {inn : List Bs} {k : Bs} : kFind .str (inL inn) k = if k ∈ inn then some (1 : Int) else none := by
  unfold inL
  induction inn with
  | nil => rfl
  | cons x l ih =>
    rw [List.map_cons]
    unfold kFind
    dsimp only
    by_cases h : k = x
    · have : kEq .str k x = true := by simpa [kEq] using h
      rw [if_pos this, if_pos (by rw [h]; exact List.mem_cons_self ..)]
    · have : ¬ kEq .str k x = true := by simpa [kEq] using h
      rw [if_neg this, ih]
      by_cases hm : k ∈ l
      · rw [if_pos hm, if_pos (List.mem_cons_of_mem _ hm)]
      · rw [if_neg hm, if_neg (fun hc => (List.mem_cons.1 hc).elim h hm)]
theorem inL_put {inn : List Bs} {k : Bs} (h : k ∉ inn) : kPut .str (inL inn) k (1 : Int) = inL (inn ++ [k]) := by
  unfold inL
  induction inn with
  | nil => rfl
  | cons x l ih =>
    rw [List.map_cons]
    unfold kPut
    have hx : ¬ k = x := fun e => h (by rw [e]; exact List.mem_cons_self ..)
    have : ¬ kEq .str k x = true := by simpa [kEq] using hx
    dsimp only
    rw [if_neg this, ih (fun hm => h (List.mem_cons_of_mem _ hm))]
    rfl

/-- The keys of what lies in a map's block. -/
def inOf (h : Heap) (r : Nat) : List Bs := match h r with
  | some (.map es _) => es.toList.map fun e => match e.key with
    | .string s => s.data.toList
    | _ => []
  | _ => []
theorem inOf_eq {h : Heap} {r : Nat} {inn : List Bs} (hm : mapIs h (some r) .str (.int .i64) (inL inn)) : inOf h r = inn := by
  obtain ⟨es, c, hr, he⟩ := hm
  unfold inOf
  rw [hr]
  dsimp only
  have h1 := congrArg (List.map fun p : Value × Value => match p.1 with | .string s => s.data.toList | _ => []) he
  rw [List.map_map, List.map_map] at h1
  refine Eq.trans h1 ?_
  unfold inL
  rw [List.map_map]
  conv => rhs; rw [← List.map_id inn]
  rfl
theorem grow_len {h₀ h₁ : Heap} {sl : Sl} {l : List Bs} (g : Grow h₀ h₁ sl 1 (sv l)) : l.length = sl.len := by
  have := g.2.1
  rwa [List.length_map, Nat.mul_one] at this
theorem Grow.setmap {h₀ h₁ : Heap} {sl : Sl} {size : Nat} {l : List Value} (g : Grow h₀ h₁ sl size l) {r : Nat} (hr : h₀ r = none) {es : Array MapEntry} {k : Nat} (hm : h₁ r = some (.map es k)) (o : Obj) : Grow h₀ (h₁.set r o) sl size l := by
  obtain ⟨h1, h2, h3, h4⟩ := g
  refine ⟨Heap.le_over h1 hr o, h2, h3, ?_⟩
  rcases h4 with h | ⟨b, rest, e, h5, h6, h7, h8⟩
  · exact .inl h
  · refine .inr ⟨b, rest, e, h5, h6, ?_, h8⟩
    rw [Heap.set_other _ _ (by rintro rfl; rw [hm] at h7; cases h7)]; exact h7

set_option maxHeartbeats 1000000 in
theorem reached_ok {h : Heap} {p : Option Addr} {mb : Nat} {st : Store} {s : Sl} {roots : List Bs} (hS : isS h p mb st) (hO : StOk st) (hr : rowOf h s.a s.len = some (sv roots)) (hrl : roots.length ≤ 1000000) (hst : st.length ≤ 1000000) :
    Spec Tryz.prog 164 [.pointer p, .slice s.a s.len s.cap] h (fun v h' => h.le h' ∧ ∃ r, v = .map (some r) ∧ h r = none ∧ mapIs h' (some r) .str (.int .i64) (inL (reachM st roots))) := by
  apply ok164
  unfold VC164
  intro r hrn
  have hle0 := Heap.le_set (h := h) (Obj.map ⟨[]⟩ 0) hrn
  have hmu0 : mu st roots [] ≤ 18000000 := by
    have := unm_le st []
    unfold mu; omega
  refine (clone_ok (rowOf_le hle0 hr) hrl).mono ?_
  rintro v h1 ⟨hle1, sl, rfl, g1⟩
  refine ⟨sl, rfl, ?_⟩
  refine ⟨fun sl1 h2 => (∃ wait inn, Grow h h2 sl1 1 (sv wait) ∧ mapIs h2 (some r) .str (.int .i64) (inL inn) ∧ mu st wait inn ≤ mu st roots [] ∧ reachF st (mu st wait inn) wait inn = reachM st roots, sl1.len + 17 * unm st (inOf h2 r)), ?_, ?_⟩
  · refine ⟨roots, [], ?_, ⟨#[], 0, hle1 _ _ (Heap.set_same _ _ _), rfl⟩, Nat.le_refl _, rfl⟩
    obtain ⟨a1, a2, a3, a4⟩ := g1
    refine ⟨Heap.le_trans hle0 a1, a2, a3, ?_⟩
    rcases a4 with h | ⟨b, rest, e, h5, h6, h7, h8⟩
    · exact .inl h
    · exact .inr ⟨b, rest, e, h5, Heap.none_of hle0 h6, h7, h8⟩
  · rintro ⟨sa, sn, sc⟩ h2 ⟨wait, inn, g, hmi, hmu, hre⟩
    have hwl := grow_len g
    dsimp only at hwl
    refine ⟨fun hpos J hJ => ?_, fun hz => ?_⟩
    · have hpos : 0 < sn := by simp at hpos; omega
      have hwne : wait ≠ [] := by rintro rfl; simp at hwl; omega
      obtain ⟨x, hx, hd⟩ := last_some hwne
      obtain ⟨w, hw⟩ : ∃ w, w = wait.dropLast := ⟨_, rfl⟩
      rw [← hw] at hd
      subst hd
      clear hw hx hwne
      rw [List.length_append, List.length_singleton] at hwl
      obtain ⟨blk, hblk⟩ := g.own hpos
      dsimp only at hblk
      subst hblk
      have hmul : mu st (w ++ [x]) inn = w.length + 1 + 17 * unm st inn := by unfold mu; rw [List.length_append, List.length_singleton]
      have hinn := inOf_eq hmi
      have e1 : IntKind.wrap .i64 ((sn : Int) - 1) = ((sn - 1 : Nat) : Int) := by rw [wrap64 (by omega) (by omega)]; omega
      have hg' : sv (w ++ [x]) = sv w ++ [S x] := by simp [sv]
      rw [hg'] at g
      have gp := g.pop
      dsimp only at gp
      have hrow := g.row
      dsimp only at hrow
      have hrd : rd h2 (Addr.add ⟨blk, 0, none⟩ ((sn - 1) * 1)) = some (S x) := by
        rw [Nat.mul_one] at hrow ⊢
        have : sn - 1 = w.length := by omega
        rw [rd_of_rdn hrow (by omega), List.getElem?_append_right (by rw [List.length_map]; omega), List.length_map, this, Nat.sub_self]
        rfl
      obtain ⟨b, e, rfl, hb, kvs, hm, hrows⟩ := isS_le g.1 hS
      have hS2 : isS h2 (some ⟨b, 0, none⟩) mb st := ⟨b, e, rfl, hb, kvs, hm, hrows⟩
      have hrd2 : rd h2 (Addr.add ⟨b, 0, none⟩ 0) = some (.map (some mb)) := by rw [add_zero']; exact rd_of hb
      rw [e1]
      simp only [Int.toNat_natCast, Option.map, Nat.zero_mul, add_zero', ite_self, Nat.sub_zero]
      -- what goes on without the last
      have skip : (stFind st x = none ∨ x ∈ inn) → J ⟨some ⟨blk, 0, none⟩, sn - 1, sc⟩ h2 := fun hc => by
        refine hJ _ _ ⟨⟨w, inn, gp, hmi, by have : mu st w inn = w.length + 17 * unm st inn := rfl; omega, ?_⟩, ?_⟩
        · have := reachF_step (st := st) (w := w) (s := x) (inn := inn)
          rw [if_pos hc, hre] at this
          exact this.symm
        · dsimp only; omega
      refine ⟨⟨by omega, by omega⟩, ⟨blk, 0, none⟩, rfl, x, hrd, by omega, ⟨Nat.zero_le _, by have := g.2.2.1; dsimp only at this; omega, Nat.le_refl _⟩, (by first | rfl | trivial | exact fun _ => trivial), ⟨b, 0, none⟩, rfl, some mb, by simpa only [add_zero'] using hrd2, kvs, hm, fun sl3 hf J1 hJ1 => ⟨fun _ => ?_, fun hh => by simp at hh⟩, fun hf J4 hJ4 => ⟨fun hh => by simp at hh, fun _ => hJ4 _ _ ⟨fun _ => skip (.inl ((rows2_none (kt := .str) hrows).1 hf)), fun hh => by simp at hh⟩⟩⟩
      refine ⟨inL inn, hmi, fun n5 hf5 => ?_, fun hf5 => ?_⟩
      · have hxin : x ∈ inn := by
          have hf5' : kFind .str (inL inn) x = some n5 := hf5
          rw [inL_find] at hf5'
          by_cases h : x ∈ inn
          · exact h
          · rw [if_neg h] at hf5'; cases hf5'
        have hn5 : n5 = 1 := by
          have hf5' : kFind .str (inL inn) x = some n5 := hf5
          rw [inL_find, if_pos hxin] at hf5'
          injection hf5' with hf5'
          exact hf5'.symm
        subst hn5
        exact hJ1 _ _ ⟨fun _ => skip (.inr hxin), fun hh => by simp at hh⟩
      · have hxin : x ∉ inn := by
          intro hc
          have hf5' : kFind .str (inL inn) x = none := hf5
          rw [inL_find, if_pos hc] at hf5'
          cases hf5'
        obtain ⟨tx, htx, _⟩ := rows2_some (kt := .str) hrows hf
        have hxs : ¬ stFind st x = none := by
          intro hc
          have htx : stFind st x = some tx := htx
          rw [hc] at htx; cases htx
        have hu := unm_lt hxs hxin
        have hstep := reachF_step (st := st) (w := w) (s := x) (inn := inn)
        rw [if_neg (fun hc => hc.elim hxs hxin), hre] at hstep
        refine hJ1 _ _ ⟨fun hh => by simp at hh, fun _ => ⟨inL inn, hmi, fun n hfn => ?_, fun _ => ⟨r, inL inn, rfl, hmi, 1, rfl, fun es clock hes => ?_⟩⟩⟩
        · have hfn' : kFind .str (inL inn) x = some n := hfn
          rw [inL_find, if_neg hxin] at hfn'
          cases hfn'
        · have hput : kPut .str (inL inn) x (1 : Int) = inL (inn ++ [x]) := inL_put hxin
          obtain ⟨es2, c2, hr2, _⟩ := hmi
          have hmi3 : mapIs (h2.set r (.map es clock)) (some r) .str (.int .i64) (inL (inn ++ [x])) := ⟨es, clock, Heap.set_same _ _ _, by rw [← hput]; exact hes⟩
          have gp3 := gp.setmap hrn hr2 (.map es clock)
          refine (snode_ok (isS_le gp3.1 hS) hO).mono ?_
          rintro v h5 ⟨rfl, rfl⟩
          have hkl := nodeAt_kids st x
          have hkat : kidsAt st x = if (nodeAt st x).2 = 0 then kidsN (nodeAt st x).1 else [] := rfl
          have hk16 := kidsAt_le st x
          have hmu3 : mu st (w ++ kidsAt st x) (inn ++ [x]) ≤ mu st (w ++ [x]) inn := by
            have e : mu st (w ++ kidsAt st x) (inn ++ [x]) = w.length + (kidsAt st x).length + 17 * unm st (inn ++ [x]) := by unfold mu; rw [List.length_append]
            omega
          refine ⟨_, _, rfl, ⟨node_len hkl, node_len hkl⟩, fun J3 hJ3 => ⟨fun h0 => ⟨node_len hkl, (kids_ok hkl).mono ?_⟩, fun h0 => ?_⟩⟩
          · have h0 : (nodeAt st x).2 = 0 := by simpa using h0
            rw [if_pos h0] at hkat
            rintro v h7 ⟨sl8, rfl, g8⟩
            have g7 := gp3.le g8.1
            have hl8 := grow_len g8
            refine ⟨sl8, rfl, _, _, g7.row, g8.row, ao_map (fun _ => rfl), ?_, ?_, (g7.fits (m := sl8.len) g8.2.1).1, (g7.fits (m := sl8.len) g8.2.1).2, fun sl9 h12 happ => ?_⟩
            · rw [← hkat] at hl8; omega
            · rw [← hkat] at hl8; omega
            · have g12 := g7.app (m := sl8.len) (ys := sv (kidsN (nodeAt st x).1)) g8.2.1 happ
              have hmi12 : h12 r = some (.map es clock) := by
                have hkeep := app_keep g7 (m := sl8.len) (ys := sv (kidsN (nodeAt st x).1)) g8.2.1 happ (c := r) (g8.1 _ _ (Heap.set_same _ _ _)) (by
                  rintro ad had rfl
                  dsimp only at had
                  injection had with had
                  rcases gp3.2.2.2 with ⟨hh, _⟩ | ⟨c, rest, e', h5', h6', h7', _⟩
                  · cases hh
                  · dsimp only at h5'
                    injection h5' with h5'
                    rw [← had] at hmi3
                    have hcb : c = blk := by injection h5' with h5'; exact h5'.symm
                    rw [hcb, ← had, Heap.set_same] at h7'
                    cases h7')
                exact hkeep.1
              have hmi' : mapIs h12 (some r) .str (.int .i64) (inL (inn ++ [x])) := ⟨es, clock, hmi12, by rw [← hput]; exact hes⟩
              have hin12 := inOf_eq hmi'
              refine hJ3 _ _ (hJ _ _ ⟨⟨w ++ kidsAt st x, inn ++ [x], ?_, hmi', Nat.le_trans hmu3 hmu, hstep.symm⟩, ?_⟩)
              · rw [hkat]
                have : sv (w ++ kidsN (nodeAt st x).1) = sv w ++ sv (kidsN (nodeAt st x).1) := by simp [sv]
                rw [this]; exact g12
              · have hl9 := happ.1
                dsimp only at hl9 ⊢
                rw [hin12, hinn]
                rw [← hkat] at hl8
                omega
          · have h0 : ¬ (nodeAt st x).2 = 0 := by simpa using h0
            rw [if_neg h0] at hkat
            rw [hkat, List.append_nil] at hmu3 hstep
            have hin5 := inOf_eq hmi3
            refine hJ3 _ _ (hJ _ _ ⟨⟨w, inn ++ [x], gp3, hmi3, Nat.le_trans hmu3 hmu, hstep.symm⟩, ?_⟩)
            dsimp only
            rw [hin5, hinn]
            omega
    · have hz : sn = 0 := by simp at hz; omega
      have hw : wait = [] := List.eq_nil_of_length_eq_zero (by omega)
      subst hw
      refine ⟨g.1, r, rfl, hrn, ?_⟩
      have : reachM st roots = inn := by
        rw [← hre]
        cases h : mu st [] inn <;> rfl
      rw [this]; exact hmi
end Go.Vw
namespace Go.Vw
open Go Go.Proofs Go.RowKit Go.Maps Go.Sort Go.Shelf
open Go.WideElems (Fit rg)

def keys242_ren : Go.Shelf.Ren := ⟨fun | 7 => 242 | 10 => 310 | n => n, fun | 23 => 268 | 26 => 9 | 3 => 144 | 28 => 336 | 0 => 0 | 27 => 335 | 33 => 157 | 4 => 4 | n => n, fun | n => n⟩
theorem keys242 : SlLaysZ.n7 Tryz.prog keys242_ren where
  mixed := by kernel_rfl
  f7 := ⟨"maps.Keys[map[string][]byte,string,[]byte]", by decide, Tryz.func242.trans (congrArg some (by kernel_rfl))⟩
  f10 := ⟨"maps.Keys[map[string][]byte,string,[]byte]$1", by decide, Tryz.func310.trans (congrArg some (by kernel_rfl))⟩
  t0 := Tryz.underlying0
  a0 := Tryz.isAgg0
  z0 := Tryz.sizeOf0
  v0 := Tryz.zeroValue0
  t4 := Tryz.underlying4
  a4 := Tryz.isAgg4
  z4 := Tryz.sizeOf4
  v4 := Tryz.zeroValue4
  t23 := Tryz.underlying268
  a23 := Tryz.isAgg268
  z23 := Tryz.sizeOf268
  v23 := Tryz.zeroValue268
  t26 := Tryz.underlying9
  a26 := Tryz.isAgg9
  z26 := Tryz.sizeOf9
  v26 := Tryz.zeroValue9
  t27 := Tryz.underlying335
  a27 := Tryz.isAgg335
  z27 := Tryz.sizeOf335
  v27 := Tryz.zeroValue335
  t28 := Tryz.underlying336
  a28 := Tryz.isAgg336
  z28 := Tryz.sizeOf336
  v28 := Tryz.zeroValue336
  t33 := Tryz.underlying157
  a33 := Tryz.isAgg157
  z33 := Tryz.sizeOf157
  v33 := Tryz.zeroValue157
def sorted241_ren : Go.Shelf.Ren := ⟨fun | 6 => 241 | 8 => 309 | 9 => 236 | 11 => 378 | 13 => 245 | 12 => 307 | 23 => 319 | 24 => 320 | 14 => 368 | 15 => 369 | 16 => 370 | 17 => 371 | 18 => 372 | 19 => 373 | 20 => 374 | 21 => 375 | 22 => 376 | 25 => 398 | 26 => 380 | 27 => 381 | 28 => 399 | 29 => 400 | 30 => 401 | 31 => 409 | n => n, fun | 26 => 9 | 28 => 336 | 24 => 39 | 0 => 0 | 3 => 3 | 37 => 125 | 48 => 350 | 50 => 413 | 4 => 4 | 40 => 406 | 39 => 405 | 45 => 190 | 5 => 5 | 9 => 9 | 51 => 452 | 55 => 456 | 57 => 476 | 58 => 477 | 33 => 157 | n => n, fun | n => n⟩
theorem sorted241 : SlLaysZ.n6 Tryz.prog sorted241_ren where
  mixed := by kernel_rfl
  f6 := ⟨"slices.Sorted[string]", by decide, Tryz.func241.trans (congrArg some (by kernel_rfl))⟩
  f8 := ⟨"slices.Collect[string]", by decide, Tryz.func309.trans (congrArg some (by kernel_rfl))⟩
  f11 := ⟨"slices.AppendSeq[[]string,string]", by decide, Tryz.func378.trans (congrArg some (by kernel_rfl))⟩
  t0 := Tryz.underlying0
  a0 := Tryz.isAgg0
  z0 := Tryz.sizeOf0
  v0 := Tryz.zeroValue0
  t24 := Tryz.underlying39
  a24 := Tryz.isAgg39
  z24 := Tryz.sizeOf39
  v24 := Tryz.zeroValue39
  t26 := Tryz.underlying9
  a26 := Tryz.isAgg9
  z26 := Tryz.sizeOf9
  v26 := Tryz.zeroValue9
  t28 := Tryz.underlying336
  a28 := Tryz.isAgg336
  z28 := Tryz.sizeOf336
  v28 := Tryz.zeroValue336
  i26 := by kernel_rfl
def sort236_ren : Go.Shelf.Ren := ⟨fun | 6 => 236 | 8 => 245 | 9 => 307 | 19 => 319 | 20 => 320 | 21 => 368 | 22 => 369 | 23 => 370 | 24 => 371 | 25 => 372 | 26 => 373 | 27 => 374 | 28 => 375 | 29 => 376 | 36 => 398 | 31 => 380 | 32 => 381 | 37 => 399 | 38 => 400 | 39 => 401 | 41 => 409 | n => n, fun | 27 => 39 | 29 => 9 | 3 => 3 | 32 => 125 | 26 => 39 | 0 => 0 | 44 => 350 | 46 => 413 | 4 => 4 | 36 => 406 | 35 => 405 | 41 => 190 | 5 => 5 | 9 => 9 | 53 => 452 | 57 => 456 | 63 => 476 | 64 => 477 | n => n, fun | n => n⟩
theorem sort236 : SlLaysM.n6 Tryz.prog sort236_ren where
  mixed := by kernel_rfl
  f6 := ⟨"slices.Sort[[]string,string]", by decide, Tryz.func236.trans (congrArg some (by kernel_rfl))⟩
  f8 := Tryz.func245.trans (congrArg some (by kernel_rfl))
  f9 := ⟨"slices.pdqsortOrdered[string]", by decide, Tryz.func307.trans (congrArg some (by kernel_rfl))⟩
  f19 := Tryz.func319.trans (congrArg some (by kernel_rfl))
  f20 := Tryz.func320.trans (congrArg some (by kernel_rfl))
  f21 := ⟨"slices.insertionSortOrdered[string]", by decide, Tryz.func368.trans (congrArg some (by kernel_rfl))⟩
  f22 := ⟨"slices.heapSortOrdered[string]", by decide, Tryz.func369.trans (congrArg some (by kernel_rfl))⟩
  f23 := ⟨"slices.breakPatternsOrdered[string]", by decide, Tryz.func370.trans (congrArg some (by kernel_rfl))⟩
  f24 := ⟨"slices.choosePivotOrdered[string]", by decide, Tryz.func371.trans (congrArg some (by kernel_rfl))⟩
  f25 := ⟨"slices.reverseRangeOrdered[string]", by decide, Tryz.func372.trans (congrArg some (by kernel_rfl))⟩
  f26 := ⟨"slices.partialInsertionSortOrdered[string]", by decide, Tryz.func373.trans (congrArg some (by kernel_rfl))⟩
  f27 := ⟨"cmp.Less[string]", by decide, Tryz.func374.trans (congrArg some (by kernel_rfl))⟩
  f28 := ⟨"slices.partitionEqualOrdered[string]", by decide, Tryz.func375.trans (congrArg some (by kernel_rfl))⟩
  f29 := ⟨"slices.partitionOrdered[string]", by decide, Tryz.func376.trans (congrArg some (by kernel_rfl))⟩
  f31 := Tryz.func380.trans (congrArg some (by kernel_rfl))
  f32 := Tryz.func381.trans (congrArg some (by kernel_rfl))
  f36 := ⟨"slices.siftDownOrdered[string]", by decide, Tryz.func398.trans (congrArg some (by kernel_rfl))⟩
  f37 := ⟨"slices.medianAdjacentOrdered[string]", by decide, Tryz.func399.trans (congrArg some (by kernel_rfl))⟩
  f38 := ⟨"slices.medianOrdered[string]", by decide, Tryz.func400.trans (congrArg some (by kernel_rfl))⟩
  f39 := ⟨"cmp.isNaN[string]", by decide, Tryz.func401.trans (congrArg some (by kernel_rfl))⟩
  f41 := ⟨"slices.order2Ordered[string]", by decide, Tryz.func409.trans (congrArg some (by kernel_rfl))⟩
  t0 := Tryz.underlying0
  a0 := Tryz.isAgg0
  z0 := Tryz.sizeOf0
  v0 := Tryz.zeroValue0
  t3 := Tryz.underlying3
  a3 := Tryz.isAgg3
  z3 := Tryz.sizeOf3
  v3 := Tryz.zeroValue3
  t4 := Tryz.underlying4
  a4 := Tryz.isAgg4
  z4 := Tryz.sizeOf4
  v4 := Tryz.zeroValue4
  t5 := Tryz.underlying5
  a5 := Tryz.isAgg5
  z5 := Tryz.sizeOf5
  v5 := Tryz.zeroValue5
  t9 := Tryz.underlying9
  a9 := Tryz.isAgg9
  z9 := Tryz.sizeOf9
  v9 := Tryz.zeroValue9
  t26 := Tryz.underlying39
  a26 := Tryz.isAgg39
  z26 := Tryz.sizeOf39
  v26 := Tryz.zeroValue39
  t27 := Tryz.underlying39
  a27 := Tryz.isAgg39
  z27 := Tryz.sizeOf39
  v27 := Tryz.zeroValue39
  t29 := Tryz.underlying9
  a29 := Tryz.isAgg9
  z29 := Tryz.sizeOf9
  v29 := Tryz.zeroValue9
  t32 := Tryz.underlying125
  a32 := Tryz.isAgg125
  z32 := Tryz.sizeOf125
  v32 := Tryz.zeroValue125
  t35 := Tryz.underlying405
  a35 := Tryz.isAgg405
  z35 := Tryz.sizeOf405
  v35 := Tryz.zeroValue405
  t36 := Tryz.underlying406
  a36 := Tryz.isAgg406
  z36 := Tryz.sizeOf406
  v36 := Tryz.zeroValue406
  t41 := Tryz.underlying190
  a41 := Tryz.isAgg190
  z41 := Tryz.sizeOf190
  v41 := Tryz.zeroValue190
  t44 := Tryz.underlying350
  a44 := Tryz.isAgg350
  z44 := Tryz.sizeOf350
  v44 := Tryz.zeroValue350
  t46 := Tryz.underlying413
  a46 := Tryz.isAgg413
  z46 := Tryz.sizeOf413
  v46 := Tryz.zeroValue413
  t53 := Tryz.underlying452
  a53 := Tryz.isAgg452
  z53 := Tryz.sizeOf452
  v53 := Tryz.zeroValue452
  t57 := Tryz.underlying456
  a57 := Tryz.isAgg456
  z57 := Tryz.sizeOf456
  v57 := Tryz.zeroValue456
  t63 := Tryz.underlying476
  a63 := Tryz.isAgg476
  z63 := Tryz.sizeOf476
  v63 := Tryz.zeroValue476
  t64 := Tryz.underlying477
  a64 := Tryz.isAgg477
  z64 := Tryz.sizeOf477
  v64 := Tryz.zeroValue477
def keys70_ren : Go.Shelf.Ren := ⟨fun | 7 => 70 | 10 => 163 | n => n, fun | 23 => 140 | 26 => 3 | 3 => 144 | 28 => 147 | 0 => 0 | 27 => 146 | 33 => 136 | 4 => 4 | n => n, fun | n => n⟩
theorem keys70 : SlLaysZI.n7 Tryz.prog keys70_ren where
  mixed := by kernel_rfl
  f7 := ⟨"maps.Keys[map[int][]byte,int,[]byte]", by decide, Tryz.func70.trans (congrArg some (by kernel_rfl))⟩
  f10 := ⟨"maps.Keys[map[int][]byte,int,[]byte]$1", by decide, Tryz.func163.trans (congrArg some (by kernel_rfl))⟩
  t0 := Tryz.underlying0
  a0 := Tryz.isAgg0
  z0 := Tryz.sizeOf0
  v0 := Tryz.zeroValue0
  t4 := Tryz.underlying4
  a4 := Tryz.isAgg4
  z4 := Tryz.sizeOf4
  v4 := Tryz.zeroValue4
  t23 := Tryz.underlying140
  a23 := Tryz.isAgg140
  z23 := Tryz.sizeOf140
  v23 := Tryz.zeroValue140
  t26 := Tryz.underlying3
  a26 := Tryz.isAgg3
  z26 := Tryz.sizeOf3
  v26 := Tryz.zeroValue3
  t27 := Tryz.underlying146
  a27 := Tryz.isAgg146
  z27 := Tryz.sizeOf146
  v27 := Tryz.zeroValue146
  t28 := Tryz.underlying147
  a28 := Tryz.isAgg147
  z28 := Tryz.sizeOf147
  v28 := Tryz.zeroValue147
  t33 := Tryz.underlying136
  a33 := Tryz.isAgg136
  z33 := Tryz.sizeOf136
  v33 := Tryz.zeroValue136
def sorted69_ren : Go.Shelf.Ren := ⟨fun | 6 => 69 | 8 => 161 | 9 => 162 | 11 => 243 | 13 => 245 | 12 => 244 | 23 => 319 | 24 => 320 | 14 => 311 | 15 => 312 | 16 => 313 | 17 => 314 | 18 => 315 | 19 => 316 | 20 => 287 | 21 => 317 | 22 => 318 | 25 => 379 | 26 => 380 | 27 => 381 | 28 => 382 | 29 => 383 | 30 => 344 | 31 => 402 | n => n, fun | 26 => 3 | 28 => 147 | 24 => 33 | 0 => 0 | 3 => 3 | 37 => 125 | 48 => 350 | 50 => 413 | 4 => 4 | 40 => 406 | 39 => 405 | 45 => 190 | 5 => 5 | 9 => 9 | 51 => 452 | 55 => 456 | 57 => 476 | 58 => 477 | 33 => 136 | n => n, fun | n => n⟩
theorem sorted69 : SlLaysZI.n6 Tryz.prog sorted69_ren where
  mixed := by kernel_rfl
  f6 := ⟨"slices.Sorted[int]", by decide, Tryz.func69.trans (congrArg some (by kernel_rfl))⟩
  f8 := ⟨"slices.Collect[int]", by decide, Tryz.func161.trans (congrArg some (by kernel_rfl))⟩
  f11 := ⟨"slices.AppendSeq[[]int,int]", by decide, Tryz.func243.trans (congrArg some (by kernel_rfl))⟩
  t0 := Tryz.underlying0
  a0 := Tryz.isAgg0
  z0 := Tryz.sizeOf0
  v0 := Tryz.zeroValue0
  t24 := Tryz.underlying33
  a24 := Tryz.isAgg33
  z24 := Tryz.sizeOf33
  v24 := Tryz.zeroValue33
  t26 := Tryz.underlying3
  a26 := Tryz.isAgg3
  z26 := Tryz.sizeOf3
  v26 := Tryz.zeroValue3
  t28 := Tryz.underlying147
  a28 := Tryz.isAgg147
  z28 := Tryz.sizeOf147
  v28 := Tryz.zeroValue147
  i26 := by kernel_rfl
def sort162_ren : Go.Shelf.Ren := ⟨fun | 5 => 162 | 8 => 245 | 7 => 244 | 19 => 319 | 20 => 320 | 10 => 311 | 11 => 312 | 12 => 313 | 13 => 314 | 14 => 315 | 15 => 316 | 16 => 287 | 17 => 317 | 18 => 318 | 30 => 379 | 31 => 380 | 32 => 381 | 33 => 382 | 34 => 383 | 35 => 344 | 40 => 402 | n => n, fun | 23 => 33 | 25 => 3 | 3 => 3 | 32 => 125 | 22 => 33 | 0 => 0 | 44 => 350 | 46 => 413 | 4 => 4 | 36 => 406 | 35 => 405 | 41 => 190 | 5 => 5 | 9 => 9 | 53 => 452 | 57 => 456 | 63 => 476 | 64 => 477 | n => n, fun | n => n⟩
theorem sort162 : SlLaysM.n5 Tryz.prog sort162_ren where
  mixed := by kernel_rfl
  f5 := ⟨"slices.Sort[[]int,int]", by decide, Tryz.func162.trans (congrArg some (by kernel_rfl))⟩
  f7 := ⟨"slices.pdqsortOrdered[int]", by decide, Tryz.func244.trans (congrArg some (by kernel_rfl))⟩
  f8 := Tryz.func245.trans (congrArg some (by kernel_rfl))
  f10 := ⟨"slices.insertionSortOrdered[int]", by decide, Tryz.func311.trans (congrArg some (by kernel_rfl))⟩
  f11 := ⟨"slices.heapSortOrdered[int]", by decide, Tryz.func312.trans (congrArg some (by kernel_rfl))⟩
  f12 := ⟨"slices.breakPatternsOrdered[int]", by decide, Tryz.func313.trans (congrArg some (by kernel_rfl))⟩
  f13 := ⟨"slices.choosePivotOrdered[int]", by decide, Tryz.func314.trans (congrArg some (by kernel_rfl))⟩
  f14 := ⟨"slices.reverseRangeOrdered[int]", by decide, Tryz.func315.trans (congrArg some (by kernel_rfl))⟩
  f15 := ⟨"slices.partialInsertionSortOrdered[int]", by decide, Tryz.func316.trans (congrArg some (by kernel_rfl))⟩
  f16 := ⟨"cmp.Less[int]", by decide, Tryz.func287.trans (congrArg some (by kernel_rfl))⟩
  f17 := ⟨"slices.partitionEqualOrdered[int]", by decide, Tryz.func317.trans (congrArg some (by kernel_rfl))⟩
  f18 := ⟨"slices.partitionOrdered[int]", by decide, Tryz.func318.trans (congrArg some (by kernel_rfl))⟩
  f19 := Tryz.func319.trans (congrArg some (by kernel_rfl))
  f20 := Tryz.func320.trans (congrArg some (by kernel_rfl))
  f30 := ⟨"slices.siftDownOrdered[int]", by decide, Tryz.func379.trans (congrArg some (by kernel_rfl))⟩
  f31 := Tryz.func380.trans (congrArg some (by kernel_rfl))
  f32 := Tryz.func381.trans (congrArg some (by kernel_rfl))
  f33 := ⟨"slices.medianAdjacentOrdered[int]", by decide, Tryz.func382.trans (congrArg some (by kernel_rfl))⟩
  f34 := ⟨"slices.medianOrdered[int]", by decide, Tryz.func383.trans (congrArg some (by kernel_rfl))⟩
  f35 := ⟨"cmp.isNaN[int]", by decide, Tryz.func344.trans (congrArg some (by kernel_rfl))⟩
  f40 := ⟨"slices.order2Ordered[int]", by decide, Tryz.func402.trans (congrArg some (by kernel_rfl))⟩
  t0 := Tryz.underlying0
  a0 := Tryz.isAgg0
  z0 := Tryz.sizeOf0
  v0 := Tryz.zeroValue0
  t3 := Tryz.underlying3
  a3 := Tryz.isAgg3
  z3 := Tryz.sizeOf3
  v3 := Tryz.zeroValue3
  t4 := Tryz.underlying4
  a4 := Tryz.isAgg4
  z4 := Tryz.sizeOf4
  v4 := Tryz.zeroValue4
  t5 := Tryz.underlying5
  a5 := Tryz.isAgg5
  z5 := Tryz.sizeOf5
  v5 := Tryz.zeroValue5
  t9 := Tryz.underlying9
  a9 := Tryz.isAgg9
  z9 := Tryz.sizeOf9
  v9 := Tryz.zeroValue9
  t22 := Tryz.underlying33
  a22 := Tryz.isAgg33
  z22 := Tryz.sizeOf33
  v22 := Tryz.zeroValue33
  t23 := Tryz.underlying33
  a23 := Tryz.isAgg33
  z23 := Tryz.sizeOf33
  v23 := Tryz.zeroValue33
  t25 := Tryz.underlying3
  a25 := Tryz.isAgg3
  z25 := Tryz.sizeOf3
  v25 := Tryz.zeroValue3
  t32 := Tryz.underlying125
  a32 := Tryz.isAgg125
  z32 := Tryz.sizeOf125
  v32 := Tryz.zeroValue125
  t35 := Tryz.underlying405
  a35 := Tryz.isAgg405
  z35 := Tryz.sizeOf405
  v35 := Tryz.zeroValue405
  t36 := Tryz.underlying406
  a36 := Tryz.isAgg406
  z36 := Tryz.sizeOf406
  v36 := Tryz.zeroValue406
  t41 := Tryz.underlying190
  a41 := Tryz.isAgg190
  z41 := Tryz.sizeOf190
  v41 := Tryz.zeroValue190
  t44 := Tryz.underlying350
  a44 := Tryz.isAgg350
  z44 := Tryz.sizeOf350
  v44 := Tryz.zeroValue350
  t46 := Tryz.underlying413
  a46 := Tryz.isAgg413
  z46 := Tryz.sizeOf413
  v46 := Tryz.zeroValue413
  t53 := Tryz.underlying452
  a53 := Tryz.isAgg452
  z53 := Tryz.sizeOf452
  v53 := Tryz.zeroValue452
  t57 := Tryz.underlying456
  a57 := Tryz.isAgg456
  z57 := Tryz.sizeOf456
  v57 := Tryz.zeroValue456
  t63 := Tryz.underlying476
  a63 := Tryz.isAgg476
  z63 := Tryz.sizeOf476
  v63 := Tryz.zeroValue476
  t64 := Tryz.underlying477
  a64 := Tryz.isAgg477
  z64 := Tryz.sizeOf477
  v64 := Tryz.zeroValue477

theorem sorts241 (m : Nat) : AnyZ.SortsIn Tryz.prog sorted241_ren Fence.wide m :=
  ⟨fun blk off cap ss W hH hblk hsz => callsIn_wide.2 (AnyM.slices_Sort_string sort236 blk off cap ss W hH hblk hsz),
   fun p cap W => callsIn_wide.2 (AnyM.slices_Sort_string_none sort236 p cap W)⟩
theorem sorts69 (m : Nat) : AnyZI.SortsIn Tryz.prog sorted69_ren Fence.wide m :=
  ⟨fun blk off cap ss W hH hblk hsz => callsIn_wide.2 (AnyM.slices_Sort_int sort162 blk off cap ss W hH hblk hsz),
   fun p cap W => callsIn_wide.2 (AnyM.slices_Sort_int_none sort162 p cap W)⟩

theorem rel_alloc {h : Heap} {w : World} (hr : Rel h w) (o : Obj) : Rel (h.set w.heap.size o) (w.alloc o) := by
  intro b x hb
  by_cases hbe : b = w.heap.size
  · rw [hbe, Heap.set_same] at hb
    rw [hbe, World.alloc_heap_new]
    exact hb
  · rw [Heap.set_other _ _ hbe] at hb
    have hlt := rel_lt hr hb
    rw [World.alloc]
    simp only [Array.getElem?_push]
    rw [if_neg (by omega)]
    exact hr b x hb
theorem HW.alloc {h : Heap} (hw : HW h) {b : Nat} {o : Obj} (ho : ∀ es k, o ≠ .map es k) : HW (h.set b o) := by
  intro x es k hx
  unfold Heap.set at hx
  split at hx
  · injection hx with hx; exact absurd hx (ho es k)
  · exact hw x es k hx
theorem keysF_ok {f g : FuncId} {t : TypeId} (hc : ∀ (m : Option Nat) (W : World), CallsIn Fence.wide 5 Tryz.prog f #[.map m] W fun e w' => e = .returned (.func (.func g) #[] #[.pointer (some ⟨W.heap.size, 0, none⟩)]) ∧ w' = W.alloc (.cells #[.map m] t)) {m : Option Nat} {h : Heap} :
    Spec Tryz.prog f [.map m] h (fun v h' => ∃ b, h b = none ∧ v = .func (.func g) #[] #[.pointer (some ⟨b, 0, none⟩)] ∧ h' = h.set b (.cells ⟨[.map m]⟩ t (0, 0))) := by
  intro hw hok w hrel
  refine Calls.mono (callsIn_wide.1 (hc m w)) ?_
  rintro e w' ⟨rfl, rfl⟩
  have hf := rel_fresh hrel
  refine ⟨_, _, rfl, rel_alloc hrel (.cells #[.map m] t), hw.alloc (fun es k => by simp), rfl, ⟨rfl, rfl, rfl, ?_, fun b hb hn => ⟨?_, ?_⟩⟩, w.heap.size, hf, rfl, rfl⟩
  · show w.heap.size ≤ (w.heap.push _).size
    rw [Array.size_push]; omega
  · rw [Heap.set_other _ _ (by omega)]; exact hn
  · simp only [World.alloc, Array.getElem?_push]
    rw [if_neg (by omega)]
theorem keysS_ok {m : Option Nat} {h : Heap} : Spec Tryz.prog 242 [.map m] h (fun v h' => ∃ b, h b = none ∧ v = .func (.func 310) #[] #[.pointer (some ⟨b, 0, none⟩)] ∧ h' = h.set b (.cells ⟨[.map m]⟩ 268 (0, 0))) :=
  keysF_ok (fun m W => AnyZ.keys_in keys242 Fence.wide 5 trivial rfl m W)
theorem keysI_ok {m : Option Nat} {h : Heap} : Spec Tryz.prog 70 [.map m] h (fun v h' => ∃ b, h b = none ∧ v = .func (.func 163) #[] #[.pointer (some ⟨b, 0, none⟩)] ∧ h' = h.set b (.cells ⟨[.map m]⟩ 140 (0, 0))) :=
  keysF_ok (fun m W => AnyZI.keys_in keys70 Fence.wide 5 trivial rfl m W)

/-- What is handed back, a new slice, is known. -/
theorem row_known {h : Heap} {w w' : World} (hrel : Rel h w) (hb : Below w.heap.size w w') {e : TypeId} {v : Value} {n : Nat} {xs : List Value} (hrow : w'.ownsRow w.heap.size e 1 v n xs) (hw : HW h) :
    ∃ h', Rel h' w' ∧ HW h' ∧ Fr h w h' w' ∧ h.le h' ∧ ∃ sl : Sl, v = .slice sl.a sl.len sl.cap ∧ Grow h h' sl 1 xs := by
  have hrel' : Rel h w' := fun b o ho => by
    rw [hb.block b (rel_lt hrel ho)]; exact hrel b o ho
  obtain ⟨hl, hcase⟩ := hrow
  rcases hcase with ⟨rfl, rfl⟩ | ⟨g, cap, cur, rfl, hg, hcell, hn, hcap, hsz, htake⟩
  · refine ⟨h, hrel', hw, ⟨hb.os, hb.tape, hb.output, hb.size, fun b hlt hn => ⟨hn, hb.block b hlt⟩⟩, Heap.le_refl _, ⟨none, 0, 0⟩, rfl, Heap.le_refl _, ?_, Nat.le_refl _, .inl ⟨rfl, rfl⟩⟩
    simpa using hl
  · have hgn : h g = none := by
      cases hh : h g with
      | none => rfl
      | some o => have := rel_lt hrel hh; omega
    refine ⟨h.set g (.cells cur e (0, 0)), ?_, hw.alloc (fun es k => by simp), ⟨hb.os, hb.tape, hb.output, hb.size, fun b hlt hbn => ⟨?_, hb.block b hlt⟩⟩, Heap.le_set _ hgn, ⟨some ⟨g, 0, none⟩, n, cap⟩, rfl, Heap.le_set _ hgn, by simpa using hl, hn, .inr ⟨g, cur.toList.drop n, e, rfl, hgn, ?_, ?_⟩⟩
    · intro b o ho
      unfold Heap.set at ho
      split at ho
      · rename_i eq; injection ho with ho; subst ho; subst eq; exact hcell
      · exact hrel' b o ho
    · rw [Heap.set_other _ _ (by omega)]; exact hbn
    · rw [Heap.set_same, ← htake, Nat.mul_one, List.take_append_drop]
    · rw [List.length_drop, Nat.mul_one, Array.length_toList, hsz]
      show cap * 1 - n = cap - n
      omega

/-- How a value reads: not at all. -/
def blindR : Value → Option (DataW Unit × List MemPlace) := fun _ => some (.nil, [])
def keyBs : Value → List UInt8
  | .string s => s.data.toList
  | _ => []
def keyInt : Value → Int
  | .int _ n => n
  | _ => 0
theorem keys_perm {κ : Type} {kt : TypeId} {es : Array MapEntry} {ks : List κ} {kv : κ → Value} (of : Lit → κ) (oe : Value → κ) (hke : es.toList.map (·.key) = ks.map kv) (h1 : ∀ k ∈ ks, (of (rg (H := Unit) Tryz.prog kt blindR ⟨kv k, .bool true, 0⟩).1) = k) :
    (((es.toList.map (rg Tryz.prog kt blindR)).foldr DataW.insert []).map fun p => of p.1).Perm ks := by
  have e : (es.toList.map (rg (H := Unit) Tryz.prog kt blindR)).map (fun p => of p.1) = ks := by
    have : ∀ (es : List MapEntry) (ks : List κ), es.map (·.key) = ks.map kv → (∀ k ∈ ks, (of (rg (H := Unit) Tryz.prog kt blindR ⟨kv k, .bool true, 0⟩).1) = k) → (es.map (rg (H := Unit) Tryz.prog kt blindR)).map (fun p => of p.1) = ks := by
      intro es
      induction es with
      | nil => intro ks h _; cases ks with | nil => rfl | cons k ks => cases h
      | cons x es ih =>
        intro ks h h1
        cases ks with
        | nil => cases h
        | cons k ks =>
          rw [List.map_cons, List.map_cons] at h
          injection h with hx h
          rw [List.map_cons, List.map_cons, ih ks h (fun k hk => h1 k (List.mem_cons_of_mem _ hk))]
          congr 1
          have h2 := h1 k (List.mem_cons_self ..)
          have e : rg (H := Unit) Tryz.prog kt blindR x = rg Tryz.prog kt blindR ⟨kv k, .bool true, 0⟩ := by
            unfold rg WideElems.rd blindR
            rw [hx]
          rw [e]; exact h2
    exact this _ _ hke h1
  have hp := (WideShapes.sorted_perm (es.toList.map (rg (H := Unit) Tryz.prog kt blindR))).map (fun p => of p.1)
  rw [e] at hp
  exact hp

theorem mapIs_keys {h : Heap} {m : Nat} {kt vt : Ty} {kvs : List (kt.T × vt.T)} {es : Array MapEntry} (he : es.toList.map (fun e => (e.key, e.val)) = kvs.map (fun p => (kt.v p.1, vt.v p.2))) : es.toList.map (·.key) = (kvs.map (·.1)).map kt.v ∧ es.size = kvs.length := by
  have h1 := congrArg (List.map Prod.fst) he
  rw [List.map_map, List.map_map] at h1
  refine ⟨by rw [List.map_map]; exact h1, ?_⟩
  have h2 := congrArg List.length he
  simpa using h2
theorem size_sorted {es : Array MapEntry} {kt : TypeId} : Maps.size (.map ((es.toList.map (rg (H := Unit) Tryz.prog kt blindR)).foldr DataW.insert [])) = es.size := by
  rw [Maps.size_eq, length_sorted]
  simp

set_option maxHeartbeats 1000000 in
theorem sortedS_ok {h : Heap} {b mb : Nat} {vt : Ty} {kvs : List (Bs × vt.T)} (hb : h b = some (.cells ⟨[.map (some mb)]⟩ 268 (0, 0))) (hm : mapIs h (some mb) .str vt kvs) (hl : kvs.length ≤ 1000000000) (hk : ∀ p ∈ kvs, p.1.length ≤ 1073741824) :
    Spec Tryz.prog 241 [.func (.func 310) #[] #[.pointer (some ⟨b, 0, none⟩)]] h (fun v h' => h.le h' ∧ ∃ (sl : Sl) (ss : List Bs), v = .slice sl.a sl.len sl.cap ∧ ss.Perm (kvs.map (·.1)) ∧ Grow h h' sl 1 (sv (ss.mergeSort (fun x y => decide (x ≤ y))))) := by
  intro hw hok w hrel
  obtain ⟨es, clock, hmb, he⟩ := hm
  obtain ⟨hke, hsz⟩ := mapIs_keys (h := h) (m := mb) (kt := .str) he
  have hkey : ∀ x : Bs, x.length ≤ 1073741824 → keyOf Tryz.prog 9 (S x) = some (.string x) := fun x hx => by
    have := WideMaps.keyOf_string_mk (P := Tryz.prog) (k := 9) Tryz.underlying9 (s := ⟨⟨x⟩⟩) (by show x.length ≤ maxLen; unfold maxLen; omega)
    exact this
  have hown : w.ownsMap Tryz.prog 9 blindR mb kvs.length (.map ((es.toList.map (rg (H := Unit) Tryz.prog 9 blindR)).foldr DataW.insert [])) := by
    refine ⟨es, clock, hrel _ _ hmb, ⟨by rw [hsz]; unfold maxLen; omega, hw _ _ _ hmb, fun x hx => ?_⟩, by rw [hsz]; exact Nat.le_refl _, rfl⟩
    have : x.key ∈ es.toList.map (·.key) := List.mem_map.2 ⟨x, hx, rfl⟩
    rw [hke, List.map_map] at this
    obtain ⟨p, hp, hpe⟩ := List.mem_map.1 this
    refine ⟨(.string p.1, .nil), ?_⟩
    · unfold WideElems.rd blindR
      rw [← hpe]
      show (keyOf Tryz.prog 9 (S p.1)).bind _ = _
      rw [hkey _ (hk p hp)]
      rfl
  have hseq := AnyZ.keys_gives (P := Tryz.prog) (ρ := keys242_ren) { keys242 with } Fence.wide 2 trivial rfl (by omega) b mb kvs.length _ w (rel_lt hrel hb) (by
    simp [World.cell?, hrel _ _ hb]) hown
  have hS := AnyZ.sorted_in sorted241 Fence.wide 5 trivial trivial trivial trivial rfl (by omega) (sorts241 _) (enters_of Tryz.func236 (by kernel_rfl) rfl) 310 #[.pointer (some ⟨b, 0, none⟩)] trivial (enters_of Tryz.func310 (by kernel_rfl) rfl) _ _ (by rw [size_sorted, hsz]; unfold maxLen; omega) (by rw [size_sorted, hsz]; omega) w hseq
  refine Calls.mono (callsIn_wide.1 hS) ?_
  rintro e w' ⟨v, ss, rfl, hperm, hrow, hnil, hbel⟩
  obtain ⟨h', r1, r2, r3, r4, sl, rfl, g⟩ := row_known hrel hbel hrow hw
  refine ⟨_, h', rfl, r1, r2, rfl, r3, r4, sl, ss, rfl, hperm.trans ?_, g⟩
  have := keys_perm (kt := 9) (es := es) (ks := kvs.map (·.1)) (kv := fun x => S x) strOf keyBs hke (fun k hkm => by
    obtain ⟨p, hp, rfl⟩ := List.mem_map.1 hkm
    unfold rg WideElems.rd blindR
    dsimp only
    rw [hkey _ (hk p hp)]
    rfl)
  exact this

set_option maxHeartbeats 1000000 in
theorem sortedI_ok {h : Heap} {b mb : Nat} {vt : Ty} {kvs : List (Int × vt.T)} (hb : h b = some (.cells ⟨[.map (some mb)]⟩ 140 (0, 0))) (hm : mapIs h (some mb) (.int .i64) vt kvs) (hl : kvs.length ≤ 1000000000) (hk : ∀ p ∈ kvs, -9223372036854775808 ≤ p.1 ∧ p.1 ≤ 9223372036854775807) :
    Spec Tryz.prog 69 [.func (.func 163) #[] #[.pointer (some ⟨b, 0, none⟩)]] h (fun v h' => h.le h' ∧ ∃ (sl : Sl) (ss : List Int), v = .slice sl.a sl.len sl.cap ∧ ss.Perm (kvs.map (·.1)) ∧ Grow h h' sl 1 ((ss.mergeSort (fun x y => decide (x ≤ y))).map fun n => Value.int .i64 n)) := by
  intro hw hok w hrel
  obtain ⟨es, clock, hmb, he⟩ := hm
  obtain ⟨hke, hsz⟩ := mapIs_keys (h := h) (m := mb) (kt := .int .i64) he
  have hkey : ∀ x : Int, (-9223372036854775808 ≤ x ∧ x ≤ 9223372036854775807) → keyOf Tryz.prog 3 (.int .i64 x) = some (.int .i64 x) := fun x hx => by
    refine keyOf_int_mk (P := Tryz.prog) (k := 3) Tryz.underlying3 ?_
    simp [Lit.wf, IntKind.min, IntKind.max, IntKind.bits, IntKind.signed]
    omega
  have hown : w.ownsMap Tryz.prog 3 blindR mb kvs.length (.map ((es.toList.map (rg (H := Unit) Tryz.prog 3 blindR)).foldr DataW.insert [])) := by
    refine ⟨es, clock, hrel _ _ hmb, ⟨by rw [hsz]; unfold maxLen; omega, hw _ _ _ hmb, fun x hx => ?_⟩, by rw [hsz]; exact Nat.le_refl _, rfl⟩
    have : x.key ∈ es.toList.map (·.key) := List.mem_map.2 ⟨x, hx, rfl⟩
    rw [hke, List.map_map] at this
    obtain ⟨p, hp, hpe⟩ := List.mem_map.1 this
    refine ⟨(.int .i64 p.1, .nil), ?_⟩
    · unfold WideElems.rd blindR
      rw [← hpe]
      show (keyOf Tryz.prog 3 (.int .i64 p.1)).bind _ = _
      rw [hkey _ (hk p hp)]
      rfl
  have hseq := AnyZI.keys_gives (P := Tryz.prog) (ρ := keys70_ren) { keys70 with } Fence.wide 2 trivial rfl (by omega) b mb kvs.length _ w (rel_lt hrel hb) (by
    simp [World.cell?, hrel _ _ hb]) hown
  have hS := AnyZI.sorted_in sorted69 Fence.wide 5 trivial trivial trivial trivial rfl (by omega) (sorts69 _) (enters_of Tryz.func162 (by kernel_rfl) rfl) 163 #[.pointer (some ⟨b, 0, none⟩)] trivial (enters_of Tryz.func163 (by kernel_rfl) rfl) _ _ (by rw [size_sorted, hsz]; unfold maxLen; omega) (by rw [size_sorted, hsz]; omega) w hseq
  refine Calls.mono (callsIn_wide.1 hS) ?_
  rintro e w' ⟨v, ss, rfl, hperm, hrow, hnil, hbel⟩
  obtain ⟨h', r1, r2, r3, r4, sl, rfl, g⟩ := row_known hrel hbel hrow hw
  refine ⟨_, h', rfl, r1, r2, rfl, r3, r4, sl, ss, rfl, hperm.trans ?_, g⟩
  have := keys_perm (kt := 3) (es := es) (ks := kvs.map (·.1)) (kv := fun x => Value.int .i64 x) intOf keyInt hke (fun k hkm => by
    obtain ⟨p, hp, rfl⟩ := List.mem_map.1 hkm
    unfold rg WideElems.rd blindR
    dsimp only
    rw [hkey _ (hk p hp)]
    rfl)
  exact this
end Go.Vw
