/-
  Conditions of functions, printed by a tool of mine (vcs.py). Versions: what stays where they turn, New, and a change. Versions: New, a change, and Commit. Versions: Commit.
-/
import Derived.Test.YtomcnpeeelhpcaaGreatDoorVwBase0
import Derived.Test.YtomcnpeeelhpcaaGreatDoorPaj
import Derived.Test.YtomcnpeeelhpcaaGreatDoorPah
namespace Go.Vw
open Go Go.Proofs

/- pharos/vers.New -/
def an12 : An := .leaf
def VC12 (h : Heap) (Q : Value → Heap → Prop) : Prop :=
 (Spec Tryz.prog 66 [] h (fun v h1 =>
 (∃ p : (Option Addr),
 ((v = (Value.pointer p)) ∧
 (∀ r : Nat,
  (((h1 r) = Option.none) →
  (Spec Tryz.prog 17 [] (Heap.set h1 r (Obj.map ⟨[]⟩ 0)) (fun v1 h2 =>
  (∃ p1 : (Option Addr),
  ((v1 = (Value.pointer p1)) ∧
   (∀ b : Nat,
   (((h2 b) = Option.none) →
   (Q (Value.pointer (Option.some (Addr.mk b 0 Option.none))) (Heap.set h2 b (Obj.cells ⟨[(Value.pointer p), (Value.map (Option.some r)), (Value.pointer p1), (Value.int IntKind.i64 (-1 : Int)), (Value.int IntKind.i64 (0 : Int))]⟩ 142 (Prod.mk 0 0))))))))))))))))
theorem vc12 (h : Heap) (Q : Value → Heap → Prop) : evF Tryz.prog τ tok 12 an12 [] h Q = VC12  h Q := by kernel_rfl
theorem ok12 {h : Heap} {Q : Value → Heap → Prop} (hv : VC12  h Q) : Spec Tryz.prog 12 [] h Q := evF_sound (P := Tryz.prog) (τ := τ) (ok := tok) (an := an12) (fun _ => drawn mixed) (by rw [vc12]; exact hv)

/- pharos/vers.changed -/
def an67 : An := .leaf
def VC67 (t : Option Addr) (x_ : GApiItem) (h : Heap) (Q : Value → Heap → Prop) : Prop :=
 ((((!((x_).Value == [])) = Bool.true) →
 (Spec Tryz.prog 73 [(Value.pointer t), (S (x_).Key), (S (x_).Value)] h (fun v h1 =>
 (∃ p : (Option Addr),
  (∃ n : Int,
  ((v = (Value.tuple ⟨[(Value.pointer p), (Value.int IntKind.i64 n)]⟩)) ∧
  (Q (Value.tuple ⟨[(Value.pointer p), (Value.int IntKind.i64 n)]⟩) h1))))))) ∧
 (((!((x_).Value == [])) = Bool.false) →
 (Spec Tryz.prog 72 [(Value.pointer t), (S (x_).Key)] h (fun v1 h2 =>
 (∃ p1 : (Option Addr),
  (∃ n1 : Int,
  ((v1 = (Value.tuple ⟨[(Value.pointer p1), (Value.int IntKind.i64 n1)]⟩)) ∧
  ((((n1 == (5 : Int)) = Bool.true) →
   (Q (Value.tuple ⟨[(Value.pointer t), (Value.int IntKind.i64 (0 : Int))]⟩) h2)) ∧
  (((n1 == (5 : Int)) = Bool.false) →
   (Q (Value.tuple ⟨[(Value.pointer p1), (Value.int IntKind.i64 n1)]⟩) h2))))))))))
theorem vc67 (t : Option Addr) (x_ : GApiItem) (h : Heap) (Q : Value → Heap → Prop) : evF Tryz.prog τ tok 67 an67 [.pointer t, .agg ⟨cGApiItem x_⟩] h Q = VC67 t x_ h Q := by kernel_rfl
theorem ok67 {t : Option Addr} {x_ : GApiItem} {h : Heap} {Q : Value → Heap → Prop} (hv : VC67 t x_ h Q) : Spec Tryz.prog 67 [.pointer t, .agg ⟨cGApiItem x_⟩] h Q := evF_sound (P := Tryz.prog) (τ := τ) (ok := tok) (an := an67) (fun _ => drawn mixed) (by rw [vc67]; exact hv)

/- (*pharos/vers.Vers).Commit -/
def an13 : An := (.nd none [] [] .leaf (.nd none [] [] (.nd none [] [] (.nd (some [.slot 16 .bool]) [] [] .leaf .leaf) .leaf) (.nd none [] [] (.nd none [] [] (.nd (some [.slot 30 .bool]) [] [] .leaf .leaf) .leaf) (.nd none [] [] .leaf (.nd none [] [] (.nd none [] [] .leaf (.nd none [] [] (.nd none [.slot 8 .ptr, .slot 37 (.int .i64)] [] .leaf .leaf) .leaf)) .leaf)))))
def VC13 (v : Option Addr) (height : Int) (changes : Sl) (h : Heap) (Q : Value → Heap → Prop) : Prop :=
 (∀ J : (Bool → (Heap → Prop)),
 (((∀ b : Bool,
 (∀ h1 : Heap,
  (((((b = Bool.true) →
  (Q (Value.tuple ⟨[(S []), (Value.int IntKind.i64 (1 : Int))]⟩) h1)) ∧
  ((b = Bool.false) →
  (∀ J1 : (Bool → (Heap → Prop)),
   (((∀ b1 : Bool,
   (∀ h2 : Heap,
   (((((b1 = Bool.true) →
    (Q (Value.tuple ⟨[(S []), (Value.int IntKind.i64 (120 : Int))]⟩) h2)) ∧
    ((b1 = Bool.false) →
    (∃ ad : Addr,
    ((v = (Option.some ad)) ∧
     (∃ p : (Option Addr),
     (((rd h2 (Addr.mk (ad).block ((ad).off + 2) Option.none)) = (Option.some (Value.pointer p))) ∧
     (∃ k : ((Option Addr) → (Int → (Heap → (Prod Prop Nat)))),
     (((k p (0 : Int) h2)).fst ∧
      (∀ p1 : (Option Addr),
      (∀ n : Int,
      (∀ h3 : Heap,
      (((k p1 n h3)).fst →
       ((((decide (n < (((changes).len : Nat) : Int))) = Bool.true) →
       ((((0 : Int) ≤ n) ∧
        (n < (((changes).len : Nat) : Int))) ∧
       (∃ ad1 : Addr,
        (((changes).a = (Option.some ad1)) ∧
        (∃ ga : GApiItem,
        (((rdn h3 (Addr.add ad1 ((Int.toNat n) * (2 : Nat))) (2 : Nat)) = (Option.some [(S (ga).Key), (S (ga).Value)])) ∧
        ((((List.length [(S (ga).Key), (S (ga).Value)]) = (2 : Nat)) ∧
         ((List.length [(S (ga).Key), (S (ga).Value)]) = 2)) ∧
         (((List.length [(S (ga).Key), (S (ga).Value)]) = (2 : Nat)) ∧
         (Spec Tryz.prog 67 [(Value.pointer p1), (Value.agg ⟨[(S (ga).Key), (S (ga).Value)]⟩)] h3 (fun v1 h4 =>
         (∃ p2 : (Option Addr),
         (∃ n1 : Int,
         ((v1 = (Value.tuple ⟨[(Value.pointer p2), (Value.int IntKind.i64 n1)]⟩)) ∧
         ((((n1 != (0 : Int)) = Bool.true) →
         (Q (Value.tuple ⟨[(S []), (Value.int IntKind.i64 n1)]⟩) h4)) ∧
         (((n1 != (0 : Int)) = Bool.false) →
         (((k p2 (IntKind.wrap IntKind.i64 (n + (1 : Int))) h4)).fst ∧
         (((k p2 (IntKind.wrap IntKind.i64 (n + (1 : Int))) h4)).snd < ((k p1 n h3)).snd))))))))))))))))) ∧
       (((decide (n < (((changes).len : Nat) : Int))) = Bool.false) →
       (∃ ad2 : Addr,
       ((v = (Option.some ad2)) ∧
        (∃ h5 : Heap,
        (((wr h3 (Addr.mk (ad2).block ((ad2).off + 2) Option.none) [(Value.pointer p1)]) = (Option.some h5)) ∧
        (∃ ad3 : Addr,
        ((v = (Option.some ad3)) ∧
         (∃ h6 : Heap,
         (((wr h5 (Addr.mk (ad3).block ((ad3).off + 3) Option.none) [(Value.int IntKind.i64 height)]) = (Option.some h6)) ∧
         (∃ ad4 : Addr,
         ((v = (Option.some ad4)) ∧
         (∃ p3 : (Option Addr),
         (((rd h6 (Addr.add ad4 0)) = (Option.some (Value.pointer p3))) ∧
         (Spec Tryz.prog 68 [(Value.pointer p1), (Value.pointer p3)] h6 (fun v2 h7 =>
         (∃ l : (List UInt8),
         ((v2 = (S l)) ∧
         (∃ ad5 : Addr,
         ((v = (Option.some ad5)) ∧
         (∃ p4 : (Option Nat),
         (((rd h7 (Addr.mk (ad5).block ((ad5).off + 1) Option.none)) = (Option.some (Value.map p4))) ∧
         (∀ b2 : Nat,
         (∀ cap : Nat,
         (∀ l1 : (List Value),
         (((h7 b2) = Option.none) →
         (((List.length l) ≤ cap) →
         (((List.length l1) = (cap - (List.length l))) →
         (((∀ va : Value,
         ((Membership.mem l1 va) →
         (va = (Value.int IntKind.u8 (0 : Int)))))) →
         (∃ m : Nat,
         (∃ l2 : (List (Prod Int Sl)),
         ((p4 = (Option.some m)) ∧
         ((mapIs (Heap.set h7 b2 (Obj.cells ⟨((List.map byteV l) ++ l1)⟩ 5 (Prod.mk ((List.length l) + (List.length l1)) (((List.length l) + (List.length l1)) + 1)))) p4 (Ty.int IntKind.i64) Ty.slice l2) ∧
         (∃ sl : Sl,
         (((Value.slice (Option.some (Addr.mk b2 0 Option.none)) (List.length l) cap) = (Value.slice (sl).a (sl).len (sl).cap)) ∧
         (∀ x : (Array MapEntry),
         (∀ clock : Nat,
         (((List.map (fun (ma : MapEntry) => (Prod.mk (ma).key (ma).val)) (x).toList) = (List.map (fun (x1 : (Prod (Ty.T (Ty.int IntKind.i64)) (Ty.T ((Prod.mk (144 : Nat) Ty.slice)).snd))) => (Prod.mk (Value.int IntKind.i64 (x1).fst) (Value.slice ((x1).snd).a ((x1).snd).len ((x1).snd).cap))) (kPut (Ty.int IntKind.i64) l2 height sl))) →
         (Q (Value.tuple ⟨[(S l), (Value.int IntKind.i64 (0 : Int))]⟩) (Heap.set (Heap.set h7 b2 (Obj.cells ⟨((List.map byteV l) ++ l1)⟩ 5 (Prod.mk ((List.length l) + (List.length l1)) (((List.length l) + (List.length l1)) + 1)))) m (Obj.map x clock)))))))))))))))))))))))))))))))))))))))))))))))))))))) →
    (J1 b1 h2))))) →
   (∃ ad6 : Addr,
   ((v = (Option.some ad6)) ∧
   (∃ n2 : Int,
    (((rd h1 (Addr.mk (ad6).block ((ad6).off + 3) Option.none)) = (Option.some (Value.int IntKind.i64 n2))) ∧
    ((((decide (height ≤ n2)) = Bool.false) →
    (∃ ad7 : Addr,
     ((v = (Option.some ad7)) ∧
     (∃ n3 : Int,
     (((rd h1 (Addr.mk (ad7).block ((ad7).off + 4) Option.none)) = (Option.some (Value.int IntKind.i64 n3))) ∧
     (J1 (decide (height < n3)) h1)))))) ∧
    (((decide (height ≤ n2)) = Bool.true) →
    (J1 Bool.true h1)))))))))))) →
  (J b h1))))) →
 ((((decide (height < (0 : Int))) = Bool.false) →
  (J (decide (height > (1048576 : Int))) h)) ∧
 (((decide (height < (0 : Int))) = Bool.true) →
  (J Bool.true h)))))
theorem vc13 (v : Option Addr) (height : Int) (changes : Sl) (h : Heap) (Q : Value → Heap → Prop) : evF Tryz.prog τ tok 13 an13 [.pointer v, .int .i64 height, .slice changes.a changes.len changes.cap] h Q = VC13 v height changes h Q := by kernel_rfl
theorem ok13 {v : Option Addr} {height : Int} {changes : Sl} {h : Heap} {Q : Value → Heap → Prop} (hv : VC13 v height changes h Q) : Spec Tryz.prog 13 [.pointer v, .int .i64 height, .slice changes.a changes.len changes.cap] h Q := evF_sound (P := Tryz.prog) (τ := τ) (ok := tok) (an := an13) (fun _ => drawn mixed) (by rw [vc13]; exact hv)

/- (*pharos/vers.Vers).Root -/
def an16 : An := .leaf
def VC16 (v : Option Addr) (height : Int) (h : Heap) (Q : Value → Heap → Prop) : Prop :=
 (∃ ad : Addr,
 ((v = (Option.some ad)) ∧
 (∃ p : (Option Nat),
 (((rd h (Addr.mk (ad).block ((ad).off + 1) Option.none)) = (Option.some (Value.map p))) ∧
  (∃ l : (List (Prod Int Sl)),
  ((mapIs h p (Ty.int IntKind.i64) Ty.slice l) ∧
  ((∀ sl : Sl,
   (((kFind (Ty.int IntKind.i64) l height) = (Option.some sl)) →
   (((Bool.true = Bool.true) →
   (Option.elim (sl).a (
    (Q (Value.tuple ⟨[(S []), (Value.int IntKind.i64 (0 : Int))]⟩) h))
    (fun (ad1 : Addr) =>
    (∃ l1 : (List UInt8),
    (((rdn h ad1 (sl).len) = (Option.some (List.map byteV l1))) ∧
    (Q (Value.tuple ⟨[(S l1), (Value.int IntKind.i64 (0 : Int))]⟩) h)))))) ∧
   ((Bool.true = Bool.false) →
   (∃ ad2 : Addr,
    ((v = (Option.some ad2)) ∧
    (∃ n : Int,
    (((rd h (Addr.mk (ad2).block ((ad2).off + 4) Option.none)) = (Option.some (Value.int IntKind.i64 n))) ∧
    ((((decide (height < n)) = Bool.true) →
     (Q (Value.tuple ⟨[(S []), (Value.int IntKind.i64 (120 : Int))]⟩) h)) ∧
     (((decide (height < n)) = Bool.false) →
     (Q (Value.tuple ⟨[(S []), (Value.int IntKind.i64 (5 : Int))]⟩) h))))))))))) ∧
  (((kFind (Ty.int IntKind.i64) l height) = Option.none) →
   (((Bool.false = Bool.true) →
   (Q (Value.tuple ⟨[(S []), (Value.int IntKind.i64 (0 : Int))]⟩) h)) ∧
   ((Bool.false = Bool.false) →
   (∃ ad3 : Addr,
   ((v = (Option.some ad3)) ∧
    (∃ n1 : Int,
    (((rd h (Addr.mk (ad3).block ((ad3).off + 4) Option.none)) = (Option.some (Value.int IntKind.i64 n1))) ∧
    ((((decide (height < n1)) = Bool.true) →
     (Q (Value.tuple ⟨[(S []), (Value.int IntKind.i64 (120 : Int))]⟩) h)) ∧
    (((decide (height < n1)) = Bool.false) →
     (Q (Value.tuple ⟨[(S []), (Value.int IntKind.i64 (5 : Int))]⟩) h)))))))))))))))))
theorem vc16 (v : Option Addr) (height : Int) (h : Heap) (Q : Value → Heap → Prop) : evF Tryz.prog τ tok 16 an16 [.pointer v, .int .i64 height] h Q = VC16 v height h Q := by kernel_rfl
theorem ok16 {v : Option Addr} {height : Int} {h : Heap} {Q : Value → Heap → Prop} (hv : VC16 v height h Q) : Spec Tryz.prog 16 [.pointer v, .int .i64 height] h Q := evF_sound (P := Tryz.prog) (τ := τ) (ok := tok) (an := an16) (fun _ => drawn mixed) (by rw [vc16]; exact hv)

/- (*pharos/vers.Vers).At -/
def an20 : An := .leaf
def VC20 (v : Option Addr) (height : Int) (h : Heap) (Q : Value → Heap → Prop) : Prop :=
 (Spec Tryz.prog 16 [(Value.pointer v), (Value.int IntKind.i64 height)] h (fun v1 h1 =>
 (∃ l : (List UInt8),
 (∃ n : Int,
 ((v1 = (Value.tuple ⟨[(S l), (Value.int IntKind.i64 n)]⟩)) ∧
  ((((n != (0 : Int)) = Bool.true) →
  (Q (Value.tuple ⟨[(Value.pointer Option.none), (Value.int IntKind.i64 n)]⟩) h1)) ∧
  (((n != (0 : Int)) = Bool.false) →
  (∃ ad : Addr,
  ((v = (Option.some ad)) ∧
   (∃ p : (Option Addr),
   (((rd h1 (Addr.add ad 0)) = (Option.some (Value.pointer p))) ∧
   (Spec Tryz.prog 76 [(Value.pointer p), (S l)] h1 (fun v2 h2 =>
   (∃ p1 : (Option Addr),
    (∃ n1 : Int,
    ((v2 = (Value.tuple ⟨[(Value.pointer p1), (Value.int IntKind.i64 n1)]⟩)) ∧
    (Q (Value.tuple ⟨[(Value.pointer p1), (Value.int IntKind.i64 n1)]⟩) h2)))))))))))))))))
theorem vc20 (v : Option Addr) (height : Int) (h : Heap) (Q : Value → Heap → Prop) : evF Tryz.prog τ tok 20 an20 [.pointer v, .int .i64 height] h Q = VC20 v height h Q := by kernel_rfl
theorem ok20 {v : Option Addr} {height : Int} {h : Heap} {Q : Value → Heap → Prop} (hv : VC20 v height h Q) : Spec Tryz.prog 20 [.pointer v, .int .i64 height] h Q := evF_sound (P := Tryz.prog) (τ := τ) (ok := tok) (an := an20) (fun _ => drawn mixed) (by rw [vc20]; exact hv)

/- (*pharos/vers.Vers).Heights -/
def an14 : An := .leaf
def VC14 (v : Option Addr) (h : Heap) (Q : Value → Heap → Prop) : Prop :=
 (∃ ad : Addr,
 ((v = (Option.some ad)) ∧
 (∃ p : (Option Nat),
 (((rd h (Addr.mk (ad).block ((ad).off + 1) Option.none)) = (Option.some (Value.map p))) ∧
  (Spec Tryz.prog 70 [(Value.map p)] h (fun v1 h1 =>
  (∃ fn : FnV,
  ((v1 = (Value.func (fn).fn (fn).first (fn).captured)) ∧
  (Spec Tryz.prog 69 [(Value.func (fn).fn (fn).first (fn).captured)] h1 (fun v2 h2 =>
   (∃ sl : Sl,
   ((v2 = (Value.slice (sl).a (sl).len (sl).cap)) ∧
   (Q (Value.slice (sl).a (sl).len (sl).cap) h2)))))))))))))
theorem vc14 (v : Option Addr) (h : Heap) (Q : Value → Heap → Prop) : evF Tryz.prog τ tok 14 an14 [.pointer v] h Q = VC14 v h Q := by kernel_rfl
theorem ok14 {v : Option Addr} {h : Heap} {Q : Value → Heap → Prop} (hv : VC14 v h Q) : Spec Tryz.prog 14 [.pointer v] h Q := evF_sound (P := Tryz.prog) (τ := τ) (ok := tok) (an := an14) (fun _ => drawn mixed) (by rw [vc14]; exact hv)

/- (*pharos/vers.Vers).Prune -/
def an15 : An := (.nd none [] [] .leaf (.nd none [] [] .leaf (.nd none [] [] .leaf (.nd none [] [] .leaf (.nd none [] [] (.nd none [] [] .leaf (.nd none [] [] (.nd none [.slot 5 (.int .i64), .slot 6 .slice, .slot 21 (.int .i64)] [] (.nd none [] [] .leaf (.nd none [] [] .leaf (.nd none [] [] (.nd (some [.slot 5 (.int .i64), .slot 6 .slice]) [] [] (.nd none [] [] .leaf (.nd none [] [] (.nd none [] [] (.nd (some [.slot 35 .bool]) [] [] .leaf .leaf) .leaf) .leaf)) .leaf) .leaf))) .leaf) .leaf)) .leaf)))))
def VC15 (v : Option Addr) (below : Int) (h : Heap) (Q : Value → Heap → Prop) : Prop :=
 (∃ ad : Addr,
 ((v = (Option.some ad)) ∧
 (∃ n : Int,
 (((rd h (Addr.mk (ad).block ((ad).off + 4) Option.none)) = (Option.some (Value.int IntKind.i64 n))) ∧
  (∃ ad1 : Addr,
  ((v = (Option.some ad1)) ∧
  (∃ h1 : Heap,
  (((wr h (Addr.mk (ad1).block ((ad1).off + 4) Option.none) [(Value.int IntKind.i64 (if (below > n) then below else n))]) = (Option.some h1)) ∧
   (Spec Tryz.prog 14 [(Value.pointer v)] h1 (fun v1 h2 =>
   (∃ sl : Sl,
   ((v1 = (Value.slice (sl).a (sl).len (sl).cap)) ∧
   (∃ k : (Int → (Sl → (Int → (Heap → (Prod Prop Nat))))),
    (((k (0 : Int) (Sl.mk Option.none 0 0) (0 : Int) h2)).fst ∧
    (∀ n1 : Int,
    (∀ sl1 : Sl,
    (∀ n2 : Int,
     (∀ h3 : Heap,
     (((k n1 sl1 n2 h3)).fst →
     ((((decide (n2 < (((sl).len : Nat) : Int))) = Bool.true) →
      (∀ J : (Int → (Sl → (Heap → Prop))),
      (((∀ n3 : Int,
      (∀ sl2 : Sl,
       (∀ h4 : Heap,
       (((((k n3 (Sl.mk (sl2).a (sl2).len (sl2).cap) (IntKind.wrap IntKind.i64 (n2 + (1 : Int))) h4)).fst ∧
       (((k n3 (Sl.mk (sl2).a (sl2).len (sl2).cap) (IntKind.wrap IntKind.i64 (n2 + (1 : Int))) h4)).snd < ((k n1 sl1 n2 h3)).snd))) →
       (J n3 sl2 h4)))))) →
      ((((0 : Int) ≤ n2) ∧
       (n2 < (((sl).len : Nat) : Int))) ∧
      (∃ ad2 : Addr,
       (((sl).a = (Option.some ad2)) ∧
       (∃ n4 : Int,
       (((rd h3 (Addr.add ad2 ((Int.toNat n2) * (1 : Nat)))) = (Option.some (Value.int IntKind.i64 n4))) ∧
       (∀ J1 : (Bool → (Heap → Prop)),
        (((∀ b : Bool,
        (∀ h5 : Heap,
        (((((b = Bool.true) →
         (∃ ad3 : Addr,
         ((v = (Option.some ad3)) ∧
         (∃ p : (Option Nat),
         (((rd h5 (Addr.mk (ad3).block ((ad3).off + 1) Option.none)) = (Option.some (Value.map p))) ∧
         (∃ m : Nat,
         (∃ l : (List (Prod Int Sl)),
         ((p = (Option.some m)) ∧
         ((mapIs h5 p (Ty.int IntKind.i64) Ty.slice l) ∧
         (∀ x : (Array MapEntry),
         (∀ clock : Nat,
         (((List.map (fun (ma : MapEntry) => (Prod.mk (ma).key (ma).val)) (x).toList) = (List.map (fun (x1 : (Prod (Ty.T (Ty.int IntKind.i64)) (Ty.T ((Prod.mk (144 : Nat) Ty.slice)).snd))) => (Prod.mk (Value.int IntKind.i64 (x1).fst) (Value.slice ((x1).snd).a ((x1).snd).len ((x1).snd).cap))) (kDel (Ty.int IntKind.i64) l n4))) →
         (J (IntKind.wrap IntKind.i64 (n1 + (1 : Int))) (Sl.mk (sl1).a (sl1).len (sl1).cap) (Heap.set h5 m (Obj.map x clock))))))))))))))) ∧
         ((b = Bool.false) →
         (∃ ad4 : Addr,
         ((v = (Option.some ad4)) ∧
         (∃ p1 : (Option Nat),
         (((rd h5 (Addr.mk (ad4).block ((ad4).off + 1) Option.none)) = (Option.some (Value.map p1))) ∧
         (∃ l1 : (List (Prod Int Sl)),
         ((mapIs h5 p1 (Ty.int IntKind.i64) Ty.slice l1) ∧
         ((∀ sl3 : Sl,
         (((kFind (Ty.int IntKind.i64) l1 n4) = (Option.some sl3)) →
         (Option.elim (sl3).a (
         ((1 = (1 * (1 : Nat))) ∧
         (∃ l2 : (List Value),
         (((rowOf h5 (sl1).a ((sl1).len * (1 : Nat))) = (Option.some l2)) ∧
         (((((sl1).len + 1) * (16 : Nat)) ≤ 140737488355328) ∧
         ((((sl1).len + 1) ≤ 9223372036854775807) ∧
         (((((sl1).len + 1) ≤ (sl1).cap) →
         (∀ ad6 : Addr,
         (((sl1).a = (Option.some ad6)) →
         ((Option.isSome (wr h5 (Addr.add ad6 ((sl1).len * (1 : Nat))) [(S [])])) = Bool.true)))) ∧
         ((((sl1).a = Option.none) →
         ((((sl1).len + 1) ≤ (sl1).cap) →
         ([(S [])] = []))) ∧
         (∀ sl4 : Sl,
         (∀ h6 : Heap,
         ((AppRes h5 (Sl.mk (sl1).a (sl1).len (sl1).cap) (1 : Nat) 9 l2 [(S [])] 1 sl4 h6) →
         (J n1 (Sl.mk (sl4).a (sl4).len (sl4).cap) h6))))))))))))
         (fun (ad5 : Addr) =>
         (∃ l3 : (List UInt8),
         (((rdn h5 ad5 (sl3).len) = (Option.some (List.map byteV l3))) ∧
         (((List.length [(S l3)]) = (1 * (1 : Nat))) ∧
         (∃ l4 : (List Value),
         (((rowOf h5 (sl1).a ((sl1).len * (1 : Nat))) = (Option.some l4)) ∧
         (((((sl1).len + 1) * (16 : Nat)) ≤ 140737488355328) ∧
         ((((sl1).len + 1) ≤ 9223372036854775807) ∧
         (((((sl1).len + 1) ≤ (sl1).cap) →
         (∀ ad7 : Addr,
         (((sl1).a = (Option.some ad7)) →
         ((Option.isSome (wr h5 (Addr.add ad7 ((sl1).len * (1 : Nat))) [(S l3)])) = Bool.true)))) ∧
         ((((sl1).a = Option.none) →
         ((((sl1).len + 1) ≤ (sl1).cap) →
         ([(S l3)] = []))) ∧
         (∀ sl5 : Sl,
         (∀ h7 : Heap,
         ((AppRes h5 (Sl.mk (sl1).a (sl1).len (sl1).cap) (1 : Nat) 9 l4 [(S l3)] 1 sl5 h7) →
         (J n1 (Sl.mk (sl5).a (sl5).len (sl5).cap) h7))))))))))))))))) ∧
         (((kFind (Ty.int IntKind.i64) l1 n4) = Option.none) →
         ((1 = (1 * (1 : Nat))) ∧
         (∃ l5 : (List Value),
         (((rowOf h5 (sl1).a ((sl1).len * (1 : Nat))) = (Option.some l5)) ∧
         (((((sl1).len + 1) * (16 : Nat)) ≤ 140737488355328) ∧
         ((((sl1).len + 1) ≤ 9223372036854775807) ∧
         (((((sl1).len + 1) ≤ (sl1).cap) →
         (∀ ad8 : Addr,
         (((sl1).a = (Option.some ad8)) →
         ((Option.isSome (wr h5 (Addr.add ad8 ((sl1).len * (1 : Nat))) [(S [])])) = Bool.true)))) ∧
         ((((sl1).a = Option.none) →
         ((((sl1).len + 1) ≤ (sl1).cap) →
         ([(S [])] = []))) ∧
         (∀ sl6 : Sl,
         (∀ h8 : Heap,
         ((AppRes h5 (Sl.mk (sl1).a (sl1).len (sl1).cap) (1 : Nat) 9 l5 [(S [])] 1 sl6 h8) →
         (J n1 (Sl.mk (sl6).a (sl6).len (sl6).cap) h8)))))))))))))))))))))) →
         (J1 b h5))))) →
        ((((decide (n4 < below)) = Bool.true) →
        (∃ ad9 : Addr,
         ((v = (Option.some ad9)) ∧
         (∃ n5 : Int,
         (((rd h3 (Addr.mk (ad9).block ((ad9).off + 3) Option.none)) = (Option.some (Value.int IntKind.i64 n5))) ∧
         (J1 (n4 != n5) h3)))))) ∧
        (((decide (n4 < below)) = Bool.false) →
        (J1 Bool.false h3))))))))))))) ∧
     (((decide (n2 < (((sl).len : Nat) : Int))) = Bool.false) →
      (∃ ad10 : Addr,
      ((v = (Option.some ad10)) ∧
      (∃ p2 : (Option Addr),
      (((rd h3 (Addr.add ad10 0)) = (Option.some (Value.pointer p2))) ∧
       (Spec Tryz.prog 71 [(Value.pointer p2), (Value.slice (sl1).a (sl1).len (sl1).cap)] h3 (fun v2 h9 =>
       (∃ n6 : Int,
       ((v2 = (Value.int IntKind.i64 n6)) ∧
       (Q (Value.int IntKind.i64 n1) h9))))))))))))))))))))))))))))))
theorem vc15 (v : Option Addr) (below : Int) (h : Heap) (Q : Value → Heap → Prop) : evF Tryz.prog τ tok 15 an15 [.pointer v, .int .i64 below] h Q = VC15 v below h Q := by kernel_rfl
theorem ok15 {v : Option Addr} {below : Int} {h : Heap} {Q : Value → Heap → Prop} (hv : VC15 v below h Q) : Spec Tryz.prog 15 [.pointer v, .int .i64 below] h Q := evF_sound (P := Tryz.prog) (τ := τ) (ok := tok) (an := an15) (fun _ => drawn mixed) (by rw [vc15]; exact hv)

/- (*pharos/vers.Vers).Texts -/
def an65 : An := .leaf
def VC65 (v : Option Addr) (h : Heap) (Q : Value → Heap → Prop) : Prop :=
 (∃ ad : Addr,
 ((v = (Option.some ad)) ∧
 (∃ p : (Option Addr),
 (((rd h (Addr.add ad 0)) = (Option.some (Value.pointer p))) ∧
  (Spec Tryz.prog 159 [(Value.pointer p)] h (fun v1 h1 =>
  (∃ sl : Sl,
  ((v1 = (Value.slice (sl).a (sl).len (sl).cap)) ∧
  (Q (Value.int IntKind.i64 (((sl).len : Nat) : Int)) h1)))))))))
theorem vc65 (v : Option Addr) (h : Heap) (Q : Value → Heap → Prop) : evF Tryz.prog τ tok 65 an65 [.pointer v] h Q = VC65 v h Q := by kernel_rfl
theorem ok65 {v : Option Addr} {h : Heap} {Q : Value → Heap → Prop} (hv : VC65 v h Q) : Spec Tryz.prog 65 [.pointer v] h Q := evF_sound (P := Tryz.prog) (τ := τ) (ok := tok) (an := an65) (fun _ => drawn mixed) (by rw [vc65]; exact hv)

/- pharos/pharoslaw12.long -/
def an11 : An := (.nd none [] [] .leaf (.nd none [] [] .leaf (.nd none [] [] (.nd none [] [] .leaf (.nd none [] [] (.nd none [.slot 3 (.int .i64)] [] (.nd none [] [] .leaf (.nd none [] [] (.nd none [] [] (.nd none [] [] .leaf (.nd none [] [] .leaf (.nd none [] [] (.nd none [.slot 4 (.int .i64)] [] (.nd none [] [] .leaf (.nd none [] [] (.nd none [] [] (.nd none [] [] (.nd (some [.slot 54 .bool]) [] [] .leaf .leaf) .leaf) .leaf) .leaf)) .leaf) .leaf))) .leaf) .leaf)) .leaf) .leaf)) .leaf)))
def VC11 (l : Sl) (h : Heap) (Q : Value → Heap → Prop) : Prop :=
 ((((decide ((((l).len : Nat) : Int) > (10 : Int))) = Bool.true) →
 (Q (Value.bool Bool.true) h)) ∧
 (((decide ((((l).len : Nat) : Int) > (10 : Int))) = Bool.false) →
 (∃ k : (Int → (Heap → (Prod Prop Nat))),
 (((k (0 : Int) h)).fst ∧
  (∀ n : Int,
  (∀ h1 : Heap,
  (((k n h1)).fst →
  ((((decide (n < (((l).len : Nat) : Int))) = Bool.true) →
   ((((0 : Int) ≤ n) ∧
   (n < (((l).len : Nat) : Int))) ∧
   (∃ ad : Addr,
   (((l).a = (Option.some ad)) ∧
    (∃ sl : Sl,
    (((rd h1 (Addr.mk ((Addr.add ad ((Int.toNat n) * (3 : Nat)))).block (((Addr.add ad ((Int.toNat n) * (3 : Nat)))).off + 2) Option.none)) = (Option.some (Value.slice (sl).a (sl).len (sl).cap))) ∧
    ((((decide ((((sl).len : Nat) : Int) > (10 : Int))) = Bool.true) →
     (Q (Value.bool Bool.true) h1)) ∧
    (((decide ((((sl).len : Nat) : Int) > (10 : Int))) = Bool.false) →
     (∃ k1 : (Int → (Heap → (Prod Prop Nat))),
     (((k1 (0 : Int) h1)).fst ∧
     (∀ n1 : Int,
     (∀ h2 : Heap,
      (((k1 n1 h2)).fst →
      ((((0 : Int) ≤ n) ∧
      (n < (((l).len : Nat) : Int))) ∧
      (∃ ad1 : Addr,
      (((l).a = (Option.some ad1)) ∧
       (∃ sl1 : Sl,
       (((rd h2 (Addr.mk ((Addr.add ad1 ((Int.toNat n) * (3 : Nat)))).block (((Addr.add ad1 ((Int.toNat n) * (3 : Nat)))).off + 2) Option.none)) = (Option.some (Value.slice (sl1).a (sl1).len (sl1).cap))) ∧
       ((((decide (n1 < (((sl1).len : Nat) : Int))) = Bool.true) →
        (∀ J : (Bool → (Heap → Prop)),
        (((∀ b : Bool,
        (∀ h3 : Heap,
         (((((b = Bool.true) →
         (Q (Value.bool Bool.true) h3)) ∧
         ((b = Bool.false) →
         (((k1 (IntKind.wrap IntKind.i64 (n1 + (1 : Int))) h3)).fst ∧
         (((k1 (IntKind.wrap IntKind.i64 (n1 + (1 : Int))) h3)).snd < ((k1 n1 h2)).snd))))) →
         (J b h3))))) →
        ((((0 : Int) ≤ n) ∧
         (n < (((l).len : Nat) : Int))) ∧
        (∃ ad2 : Addr,
         (((l).a = (Option.some ad2)) ∧
         (∃ sl2 : Sl,
         (((rd h2 (Addr.mk ((Addr.add ad2 ((Int.toNat n) * (3 : Nat)))).block (((Addr.add ad2 ((Int.toNat n) * (3 : Nat)))).off + 2) Option.none)) = (Option.some (Value.slice (sl2).a (sl2).len (sl2).cap))) ∧
         ((((0 : Int) ≤ n1) ∧
         (n1 < (((sl2).len : Nat) : Int))) ∧
         (∃ ad3 : Addr,
         (((sl2).a = (Option.some ad3)) ∧
         (∃ l1 : (List UInt8),
         (((rd h2 (Addr.add (Addr.add ad3 ((Int.toNat n1) * (2 : Nat))) 0)) = (Option.some (S l1))) ∧
         ((((decide ((((List.length l1) : Nat) : Int) > (100 : Int))) = Bool.false) →
         ((((0 : Int) ≤ n) ∧
         (n < (((l).len : Nat) : Int))) ∧
         (∃ ad4 : Addr,
         (((l).a = (Option.some ad4)) ∧
         (∃ sl3 : Sl,
         (((rd h2 (Addr.mk ((Addr.add ad4 ((Int.toNat n) * (3 : Nat)))).block (((Addr.add ad4 ((Int.toNat n) * (3 : Nat)))).off + 2) Option.none)) = (Option.some (Value.slice (sl3).a (sl3).len (sl3).cap))) ∧
         ((((0 : Int) ≤ n1) ∧
         (n1 < (((sl3).len : Nat) : Int))) ∧
         (∃ ad5 : Addr,
         (((sl3).a = (Option.some ad5)) ∧
         (∃ l2 : (List UInt8),
         (((rd h2 (Addr.mk ((Addr.add ad5 ((Int.toNat n1) * (2 : Nat)))).block (((Addr.add ad5 ((Int.toNat n1) * (2 : Nat)))).off + 1) Option.none)) = (Option.some (S l2))) ∧
         (J (decide ((((List.length l2) : Nat) : Int) > (100 : Int))) h2)))))))))))) ∧
         (((decide ((((List.length l1) : Nat) : Int) > (100 : Int))) = Bool.true) →
         (J Bool.true h2)))))))))))))))) ∧
       (((decide (n1 < (((sl1).len : Nat) : Int))) = Bool.false) →
        (((k (IntKind.wrap IntKind.i64 (n + (1 : Int))) h2)).fst ∧
        (((k (IntKind.wrap IntKind.i64 (n + (1 : Int))) h2)).snd < ((k n h1)).snd)))))))))))))))))))))) ∧
   (((decide (n < (((l).len : Nat) : Int))) = Bool.false) →
   (Q (Value.bool Bool.false) h1))))))))))
theorem vc11 (l : Sl) (h : Heap) (Q : Value → Heap → Prop) : evF Tryz.prog τ tok 11 an11 [.slice l.a l.len l.cap] h Q = VC11 l h Q := by kernel_rfl
theorem ok11 {l : Sl} {h : Heap} {Q : Value → Heap → Prop} (hv : VC11 l h Q) : Spec Tryz.prog 11 [.slice l.a l.len l.cap] h Q := evF_sound (P := Tryz.prog) (τ := τ) (ok := tok) (an := an11) (fun _ => drawn mixed) (by rw [vc11]; exact hv)

/- pharos/pharoslaw12.works -/
def an10 : An := (.nd none [] [] .leaf (.nd none [] [] .leaf (.nd none [] [] .leaf (.nd none [] [] .leaf (.nd none [] [] .leaf (.nd none [] [] .leaf (.nd none [] [] (.nd none [] [] (.nd (some [.slot 55 .bool]) [] [] .leaf .leaf) .leaf) (.nd none [] [] .leaf (.nd none [] [] .leaf (.nd none [] [] .leaf (.nd none [] [] (.nd (some [.slot 0 .bool]) [] [] .leaf .leaf) .leaf)))))))))))
def VC10 (h : Heap) (Q : Value → Heap → Prop) : Prop :=
 (Spec Tryz.prog 12 [] h (fun v h1 =>
 (∃ p : (Option Addr),
 ((v = (Value.pointer p)) ∧
 ((((Option.isNone p) = Bool.true) →
  (Q (Value.bool Bool.false) h1)) ∧
  (((Option.isNone p) = Bool.false) →
  ((2 = 2) ∧
  (∀ b : Nat,
  (((h1 b) = Option.none) →
   (Spec Tryz.prog 13 [(Value.pointer p), (Value.int IntKind.i64 (1 : Int)), (Value.slice (Option.some (Addr.mk b 0 Option.none)) 1 1)] (Heap.set h1 b (Obj.cells ⟨[(S [(UInt8.ofBitVec (BitVec.ofNat (8 : Nat) 97))]), (S [(UInt8.ofBitVec (BitVec.ofNat (8 : Nat) 49))])]⟩ 43 (Prod.mk 0 0))) (fun v1 h2 =>
   (∃ l : (List UInt8),
   (∃ n : Int,
   ((v1 = (Value.tuple ⟨[(S l), (Value.int IntKind.i64 n)]⟩)) ∧
    ((2 = 2) ∧
    (∀ b1 : Nat,
    (((h2 b1) = Option.none) →
    (Spec Tryz.prog 13 [(Value.pointer p), (Value.int IntKind.i64 (2 : Int)), (Value.slice (Option.some (Addr.mk b1 0 Option.none)) 1 1)] (Heap.set h2 b1 (Obj.cells ⟨[(S [(UInt8.ofBitVec (BitVec.ofNat (8 : Nat) 97))]), (S [(UInt8.ofBitVec (BitVec.ofNat (8 : Nat) 50))])]⟩ 43 (Prod.mk 0 0))) (fun v2 h3 =>
     (∃ l1 : (List UInt8),
     (∃ n1 : Int,
     ((v2 = (Value.tuple ⟨[(S l1), (Value.int IntKind.i64 n1)]⟩)) ∧
     (Spec Tryz.prog 20 [(Value.pointer p), (Value.int IntKind.i64 (1 : Int))] h3 (fun v3 h4 =>
      (∃ p1 : (Option Addr),
      (∃ n2 : Int,
      ((v3 = (Value.tuple ⟨[(Value.pointer p1), (Value.int IntKind.i64 n2)]⟩)) ∧
      (∀ J : (Bool → (Heap → Prop)),
       (((∀ b2 : Bool,
       (∀ h5 : Heap,
       (((((b2 = Bool.true) →
        (Q (Value.bool Bool.false) h5)) ∧
        ((b2 = Bool.false) →
        (Spec Tryz.prog 15 [(Value.pointer p), (Value.int IntKind.i64 (2 : Int))] h5 (fun v4 h6 =>
        (∃ n3 : Int,
         ((v4 = (Value.int IntKind.i64 n3)) ∧
         (Spec Tryz.prog 20 [(Value.pointer p), (Value.int IntKind.i64 (1 : Int))] h6 (fun v5 h7 =>
         (∃ p2 : (Option Addr),
         (∃ n4 : Int,
         ((v5 = (Value.tuple ⟨[(Value.pointer p2), (Value.int IntKind.i64 n4)]⟩)) ∧
         (Spec Tryz.prog 20 [(Value.pointer p), (Value.int IntKind.i64 (2 : Int))] h7 (fun v6 h8 =>
         (∃ p3 : (Option Addr),
         (∃ n5 : Int,
         ((v6 = (Value.tuple ⟨[(Value.pointer p3), (Value.int IntKind.i64 n5)]⟩)) ∧
         (∀ J1 : (Bool → (Heap → Prop)),
         (((∀ b3 : Bool,
         (∀ h9 : Heap,
         ((Q (Value.bool b3) h9) →
         (J1 b3 h9))))) →
         ((((n3 == (1 : Int)) = Bool.true) →
         ((((n4 == (120 : Int)) = Bool.true) →
         ((((n5 == (0 : Int)) = Bool.true) →
         (Spec Tryz.prog 21 [(Value.pointer p3)] h8 (fun v7 h10 =>
         (∃ l2 : (List UInt8),
         ((v7 = (S l2)) ∧
         ((((l2 == l1) = Bool.true) →
         (Spec Tryz.prog 65 [(Value.pointer p)] h10 (fun v8 h11 =>
         (∃ n6 : Int,
         ((v8 = (Value.int IntKind.i64 n6)) ∧
         (J1 (n6 == (1 : Int)) h11)))))) ∧
         (((l2 == l1) = Bool.false) →
         (J1 Bool.false h10)))))))) ∧
         (((n5 == (0 : Int)) = Bool.false) →
         (J1 Bool.false h8)))) ∧
         (((n4 == (120 : Int)) = Bool.false) →
         (J1 Bool.false h8)))) ∧
         (((n3 == (1 : Int)) = Bool.false) →
         (J1 Bool.false h8)))))))))))))))))))))) →
        (J b2 h5))))) →
       ((((n != (0 : Int)) = Bool.false) →
       ((((n1 != (0 : Int)) = Bool.false) →
        ((((n2 != (0 : Int)) = Bool.false) →
        ((((l == l1) = Bool.false) →
         (Spec Tryz.prog 21 [(Value.pointer p1)] h4 (fun v9 h12 =>
         (∃ l3 : (List UInt8),
         ((v9 = (S l3)) ∧
         (J (!(l3 == l)) h12)))))) ∧
         (((l == l1) = Bool.true) →
         (J Bool.true h4)))) ∧
        (((n2 != (0 : Int)) = Bool.true) →
        (J Bool.true h4)))) ∧
        (((n1 != (0 : Int)) = Bool.true) →
        (J Bool.true h4)))) ∧
       (((n != (0 : Int)) = Bool.true) →
       (J Bool.true h4))))))))))))))))))))))))))))))))
theorem vc10 (h : Heap) (Q : Value → Heap → Prop) : evF Tryz.prog τ tok 10 an10 [] h Q = VC10  h Q := by kernel_rfl
theorem ok10 {h : Heap} {Q : Value → Heap → Prop} (hv : VC10  h Q) : Spec Tryz.prog 10 [] h Q := evF_sound (P := Tryz.prog) (τ := τ) (ok := tok) (an := an10) (fun _ => drawn mixed) (by rw [vc10]; exact hv)

/- pharos/pharoslaw12.VersGoes -/
def an3 : An := (.nd none [] [] .leaf (.nd none [] [] .leaf (.nd none [] [] .leaf (.nd none [] [] .leaf (.nd none [] [] (.nd none [] [] .leaf (.nd none [] [] (.nd none [.slot 26 (.int .i64)] [] .leaf .leaf) .leaf)) (.nd none [] [] .leaf (.nd none [] [] .leaf (.nd none [] [] .leaf (.nd none [] [] .leaf (.nd none [] [] (.nd none [] [] .leaf (.nd none [] [] (.nd none [.slot 11 (.int .i64), .slot 46 (.int .i64)] [] (.nd none [] [] .leaf (.nd none [] [] .leaf (.nd none [] [] (.nd (some [.slot 11 (.int .i64)]) [] [] (.nd none [] [] .leaf (.nd none [] [] (.nd (some [.slot 14 .bool]) [] [] .leaf .leaf) (.nd none [] [] .leaf (.nd none [] [] (.nd none [] [] (.nd (some [.slot 78 .bool]) [] [] .leaf .leaf) .leaf) (.nd none [] [] .leaf (.nd (some [.slot 11 (.int .i64)]) [] [] (.nd none [] [] (.nd none [] [] (.nd (some [.slot 91 .bool]) [] [] .leaf .leaf) .leaf) .leaf) .leaf)))))) .leaf) .leaf))) .leaf) .leaf)) (.nd none [] [] .leaf (.nd none [] [] (.nd (some [.slot 4 .bool]) [] [] .leaf .leaf) .leaf))))))))))))
def VC3 (l : Sl) (below : Int) (h : Heap) (Q : Value → Heap → Prop) : Prop :=
 (Spec Tryz.prog 10 [] h (fun v h1 =>
 (∃ b : Bool,
 ((v = (Value.bool b)) ∧
 ((((!b) = Bool.true) →
  (Q (Value.bool Bool.false) h1)) ∧
  (((!b) = Bool.false) →
  (Spec Tryz.prog 11 [(Value.slice (l).a (l).len (l).cap)] h1 (fun v1 h2 =>
  (∃ b1 : Bool,
  ((v1 = (Value.bool b1)) ∧
   (((b1 = Bool.true) →
   (Q (Value.bool Bool.true) h2)) ∧
   ((b1 = Bool.false) →
   (Spec Tryz.prog 12 [] h2 (fun v2 h3 =>
   (∃ p : (Option Addr),
    ((v2 = (Value.pointer p)) ∧
    (∃ k : (Int → (Heap → (Prod Prop Nat))),
    (((k (0 : Int) h3)).fst ∧
    (∀ n : Int,
     (∀ h4 : Heap,
     (((k n h4)).fst →
     ((((decide (n < (((l).len : Nat) : Int))) = Bool.true) →
      ((((0 : Int) ≤ n) ∧
      (n < (((l).len : Nat) : Int))) ∧
      (∃ ad : Addr,
      (((l).a = (Option.some ad)) ∧
      (∃ gp : GPharoslaw12Act,
       (((rdn h4 (Addr.add ad ((Int.toNat n) * (3 : Nat))) (3 : Nat)) = (Option.some [(Value.int IntKind.i64 (gp).Kind), (Value.int IntKind.i64 (gp).Height), (Value.slice ((gp).Changes).a ((gp).Changes).len ((gp).Changes).cap)])) ∧
       ((((List.length [(Value.int IntKind.i64 (gp).Kind), (Value.int IntKind.i64 (gp).Height), (Value.slice ((gp).Changes).a ((gp).Changes).len ((gp).Changes).cap)]) = (3 : Nat)) ∧
       ((List.length [(Value.int IntKind.i64 (gp).Kind), (Value.int IntKind.i64 (gp).Height), (Value.slice ((gp).Changes).a ((gp).Changes).len ((gp).Changes).cap)]) = 3)) ∧
       (Spec Tryz.prog 13 [(Value.pointer p), (Value.int IntKind.i64 (gp).Height), (Value.slice ((gp).Changes).a ((gp).Changes).len ((gp).Changes).cap)] h4 (fun v3 h5 =>
       (∃ l1 : (List UInt8),
        (∃ n1 : Int,
        ((v3 = (Value.tuple ⟨[(S l1), (Value.int IntKind.i64 n1)]⟩)) ∧
        (((k (IntKind.wrap IntKind.i64 (n + (1 : Int))) h5)).fst ∧
        (((k (IntKind.wrap IntKind.i64 (n + (1 : Int))) h5)).snd < ((k n h4)).snd)))))))))))))) ∧
     (((decide (n < (((l).len : Nat) : Int))) = Bool.false) →
      (Spec Tryz.prog 14 [(Value.pointer p)] h4 (fun v4 h6 =>
      (∃ sl : Sl,
      ((v4 = (Value.slice (sl).a (sl).len (sl).cap)) ∧
      (Spec Tryz.prog 15 [(Value.pointer p), (Value.int IntKind.i64 below)] h6 (fun v5 h7 =>
       (∃ n2 : Int,
       ((v5 = (Value.int IntKind.i64 n2)) ∧
       (Spec Tryz.prog 14 [(Value.pointer p)] h7 (fun v6 h8 =>
       (∃ sl1 : Sl,
        ((v6 = (Value.slice (sl1).a (sl1).len (sl1).cap)) ∧
        (∃ k1 : (Int → (Int → (Heap → (Prod Prop Nat)))),
        (((k1 (0 : Int) (0 : Int) h8)).fst ∧
        (∀ n3 : Int,
         (∀ n4 : Int,
         (∀ h9 : Heap,
         (((k1 n3 n4 h9)).fst →
         ((((decide (n4 < (((sl).len : Nat) : Int))) = Bool.true) →
         (∀ J : (Int → (Heap → Prop)),
         (((∀ n5 : Int,
         (∀ h10 : Heap,
         (((((k1 n5 (IntKind.wrap IntKind.i64 (n4 + (1 : Int))) h10)).fst ∧
         (((k1 n5 (IntKind.wrap IntKind.i64 (n4 + (1 : Int))) h10)).snd < ((k1 n3 n4 h9)).snd))) →
         (J n5 h10))))) →
         ((((0 : Int) ≤ n4) ∧
         (n4 < (((sl).len : Nat) : Int))) ∧
         (∃ ad1 : Addr,
         (((sl).a = (Option.some ad1)) ∧
         (∃ n6 : Int,
         (((rd h9 (Addr.add ad1 ((Int.toNat n4) * (1 : Nat)))) = (Option.some (Value.int IntKind.i64 n6))) ∧
         (∀ J1 : (Bool → (Heap → Prop)),
         (((∀ b2 : Bool,
         (∀ h11 : Heap,
         ((Spec Tryz.prog 16 [(Value.pointer p), (Value.int IntKind.i64 n6)] h11 (fun (va : Value) => (fun (he : Heap) => (∃ l2 : (List UInt8), (∃ n7 : Int, ((va = (Value.tuple ⟨[(S l2), (Value.int IntKind.i64 n7)]⟩)) ∧ (∀ J2 : (Bool → (Heap → Prop)), ((∀ b3 : Bool, (∀ h12 : Heap, ((((b3 = Bool.true) → (Q (Value.bool Bool.false) h12)) ∧ ((b3 = Bool.false) → (∀ J3 : (Int → (Heap → Prop)), ((∀ n8 : Int, (∀ h13 : Heap, ((J n8 h13) → (J3 n8 h13)))) → (((b2 = Bool.true) → (∀ J4 : (Bool → (Heap → Prop)), ((∀ b4 : Bool, (∀ h14 : Heap, ((((b4 = Bool.true) → (Q (Value.bool Bool.false) h14)) ∧ ((b4 = Bool.false) → (J3 (IntKind.wrap IntKind.i64 (n3 + (1 : Int))) h14))) → (J4 b4 h14)))) → ((((decide (n3 ≥ (((sl1).len : Nat) : Int))) = Bool.false) → ((((0 : Int) ≤ n3) ∧ (n3 < (((sl1).len : Nat) : Int))) ∧ (∃ ad2 : Addr, (((sl1).a = (Option.some ad2)) ∧ (∃ n9 : Int, (((rd h12 (Addr.add ad2 ((Int.toNat n3) * (1 : Nat)))) = (Option.some (Value.int IntKind.i64 n9))) ∧ (J4 (n9 != n6) h12))))))) ∧ (((decide (n3 ≥ (((sl1).len : Nat) : Int))) = Bool.true) → (J4 Bool.true h12)))))) ∧ ((b2 = Bool.false) → (J3 n3 h12))))))) → (J2 b3 h12)))) → ((((!(b2 == (n7 == (0 : Int)))) = Bool.false) → ((((!b2) = Bool.true) → (J2 (n7 != (120 : Int)) he)) ∧ (((!b2) = Bool.false) → (J2 Bool.false he)))) ∧ (((!(b2 == (n7 == (0 : Int)))) = Bool.true) → (J2 Bool.true he))))))))))) →
         (J1 b2 h11))))) →
         ((((decide (n6 ≥ below)) = Bool.false) →
         (J1 (n4 == (IntKind.wrap IntKind.i64 ((((sl).len : Nat) : Int) - (1 : Int)))) h9)) ∧
         (((decide (n6 ≥ below)) = Bool.true) →
         (J1 Bool.true h9))))))))))))) ∧
         (((decide (n4 < (((sl).len : Nat) : Int))) = Bool.false) →
         (Spec Tryz.prog 13 [(Value.pointer p), (Value.int IntKind.i64 (IntKind.wrap IntKind.i64 ((if ((1048577 : Int) < (if ((1 : Int) > below) then (1 : Int) else below)) then (1048577 : Int) else (if ((1 : Int) > below) then (1 : Int) else below)) - (1 : Int)))), (Value.slice Option.none 0 0)] h9 (fun v7 h15 =>
         (∃ l3 : (List UInt8),
         (∃ n10 : Int,
         ((v7 = (Value.tuple ⟨[(S l3), (Value.int IntKind.i64 n10)]⟩)) ∧
         (∀ J5 : (Bool → (Heap → Prop)),
         (((∀ b5 : Bool,
         (∀ h16 : Heap,
         ((Q (Value.bool b5) h16) →
         (J5 b5 h16))))) →
         ((((n3 == (((sl1).len : Nat) : Int)) = Bool.true) →
         ((((n2 == (IntKind.wrap IntKind.i64 ((((sl).len : Nat) : Int) - (((sl1).len : Nat) : Int)))) = Bool.true) →
         (Spec Tryz.prog 15 [(Value.pointer p), (Value.int IntKind.i64 below)] h15 (fun v8 h17 =>
         (∃ n11 : Int,
         ((v8 = (Value.int IntKind.i64 n11)) ∧
         ((((n11 == (0 : Int)) = Bool.true) →
         ((((decide (below < (1 : Int))) = Bool.false) →
         (J5 (n10 != (0 : Int)) h17)) ∧
         (((decide (below < (1 : Int))) = Bool.true) →
         (J5 Bool.true h17)))) ∧
         (((n11 == (0 : Int)) = Bool.false) →
         (J5 Bool.false h17)))))))) ∧
         (((n2 == (IntKind.wrap IntKind.i64 ((((sl).len : Nat) : Int) - (((sl1).len : Nat) : Int)))) = Bool.false) →
         (J5 Bool.false h15)))) ∧
         (((n3 == (((sl1).len : Nat) : Int)) = Bool.false) →
         (J5 Bool.false h15)))))))))))))))))))))))))))))))))))))))))))))))))))))
theorem vc3 (l : Sl) (below : Int) (h : Heap) (Q : Value → Heap → Prop) : evF Tryz.prog τ tok 3 an3 [.slice l.a l.len l.cap, .int .i64 below] h Q = VC3 l below h Q := by kernel_rfl
theorem ok3 {l : Sl} {below : Int} {h : Heap} {Q : Value → Heap → Prop} (hv : VC3 l below h Q) : Spec Tryz.prog 3 [.slice l.a l.len l.cap, .int .i64 below] h Q := evF_sound (P := Tryz.prog) (τ := τ) (ok := tok) (an := an3) (fun _ => drawn mixed) (by rw [vc3]; exact hv)

/- maps.Keys[map[int][]byte,int,[]byte] -/
def an70 : An := .leaf
def VC70 (m : Option Nat) (h : Heap) (Q : Value → Heap → Prop) : Prop :=
 (∀ b : Nat,
 (((h b) = Option.none) →
 (Q (Value.func (Fn.func 163) ⟨[]⟩ ⟨[(Value.pointer (Option.some (Addr.mk b 0 Option.none)))]⟩) (Heap.set h b (Obj.cells ⟨[(Value.map m)]⟩ 140 (Prod.mk 0 0))))))
theorem vc70 (m : Option Nat) (h : Heap) (Q : Value → Heap → Prop) : evF Tryz.prog τ tok 70 an70 [.map m] h Q = VC70 m h Q := by kernel_rfl
theorem ok70 {m : Option Nat} {h : Heap} {Q : Value → Heap → Prop} (hv : VC70 m h Q) : Spec Tryz.prog 70 [.map m] h Q := evF_sound (P := Tryz.prog) (τ := τ) (ok := tok) (an := an70) (fun _ => drawn mixed) (by rw [vc70]; exact hv)

end Go.Vw
namespace Go.Vw
open Go Go.Proofs

/-- What a block of versions, or a map, may become. -/
inductive Sim : Obj → Obj → Prop
  | map (es : Array MapEntry) (k : Nat) (es' : Array MapEntry) (k' : Nat) : Sim (.map es k) (.map es' k')
  | vers (p : Option Addr) (m : Option Nat) (q : Option Addr) (x y : Int) (p' : Option Addr) (m' : Option Nat) (q' : Option Addr) (x' y' : Int) (e : TypeId) :
      Sim (.cells ⟨[.pointer p, .map m, .pointer q, .int .i64 x, .int .i64 y]⟩ e (0, 0)) (.cells ⟨[.pointer p', .map m', .pointer q', .int .i64 x', .int .i64 y']⟩ e (0, 0))
theorem Sim.trans {x y z : Obj} (h : Sim x y) (k : Sim y z) : Sim x z := by
  cases h <;> cases k <;> constructor
/-- All but what X names is as it was, and that is alike. -/
def leV (X : Nat → Prop) (h g : Heap) : Prop := ∀ c o, h c = some o → g c = some o ∨ (X c ∧ ∃ o', g c = some o' ∧ Sim o o')
theorem leV.refl (X : Nat → Prop) (h : Heap) : leV X h h := fun _ _ hh => .inl hh
theorem leV.trans {X : Nat → Prop} {x y z : Heap} (h : leV X x y) (k : leV X y z) : leV X x z := fun c o hc => by
  rcases h c o hc with h1 | ⟨hx, o', h1, hs⟩
  · exact k c o h1
  · rcases k c o' h1 with h2 | ⟨_, o'', h2, hs'⟩
    · exact .inr ⟨hx, o', h2, hs⟩
    · exact .inr ⟨hx, o'', h2, hs.trans hs'⟩
theorem Heap.le_leV {h g : Heap} (hl : h.le g) (X : Nat → Prop) : leV X h g := fun c o hc => .inl (hl c o hc)
theorem leB_leV {h g : Heap} {X : Nat → Prop} {b : Nat} (hl : Heap.leB b h g) (hb : ∃ es k, h b = some (.map es k)) (hg : ∃ es k, g b = some (.map es k)) (hX : X b) : leV X h g := fun c o hc => by
  by_cases hcb : c = b
  · subst hcb
    obtain ⟨es, k, h1⟩ := hb
    obtain ⟨es', k', h2⟩ := hg
    rw [h1] at hc
    cases hc
    exact .inr ⟨hX, _, h2, .map ..⟩
  · exact .inl (hl c o hcb hc)
theorem leV_set {h : Heap} {X : Nat → Prop} {b : Nat} {o o' : Obj} (hb : h b = some o) (hs : Sim o o') (hX : X b) : leV X h (h.set b o') := fun c x hc => by
  by_cases hcb : c = b
  · subst hcb
    rw [hb] at hc; cases hc
    exact .inr ⟨hX, _, Heap.set_same _ _ _, hs⟩
  · exact .inl (by rw [Heap.set_other _ _ hcb]; exact hc)
theorem leV.keep {X : Nat → Prop} {h g : Heap} (hl : leV X h g) {c : Nat} {o : Obj} (hc : h c = some o) (hn : ¬ X c) : g c = some o := by
  rcases hl c o hc with h1 | ⟨hx, _⟩
  · exact h1
  · exact absurd hx hn
theorem leV.map {X : Nat → Prop} {h g : Heap} (hl : leV X h g) {c : Nat} (hc : ∃ es k, h c = some (.map es k)) : ∃ es k, g c = some (.map es k) := by
  obtain ⟨es, k, hc⟩ := hc
  rcases hl c _ hc with h1 | ⟨_, o', h1, hs⟩
  · exact ⟨_, _, h1⟩
  · cases hs; exact ⟨_, _, h1⟩

def isB : Value → Bool
  | .int .u8 _ => true
  | _ => false
theorem isB_row (l : Bs) : ∀ v ∈ l.map byteV, isB v = true := by
  intro v hv
  obtain ⟨x, _, rfl⟩ := List.mem_map.1 hv
  rfl
theorem rdn_leV {X : Nat → Prop} {h g : Heap} (hl : leV X h g) {a : Addr} {n : Nat} {v : List Value} (hv : rdn h a n = some v) (hB : ∀ x ∈ v, isB x = true) : rdn g a n = some v := by
  unfold rdn at hv ⊢
  split at hv
  · rename_i c e fr hc
    rcases hl _ _ hc with h1 | ⟨_, o', h1, hs⟩
    · rw [h1]; exact hv
    · cases hs
      rw [h1]
      simp only at hv ⊢
      by_cases hs : a.spot.isSome = true
      · rw [if_pos hs] at hv; cases hv
      · rw [if_neg hs] at hv ⊢
        split at hv
        · rename_i hle
          injection hv with hv
          have hz : n = 0 := by
            apply Classical.byContradiction
            intro hn
            have hlen := congrArg List.length hv
            rw [List.length_take, List.length_drop] at hlen
            have hle' : a.off + n ≤ 5 := hle
            have h5 : ∀ a b c d e : Value, ([a, b, c, d, e] : List Value).length = 5 := fun _ _ _ _ _ => rfl
            rw [h5] at hlen
            cases hvv : v with
            | nil => rw [hvv] at hlen; simp at hlen; omega
            | cons y r =>
              have hy : y ∈ v := by rw [hvv]; exact List.mem_cons_self ..
              have hb := hB y hy
              rw [← hv] at hy
              have := List.mem_of_mem_drop (List.mem_of_mem_take hy)
              simp only [List.mem_cons, List.not_mem_nil, or_false] at this
              rcases this with rfl | rfl | rfl | rfl | rfl <;> cases hb
          subst hz
          exact (if_pos hle).trans (by rw [← hv]; rfl)
        · cases hv
  · cases hv
theorem rowOf_leV {X : Nat → Prop} {h g : Heap} (hl : leV X h g) {a : Option Addr} {n : Nat} {l : Bs} (hv : rowOf h a n = some (l.map byteV)) : rowOf g a n = some (l.map byteV) := by
  cases a with
  | none => exact hv
  | some a => exact rdn_leV hl hv (isB_row l)
theorem rows2_leV {κ : Type} {X : Nat → Prop} {h g : Heap} (hl : leV X h g) : ∀ {l : List (κ × Sl)} {m : List (κ × Bs)}, rows2 h l m → rows2 g l m
  | [], [], _ => trivial
  | [], _ :: _, k => k.elim
  | _ :: _, [], k => k.elim
  | p :: r, q :: s, ⟨h1, h2, h3, h4⟩ => ⟨h1, h2, rowOf_leV hl h3, rows2_leV hl h4⟩
theorem knO_keep {X : Nat → Prop} {h g : Heap} (hl : leV X h g) {c : Nat} {e : TypeId} {t : T} {f : Fin 16 → Option Addr} (hc : h c = some (knO e t f)) : g c = some (knO e t f) := by
  rcases hl _ _ hc with h1 | ⟨_, o', h1, hs⟩
  · exact h1
  · exfalso
    unfold knO at hs
    generalize hL : cGTrieKnot ⟨t.node, kl f, t.enc, t.sum, t.many⟩ = L at hs
    have hlen : L.length = 5 := by cases hs; rfl
    rw [← hL] at hlen
    simp [kl_len] at hlen
theorem isK_leV {X : Nat → Prop} {h g : Heap} (hl : leV X h g) : ∀ {t : T} {p : Option Addr}, isK h t p → isK g t p
  | .nil, _, hk => hk
  | .leaf a v, _, ⟨c, e, f, h1, h2, h3⟩ => ⟨c, e, f, h1, knO_keep hl h2, h3⟩
  | .ext a k, _, ⟨c, e, f, h1, h2, h3, h4⟩ => ⟨c, e, f, h1, knO_keep hl h2, isK_leV hl h3, h4⟩
  | .br v ks, _, ⟨c, e, f, h1, h2, h3⟩ => ⟨c, e, f, h1, knO_keep hl h2, fun i => isK_leV hl (h3 i)⟩
theorem one_keep {X : Nat → Prop} {h g : Heap} (hl : leV X h g) {c : Nat} {e : TypeId} {v : Value} (hc : h c = some (.cells ⟨[v]⟩ e (0, 0))) : g c = some (.cells ⟨[v]⟩ e (0, 0)) := by
  rcases hl _ _ hc with h1 | ⟨_, o', h1, hs⟩
  · exact h1
  · cases hs
theorem isT_leV {X : Nat → Prop} {h g : Heap} (hl : leV X h g) {p : Option Addr} {t : T} (hk : isT h p t) : isT g p t := by
  obtain ⟨c, e, q, h1, h2, h3⟩ := hk
  exact ⟨c, e, q, h1, one_keep hl h2, isK_leV hl h3⟩
theorem isS_leV {X : Nat → Prop} {h g : Heap} (hl : leV X h g) {p : Option Addr} {mb : Nat} {st : Store} (hm : g mb = h mb) (k : isS h p mb st) : isS g p mb st := by
  obtain ⟨b, e, h1, h2, kvs, ⟨es, c, h3, h4⟩, h5⟩ := k
  exact ⟨b, e, h1, one_keep hl h2, kvs, ⟨es, c, by rw [hm]; exact h3, h4⟩, rows2_leV hl h5⟩
theorem KH.leV {X : Nat → Prop} {h g : Heap} (hl : leV X h g) (hK : KH h) : KH g := by
  obtain ⟨e, fr, hk⟩ := hK
  rcases hl _ _ hk with h1 | ⟨_, o', h1, hs⟩
  · exact ⟨e, fr, h1⟩
  · exfalso
    generalize hL : shaK.map (fun x => Value.int .u32 x) = L at hs
    have hlen : L.length = 5 := by cases hs; rfl
    rw [← hL, List.length_map, shaK_len] at hlen
    omega
end Go.Vw
namespace Go.Vw
open Go Go.Proofs

structure VM where
  roots : List (Int × Bs)
  st : Store
  t : T
  last : Int
  below : Int
def vO (sp : Option Addr) (rm : Nat) (np : Option Addr) (x y : Int) : Obj := .cells ⟨[.pointer sp, .map (some rm), .pointer np, .int .i64 x, .int .i64 y]⟩ 142 (0, 0)
def isV (h : Heap) (a rm mb : Nat) (V : VM) : Prop :=
  ∃ sp np kvs, h a = some (vO sp rm np V.last V.below) ∧ mapIs h (some rm) (.int .i64) .slice kvs ∧ rows2 h kvs V.roots ∧ isS h sp mb V.st ∧ isT h np V.t ∧ rm ≠ mb
/-- What of the memory is versions' own. -/
def vX (a rm mb : Nat) (c : Nat) : Prop := c = a ∨ c = rm ∨ c = mb
theorem mapIs_le {h g : Heap} (hl : h.le g) {m : Option Nat} {kt vt : Ty} {kvs : List (kt.T × vt.T)} (k : mapIs h m kt vt kvs) : mapIs g m kt vt kvs := by
  cases m with
  | none => exact k
  | some m => obtain ⟨es, c, h1, h2⟩ := k; exact ⟨es, c, hl _ _ h1, h2⟩
theorem isV_le {h g : Heap} (hl : h.le g) {a rm mb : Nat} {V : VM} (k : isV h a rm mb V) : isV g a rm mb V := by
  obtain ⟨sp, np, kvs, h1, h2, h3, h4, h5, h6⟩ := k
  exact ⟨sp, np, kvs, hl _ _ h1, mapIs_le hl h2, rows2_le hl h3, isS_le hl h4, isT_le hl h5, h6⟩
theorem vnew_ok {h : Heap} : Spec Tryz.prog 12 [] h (fun v h' => h.le h' ∧ ∃ a rm mb, v = .pointer (some ⟨a, 0, none⟩) ∧ h a = none ∧ h rm = none ∧ h mb = none ∧ isV h' a rm mb ⟨[], [], .nil, -1, 0⟩) := by
  apply ok12
  unfold VC12
  refine snew_ok.mono ?_
  rintro v h1 ⟨hle1, p, mb, rfl, hmb, hS⟩
  refine ⟨p, rfl, fun r hr => tnew_ok.mono ?_⟩
  rintro v h2 ⟨hle2, q, rfl, hT⟩
  refine ⟨q, rfl, fun b hb => ?_⟩
  have hle12 := Heap.le_set (h := h1) (Obj.map ⟨[]⟩ 0) hr
  have hleb := Heap.le_set (h := h2) (vO p r q (-1) 0) hb
  have hl := Heap.le_trans hle12 hle2
  refine ⟨Heap.le_trans hle1 (Heap.le_trans hl hleb), b, r, mb, rfl, Heap.none_of (Heap.le_trans hle1 hl) hb, Heap.none_of hle1 hr, hmb, p, q, [], Heap.set_same _ _ _, ⟨#[], 0, ?_, rfl⟩, trivial, isS_le (Heap.le_trans hl hleb) hS, isT_le hleb hT, ?_⟩
  · exact hleb _ _ (hle2 _ _ (Heap.set_same _ _ _))
  · rintro rfl
    obtain ⟨es, k, hm⟩ := isS_map hS
    rw [hr] at hm; cases hm

/-- A change. -/
def chM (t : T) (x : GApiItem) : Option T × Int :=
  if x.Value ≠ [] then putM t x.Key x.Value else if (delM t x.Key).2 = 5 then (some t, 0) else delM t x.Key
theorem changed_ok {h : Heap} {p : Option Addr} {t : T} {x : GApiItem} (hk : isT h p t) (hF : t.Fits 0) (hK : KH h) :
    Spec Tryz.prog 67 [.pointer p, .agg ⟨cGApiItem x⟩] h (fun v h' => h.le h' ∧ ∃ q, v = .tuple ⟨[.pointer q, .int .i64 (chM t x).2]⟩ ∧ isTo h' q (chM t x).1) := by
  apply ok67
  unfold VC67
  unfold chM
  refine ⟨fun hv => ?_, fun hv => ?_⟩
  · have hv : x.Value ≠ [] := by simpa using hv
    rw [if_pos hv]
    refine (tput_ok hk hF hK).mono ?_
    rintro v h1 ⟨hle, q, rfl, hq⟩
    exact ⟨q, _, rfl, hle, q, rfl, hq⟩
  · have hv : ¬ x.Value ≠ [] := by simpa using hv
    rw [if_neg hv]
    refine (tdel_ok hk hF hK).mono ?_
    rintro v h1 ⟨hle, q, rfl, hq⟩
    refine ⟨q, _, rfl, fun he => ?_, fun he => ?_⟩
    · have he : (delM t x.Key).2 = 5 := by simpa using he
      rw [if_pos he]
      exact ⟨hle, p, rfl, isT_le hle hk, hF⟩
    · have he : ¬ (delM t x.Key).2 = 5 := by simpa using he
      rw [if_neg he]
      exact ⟨hle, q, rfl, hq⟩
theorem putM_size {t : T} {k v : Bs} (hF : t.Fits 0) (hs : t.size ≤ 1024) (h : (putM t k v).2 = 0) : ∃ u, (putM t k v).1 = some u ∧ u.size ≤ 1024 := by
  unfold putM at h ⊢
  split at h
  · cases h
  · rename_i h1
    rw [if_neg h1]
    split at h
    · cases h
    · rename_i h2
      rw [if_neg h2]
      split at h
      · cases h
      · rename_i h3
        rw [if_neg h3]
        refine ⟨_, rfl, ?_⟩
        have hm := many_size hF (by omega)
        have := tput_size t (nib k) v
        by_cases hg : t.get (nib k) = []
        · have : ¬ 1024 ≤ t.many := fun h => h3 ⟨h, hg⟩
          omega
        · have := this.2 hg (fun h => h2 (.inl h))
          omega
theorem delM_size {t : T} {k : Bs} (hF : t.Fits 0) (hs : t.size ≤ 1024) (h : (delM t k).2 = 0) : ∃ u, (delM t k).1 = some u ∧ u.size ≤ 1024 := by
  unfold delM at h ⊢
  split at h
  · rename_i h1
    rw [if_pos h1]
    refine ⟨_, rfl, ?_⟩
    have := del_size t (nib k) 0 hF
    omega
  · rename_i h1; exact absurd h h1
theorem chM_size {t : T} {x : GApiItem} (hF : t.Fits 0) (hs : t.size ≤ 1024) (h : (chM t x).2 = 0) : ∃ u, (chM t x).1 = some u ∧ u.size ≤ 1024 := by
  unfold chM at h ⊢
  split at h
  · rename_i h1; rw [if_pos h1]; exact putM_size hF hs h
  · rename_i h1
    rw [if_neg h1]
    split at h
    · rename_i h2; rw [if_pos h2]; exact ⟨t, rfl, hs⟩
    · rename_i h2; rw [if_neg h2]; exact delM_size hF hs h
/-- Changes, one after the other. -/
def chsM (t : T) : List GApiItem → T × Int
  | [] => (t, 0)
  | x :: l => if (chM t x).2 = 0 then chsM ((chM t x).1.getD .nil) l else (.nil, (chM t x).2)
def commitM (V : VM) (height : Int) (cs : List GApiItem) : VM × Bs × Int :=
  if height < 0 ∨ 1048576 < height then (V, [], 1)
  else if height ≤ V.last ∨ height < V.below then (V, [], 120)
  else if (chsM V.t cs).2 = 0 then (⟨kPut (.int .i64) V.roots height (chsM V.t cs).1.sum, saveM V.st (chsM V.t cs).1.nodes, (chsM V.t cs).1, height, V.below⟩, (chsM V.t cs).1.sum, 0)
  else (V, [], (chsM V.t cs).2)
def aggs {α : Type} (c : α → List Value) (l : List α) : List Value := l.flatMap c
theorem aggs_at {α : Type} {c : α → List Value} {n : Nat} (hc : ∀ x, (c x).length = n) : ∀ {l : List α} {i : Nat} (hi : i < l.length), ((aggs c l).drop (i * n)).take n = c l[i] ∧ i * n + n ≤ (aggs c l).length
  | x :: l, 0, _ => by
    unfold aggs
    rw [List.flatMap_cons, Nat.zero_mul, List.drop_zero, List.take_append_of_le_length (by rw [hc]; exact Nat.le_refl _), List.length_append, hc]
    exact ⟨by rw [List.take_of_length_le (by rw [hc]; exact Nat.le_refl _)]; rfl, by omega⟩
  | x :: l, i + 1, hi => by
    have ih := aggs_at hc (l := l) (i := i) (by simpa using hi)
    unfold aggs at ih ⊢
    rw [List.flatMap_cons, List.length_append, hc]
    have e : (i + 1) * n = n + i * n := by rw [Nat.add_mul, Nat.one_mul, Nat.add_comm]
    rw [e, ← List.drop_drop, List.drop_left' (hc x)]
    exact ⟨ih.1, by omega⟩
theorem rdn_sub {h : Heap} {ad : Addr} {n k m : Nat} {l : List Value} (hr : rdn h ad n = some l) (hk : k + m ≤ n) : rdn h (ad.add k) m = some ((l.drop k).take m) := by
  unfold rdn at hr
  split at hr
  · rename_i c e fr hc
    split at hr
    · cases hr
    · rename_i hs
      split at hr
      · rename_i hle
        injection hr with hr
        have hsn : ad.spot = none := by
          cases hsp : ad.spot with
          | none => rfl
          | some _ => rw [hsp] at hs; exact absurd rfl hs
        obtain ⟨bb, oo, ss⟩ := ad
        dsimp only at hsn hle hc hr
        subst hsn
        rw [add_mk]
        unfold rdn
        dsimp only
        rw [hc]
        dsimp only
        rw [if_neg (by simp), if_pos (by omega), ← hr]
        congr 1
        rw [List.drop_take, List.drop_drop, List.take_take, Nat.min_eq_left (by omega)]
      · cases hr
  · cases hr
/-- One of a slice of structs is read. -/
theorem agg_rd {α : Type} {c : α → List Value} {n : Nat} (hn : 0 < n) (hc : ∀ x, (c x).length = n) {h : Heap} {a : Option Addr} {l : List α} (hr : rowOf h a (l.length * n) = some (aggs c l)) {i : Nat} (hi : i < l.length) :
    ∃ ad, a = some ad ∧ rdn h (Addr.add ad (i * n)) n = some (c l[i]) := by
  cases a with
  | none =>
    unfold rowOf at hr
    dsimp only at hr
    have : l.length * n ≠ 0 := Nat.mul_ne_zero (by omega) (by omega)
    rw [if_neg this] at hr
    cases hr
  | some ad =>
    refine ⟨ad, rfl, ?_⟩
    have hle : i * n + n ≤ l.length * n := by
      rw [← Nat.succ_mul]; exact Nat.mul_le_mul_right n hi
    rw [rdn_sub hr hle, (aggs_at hc hi).1]
end Go.Vw
namespace Go.Vw
open Go Go.Proofs

theorem cItem_len (x : GApiItem) : (cGApiItem x).length = 2 := rfl
theorem leV_rows {X : Nat → Prop} {h g : Heap} (hl : leV X h g) {a : Option Addr} {n : Nat} {l : List GApiItem} (hv : rowOf h a n = some (aggs cGApiItem l)) (hX : ∀ ad, a = some ad → ¬ X ad.block) : rowOf g a n = some (aggs cGApiItem l) := by
  cases a with
  | none => exact hv
  | some ad =>
    have hv : rdn h ad n = _ := hv
    show rdn g ad n = _
    unfold rdn at hv ⊢
    split at hv
    · rename_i c e fr hc
      rw [hl.keep hc (hX ad rfl)]; exact hv
    · cases hv
theorem map_set_leV {h : Heap} {X : Nat → Prop} {m : Nat} {es : Array MapEntry} {c : Nat} (hm : ∃ es k, h m = some (.map es k)) (hX : X m) : leV X h (h.set m (.map es c)) := by
  obtain ⟨es', k, hm⟩ := hm
  exact leV_set hm (.map ..) hX
theorem isT_fits {h : Heap} {q : Option Addr} {o : Option T} (h1 : isTo h q o) {u : T} (h2 : o = some u) : isT h q u ∧ u.Fits 0 := by
  subst h2; exact h1
theorem chsM_fits : ∀ {l : List GApiItem} {t : T}, t.Fits 0 → t.size ≤ 1024 → (∀ t x, t.Fits 0 → t.size ≤ 1024 → (chM t x).2 = 0 → ((chM t x).1.getD .nil).Fits 0) → (chsM t l).1.Fits 0 ∧ (chsM t l).1.size ≤ 1024
  | [], t, h1, h2, _ => ⟨h1, h2⟩
  | x :: l, t, h1, h2, hf => by
    unfold chsM
    split
    · rename_i h
      obtain ⟨u, hu, hs⟩ := chM_size h1 h2 h
      have := hf t x h1 h2 h
      rw [hu] at this ⊢
      exact chsM_fits (l := l) this hs hf
    · exact ⟨fits_nil 0, Nat.zero_le _⟩
theorem chsM_cons (t : T) (x : GApiItem) (l : List GApiItem) : chsM t (x :: l) = if (chM t x).2 = 0 then chsM ((chM t x).1.getD .nil) l else (.nil, (chM t x).2) := rfl
/-- What holds of versions, always. -/
structure VGood (V : VM) : Prop where
  fits : V.t.Fits 0
  size : V.t.size ≤ 1024
  good : StGood V.st
  keys : ∀ p ∈ V.roots, 0 ≤ p.1 ∧ p.1 ≤ 1048576
  srt : (V.roots.map (·.1)).Pairwise (· < ·)
  lst : V.last = ((V.roots.map (·.1)).getLast?).getD (-1)
  lens : ∀ p ∈ V.roots, p.2.length ≤ 1000000

set_option maxHeartbeats 1000000 in
theorem commit_ok {h : Heap} {a rm mb : Nat} {V : VM} {height : Int} {ch : Sl} {cs : List GApiItem} (hV : isV h a rm mb V) (hF : V.t.Fits 0) (hsz : V.t.size ≤ 1024) (hK : KH h)
    (hr : cs ≠ [] → rowOf h ch.a (cs.length * 2) = some (aggs cGApiItem cs)) (hcl : ch.len = cs.length) (hcs : cs.length ≤ 1000000) :
    Spec Tryz.prog 13 [.pointer (some ⟨a, 0, none⟩), .int .i64 height, .slice ch.a ch.len ch.cap] h (fun v h' => v = .tuple ⟨[S (commitM V height cs).2.1, .int .i64 (commitM V height cs).2.2]⟩ ∧ isV h' a rm mb (commitM V height cs).1 ∧ leV (vX a rm mb) h h' ∧ (commitM V height cs).1.t.Fits 0 ∧ (commitM V height cs).1.t.size ≤ 1024) := by
  apply ok13
  unfold VC13
  have hV0 := hV
  obtain ⟨sp, np, kvs, ha, hm, hrw, hS, hT, hrm⟩ := hV
  obtain ⟨R, hR⟩ : ∃ R, R = commitM V height cs := ⟨_, rfl⟩
  rw [← hR]
  unfold commitM at hR
  have main0 : ∀ e : Int, (height < 0 ∨ 1048576 < height) → e = 1 → (Value.tuple ⟨[S [], .int .i64 e]⟩ = .tuple ⟨[S R.2.1, .int .i64 R.2.2]⟩ ∧ isV h a rm mb R.1 ∧ leV (vX a rm mb) h h ∧ R.1.t.Fits 0 ∧ R.1.t.size ≤ 1024) := by
    rintro e hc rfl
    rw [if_pos hc] at hR
    subst hR
    exact ⟨rfl, hV0, leV.refl _ _, hF, hsz⟩
  intro J hJ
  refine ⟨fun h1 => hJ _ _ ⟨fun hb => main0 1 (.inr (by simpa using hb)) rfl, fun hb => ?_⟩, fun h1 => hJ _ _ ⟨fun _ => main0 1 (.inl (by simpa using h1)) rfl, fun h => by cases h⟩⟩
  have hlo : ¬ height < 0 := by simpa using h1
  have hhi : ¬ 1048576 < height := by simpa using hb
  rw [if_neg (by omega)] at hR
  intro J1 hJ1
  have old : (height ≤ V.last ∨ height < V.below) → (Value.tuple ⟨[S [], .int .i64 120]⟩ = .tuple ⟨[S R.2.1, .int .i64 R.2.2]⟩ ∧ isV h a rm mb R.1 ∧ leV (vX a rm mb) h h ∧ R.1.t.Fits 0 ∧ R.1.t.size ≤ 1024) := by
    intro hc
    rw [if_pos hc] at hR
    subst hR
    exact ⟨rfl, hV0, leV.refl _ _, hF, hsz⟩
  refine ⟨_, rfl, V.last, rd_of ha, fun hl => ⟨_, rfl, V.below, rd_of ha, hJ1 _ _ ⟨fun hb => old (.inr (by simpa using hb)), fun hbl => ?_⟩⟩, fun hl => hJ1 _ _ ⟨fun _ => old (.inl (by simpa using hl)), fun h => by cases h⟩⟩
  have hl : ¬ height ≤ V.last := by simpa using hl
  have hbl : ¬ height < V.below := by simpa using hbl
  rw [if_neg (by omega)] at hR
  refine ⟨_, rfl, np, rd_of ha, fun p n h3 => (0 ≤ n ∧ n ≤ cs.length ∧ h.le h3 ∧ ∃ u, isT h3 p u ∧ u.Fits 0 ∧ u.size ≤ 1024 ∧ chsM V.t cs = chsM u (cs.drop n.toNat), cs.length - n.toNat), ⟨by omega, by omega, Heap.le_refl _, V.t, hT, hF, hsz, rfl⟩, ?_⟩
  rintro p n h3 ⟨hn0, hn1, hle3, u, hT3, hF3, hs3, hch⟩
  obtain ⟨n, rfl⟩ : ∃ j : Nat, n = j := ⟨n.toNat, by omega⟩
  rw [Int.toNat_natCast] at hch
  rw [hcl]
  refine ⟨fun hlt => ?_, fun hge => ?_⟩
  · have hi : n < cs.length := by simp at hlt; omega
    have e1 : IntKind.wrap .i64 ((n : Int) + 1) = ((n + 1 : Nat) : Int) := by rw [wrap64 (by omega) (by omega)]; omega
    rw [e1]
    simp only [Int.toNat_natCast]
    obtain ⟨ad, had, hrd⟩ := agg_rd (by decide) cItem_len (rowOf_le hle3 (hr (List.ne_nil_of_length_pos (by omega)))) hi
    have hdrop : cs.drop n = cs[n] :: cs.drop (n + 1) := by rw [List.drop_eq_getElem_cons hi]
    rw [hdrop, chsM_cons] at hch
    refine ⟨⟨by omega, by omega⟩, ad, had, cs[n], hrd, ⟨rfl, rfl⟩, rfl, (changed_ok hT3 hF3 (hK.le hle3)).mono ?_⟩
    rintro v h4 ⟨hle4, q, rfl, hq⟩
    refine ⟨q, _, rfl, fun he => ?_, fun he => ?_⟩
    · have he : ¬ (chM u cs[n]).2 = 0 := by simpa using he
      have hch' := hch
      rw [if_neg he] at hch
      rw [hch, if_neg he] at hR
      subst hR
      exact ⟨rfl, isV_le (Heap.le_trans hle3 hle4) hV0, Heap.le_leV (Heap.le_trans hle3 hle4) _, hF, hsz⟩
    · have he : (chM u cs[n]).2 = 0 := by simpa using he
      rw [if_pos he] at hch
      obtain ⟨w, hw, hws⟩ := chM_size hF3 hs3 he
      rw [hw] at hch
      obtain ⟨hTw, hFw⟩ := isT_fits hq hw
      exact ⟨⟨by omega, by omega, Heap.le_trans hle3 hle4, w, hTw, hFw, hws, hch⟩, by show cs.length - (n + 1) < cs.length - n; omega⟩
  · have hi : n = cs.length := by simp at hge; omega
    subst hi
    rw [List.drop_of_length_le (Nat.le_refl _)] at hch
    have hch : chsM V.t cs = (u, 0) := hch
    rw [hch, if_pos rfl] at hR
    have ha3 := hle3 _ _ ha
    refine ⟨_, rfl, _, wr_of ha3 (by show 2 < 5; decide) _, _, rfl, _, wr_of (Heap.set_same _ _ _) (by show 3 < 5; decide) _, _, rfl, sp, ?_, ?_⟩
    · rw [add_zero', rd_of (Heap.set_same _ _ _)]; rfl
    rw [Heap.set_set]
    show Spec _ _ _ (h3.set a (vO sp rm p height V.below)) _
    have hle5 : leV (vX a rm mb) h3 (h3.set a (vO sp rm p height V.below)) := leV_set ha3 (.vers ..) (.inl rfl)
    obtain ⟨es0, k0, hmb3⟩ := isS_map (isS_le hle3 hS)
    have hamb : a ≠ mb := by rintro rfl; rw [ha3] at hmb3; cases hmb3
    obtain ⟨es1, k1, hrm3, hes1⟩ := mapIs_le hle3 hm
    have harm : a ≠ rm := by rintro rfl; rw [ha3] at hrm3; cases hrm3
    have hS5 := isS_leV hle5 (Heap.set_other _ _ (Ne.symm hamb)) (isS_le hle3 hS)
    have hT5 := isT_leV hle5 hT3
    refine (save_ok hT5 hF3 (by omega) hS5 (KH.leV hle5 (hK.le hle3))).mono ?_
    rintro v h7 ⟨rfl, hS7, hB7⟩
    refine ⟨_, rfl, _, rfl, some rm, ?_, ?_⟩
    · rw [rd_of (hB7 _ _ hamb (Heap.set_same _ _ _))]; rfl
    intro b2 cap l1 hb2 hcap hl1 hz
    have hle8 := Heap.le_set (h := h7) (Obj.cells ⟨u.sum.map byteV ++ l1⟩ 5 (u.sum.length + l1.length, u.sum.length + l1.length + 1)) hb2
    have ha7 := hB7 _ _ hamb (Heap.set_same _ _ _)
    have hrm7 := hB7 _ _ hrm (by rw [Heap.set_other _ _ (Ne.symm harm)]; exact hrm3)
    have hle7 : leV (vX a rm mb) h h7 := (Heap.le_leV hle3 _).trans (hle5.trans (leB_leV hB7 (isS_map hS5) (isS_map hS7) (.inr (.inr rfl))))
    refine ⟨rm, kvs, rfl, ⟨es1, k1, hle8 _ _ hrm7, hes1⟩, ⟨some ⟨b2, 0, none⟩, u.sum.length, cap⟩, rfl, fun x clock hx => ?_⟩
    have hle9 : leV (vX a rm mb) _ _ := map_set_leV (X := vX a rm mb) (es := x) (c := clock) ⟨_, _, hle8 _ _ hrm7⟩ (.inr (.inl rfl))
    have hle89 := (Heap.le_leV hle8 (vX a rm mb)).trans hle9
    subst hR
    refine ⟨rfl, ⟨sp, p, kPut (.int .i64) kvs height ⟨some ⟨b2, 0, none⟩, u.sum.length, cap⟩, ?_, mapIs_set hx, ?_, ?_, ?_, hrm⟩, hle7.trans hle89, hF3, hs3⟩
    · rw [Heap.set_other _ _ harm]
      exact hle8 _ _ ha7
    · refine rows2_put (kt := .int .i64) hcap ?_ (rows2_leV (hle7.trans hle89) hrw)
      show rdn _ _ _ = _
      have hrb : b2 ≠ rm := by rintro rfl; rw [hb2] at hrm7; cases hrm7
      unfold rdn
      dsimp only
      rw [Heap.set_other _ _ hrb, Heap.set_same]
      simp
    · exact isS_leV hle89 (by rw [Heap.set_other _ _ (Ne.symm hrm)]; obtain ⟨es9, k9, hmb7⟩ := isS_map hS7; rw [hmb7]; exact hle8 _ _ hmb7) hS7
    · exact isT_leV ((leB_leV hB7 (isS_map hS5) (isS_map hS7) (.inr (.inr rfl))).trans hle89) hT5
end Go.Vw
