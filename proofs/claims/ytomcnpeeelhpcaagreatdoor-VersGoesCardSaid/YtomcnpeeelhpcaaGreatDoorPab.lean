/-
  Knowledge of memory: what is read and written of blocks that are known; contracts that forget what was made. Conditions of functions, printed by a tool of mine (vcs.py). What the functions of 'code' come to. Tries, as plain data: what putting, deleting and reading come to; that what is put together stays in its form. No program in sight, but for the struct of a node.
-/
import Derived.Test.YtomcnpeeelhpcaaGreatDoorPaa
import Derived.Test.YtomcnpeeelhpcaaGreatDoorVwBase0
namespace Go.Vw
open Go Go.Proofs

/-- What is not told of is forgotten. -/
theorem Spec.weak {P : Program} {f : FuncId} {args : List Value} {h : Heap} {Q R : Value → Heap → Prop} (hs : Spec P f args h Q) (hq : ∀ v h', Q v h' → ∃ g, Heap.le g h' ∧ R v g) : Spec P f args h R := by
  intro hw hok w hrel
  refine Calls.mono (hs hw hok w hrel) ?_
  rintro e w' ⟨v, h', rfl, hr', hw', hv, fr, hQ⟩
  obtain ⟨g, hle, hR⟩ := hq v h' hQ
  refine ⟨v, g, rfl, fun b o hb => hr' b o (hle b o hb), fun b es k hb => hw' b es k (hle _ _ hb), hv, ⟨fr.os, fr.tape, fr.output, fr.size, fun b hb hn => ⟨?_, (fr.old b hb hn).2⟩⟩, hR⟩
  cases hg : g b with
  | none => rfl
  | some o => have := hle b o hg; rw [(fr.old b hb hn).1] at this; cases this
/-- What is known of a call's values and of memory may be used. -/
theorem Spec.pre {P : Program} {f : FuncId} {args : List Value} {h : Heap} {Q : Value → Heap → Prop} (hs : HW h → Spec P f args h Q) : Spec P f args h Q :=
  fun hw hok w hrel => hs hw hw hok w hrel

theorem Heap.set_set (h : Heap) (b : Nat) (o o' : Obj) : (h.set b o).set b o' = h.set b o' := by
  funext c; unfold Heap.set; split <;> rfl
theorem Heap.set_self {h : Heap} {b : Nat} {o : Obj} (hb : h b = some o) : h.set b o = h := by
  funext c; unfold Heap.set; split
  · rename_i e; rw [e, hb]
  · rfl
theorem Heap.le_set_set {h h' : Heap} {b : Nat} {o : Obj} (hl : h.le h') : (h.set b o).le (h'.set b o) := by
  intro c x hc
  unfold Heap.set at *
  split at hc
  · rename_i e; rw [if_pos e]; exact hc
  · rename_i e; rw [if_neg e]; exact hl _ _ hc
theorem Heap.ne_of {h : Heap} {b c : Nat} {o : Obj} (hb : h b = none) (hc : h c = some o) : c ≠ b := by
  rintro rfl; rw [hb] at hc; cases hc
theorem Heap.none_of {h h' : Heap} (hl : h.le h') {b : Nat} (hb : h' b = none) : h b = none := by
  cases hh : h b with
  | none => rfl
  | some o => have := hl b o hh; rw [hb] at this; cases this

theorem rd_of {h : Heap} {b k : Nat} {l : List Value} {e : TypeId} {fr : Nat × Nat} (hb : h b = some (.cells ⟨l⟩ e fr)) : rd h ⟨b, k, none⟩ = l[k]? := by
  unfold rd; simp [hb]
theorem rdn_of {h : Heap} {b k n : Nat} {l : List Value} {e : TypeId} {fr : Nat × Nat} (hb : h b = some (.cells ⟨l⟩ e fr)) (hn : k + n ≤ l.length) : rdn h ⟨b, k, none⟩ n = some ((l.drop k).take n) := by
  unfold rdn; simp [hb]; omega
theorem rdn_all {h : Heap} {b n : Nat} {l : List Value} {e : TypeId} {fr : Nat × Nat} (hb : h b = some (.cells ⟨l⟩ e fr)) (hn : n = l.length) : rdn h ⟨b, 0, none⟩ n = some l := by
  rw [rdn_of hb (by omega)]; simp [hn]
theorem wr_of {h : Heap} {b k : Nat} {l : List Value} {e : TypeId} (hb : h b = some (.cells ⟨l⟩ e (0, 0))) (hk : k < l.length) (v : Value) :
    wr h ⟨b, k, none⟩ [v] = some (h.set b (.cells ⟨l.set k v⟩ e (0, 0))) := by
  unfold wr
  simp only [hb]
  have : k + 1 ≤ l.length := hk
  simp [splice, this, List.set_eq_take_append_cons_drop, hk]
theorem rd_le {h g : Heap} (hl : h.le g) {a : Addr} {v : Value} (hv : rd h a = some v) : rd g a = some v := by
  unfold rd at *
  split at hv
  · rename_i c e fr hb
    rw [hl _ _ hb]; exact hv
  · cases hv
theorem rdn_le {h g : Heap} (hl : h.le g) {a : Addr} {n : Nat} {v : List Value} (hv : rdn h a n = some v) : rdn g a n = some v := by
  unfold rdn at *
  split at hv
  · rename_i c e fr hb
    rw [hl _ _ hb]; exact hv
  · cases hv
theorem rowOf_le {h g : Heap} (hl : h.le g) {a : Option Addr} {n : Nat} {v : List Value} (hv : rowOf h a n = some v) : rowOf g a n = some v := by
  cases a with
  | none => exact hv
  | some a => exact rdn_le hl hv
theorem add_zero' (b o : Nat) : Addr.add ⟨b, o, none⟩ 0 = ⟨b, o, none⟩ := by rw [add_mk]; rfl
end Go.Vw
namespace Go.Vw
open Go Go.Proofs

/- pharos/code.num -/
def an204 : An := (.nd none [] [] .leaf (.nd none [] [] .leaf (.nd none [] [] .leaf (.nd none [] [] (.nd none [] [] (.nd none [.slot 0 (.int .i64), .slot 4 (.int .i64), .loc 0 (.st (List Int) ((fun l => l.map (fun (x : Int) => (.int .u8 x : Value)))) 0)] [] .leaf .leaf) .leaf) (.nd none [] [] (.nd none [] [0, 1, 2, 5, 6, 7, 3, 4, 8, 9] .leaf .leaf) .leaf)))))
def VC204 (n : Int) (h : Heap) (Q : Value → Heap → Prop) : Prop :=
 (∃ k : (Int → (Int → ((List Int) → (Heap → (Prod Prop Nat))))),
 ((∃ l : (List Int),
 (((List.replicate 8 (Value.int IntKind.u8 (0 : Int))) = (List.map (fun (n1 : Int) => (Value.int IntKind.u8 n1)) l)) ∧
  ((k n (8 : Int) l h)).fst)) ∧
 (∀ n2 : Int,
 (∀ n3 : Int,
  (∀ l1 : (List Int),
  (∀ h1 : Heap,
  (((k n2 n3 l1 h1)).fst →
  ((((decide (n2 > (0 : Int))) = Bool.true) →
   ((((0 : Int) ≤ (IntKind.wrap IntKind.i64 (n3 - (1 : Int)))) ∧
   ((IntKind.wrap IntKind.i64 (n3 - (1 : Int))) < (8 : Int))) ∧
   (((0 + ((Int.toNat (IntKind.wrap IntKind.i64 (n3 - (1 : Int)))) * (1 : Nat))) < (List.length (List.map (fun (n4 : Int) => (Value.int IntKind.u8 n4)) l1))) ∧
   (∃ l2 : (List Int),
    (((List.set (List.map (fun (n5 : Int) => (Value.int IntKind.u8 n5)) l1) (0 + ((Int.toNat (IntKind.wrap IntKind.i64 (n3 - (1 : Int)))) * (1 : Nat))) (Value.int IntKind.u8 (IntKind.wrap IntKind.u8 n2))) = (List.map (fun (n6 : Int) => (Value.int IntKind.u8 n6)) l2)) ∧
    (((k (Int.fdiv n2 (256 : Int)) (IntKind.wrap IntKind.i64 (n3 - (1 : Int))) l2 h1)).fst ∧
    (((k (Int.fdiv n2 (256 : Int)) (IntKind.wrap IntKind.i64 (n3 - (1 : Int))) l2 h1)).snd < ((k n2 n3 l1 h1)).snd))))))) ∧
   (((decide (n2 > (0 : Int))) = Bool.false) →
   (∀ b : Nat,
   (((h1 b) = Option.none) →
   (((0 : Int) ≤ n3) ∧
    ((((Int.toNat n3) ≤ 8) ∧
    ((8 ≤ 8) ∧
    (8 ≤ 8))) ∧
    (((Bool.false = Bool.true) →
    (Bool.false = Bool.true)) ∧
    (∃ l3 : (List UInt8),
    (((rdn (Heap.set h1 b (Obj.cells ⟨(List.map (fun (n7 : Int) => (Value.int IntKind.u8 n7)) l1)⟩ 379 (Prod.mk 0 0))) (if (8 = (Int.toNat n3)) then (Addr.mk b 0 Option.none) else (Addr.add (Addr.mk b 0 Option.none) ((Int.toNat n3) * (1 : Nat)))) (8 - (Int.toNat n3))) = (Option.some (List.map byteV l3))) ∧
     (((rdn (Heap.set h1 b (Obj.cells ⟨(List.map (fun (n8 : Int) => (Value.int IntKind.u8 n8)) l1)⟩ 379 (Prod.mk 0 0))) (if (8 = (Int.toNat n3)) then (Addr.mk b 0 Option.none) else (Addr.add (Addr.mk b 0 Option.none) ((Int.toNat n3) * (1 : Nat)))) (8 - (Int.toNat n3))) = (rdn (Heap.set h1 b (Obj.cells ⟨(List.map (fun (n9 : Int) => (Value.int IntKind.u8 n9)) l1)⟩ 379 (Prod.mk 0 0))) (if (8 = (Int.toNat n3)) then (Addr.mk b 0 Option.none) else (Addr.add (Addr.mk b 0 Option.none) ((Int.toNat n3) * (1 : Nat)))) (8 - (Int.toNat n3)))) ∧
     (∃ l4 : (List UInt8),
     (((Option.some [(Value.int IntKind.u8 (IntKind.wrap IntKind.u8 (IntKind.wrap IntKind.i64 ((8 : Int) - n3))))]) = (Option.some (List.map byteV l4))) ∧
     ((((List.length l4) + (List.length l3)) ≤ 9223372036854775807) ∧
      (Q (S (l4 ++ l3)) (Heap.set h1 b (Obj.cells ⟨(List.map (fun (n10 : Int) => (Value.int IntKind.u8 n10)) l1)⟩ 379 (Prod.mk 0 0))))))))))))))))))))))))
theorem vc204 (n : Int) (h : Heap) (Q : Value → Heap → Prop) : evF Tryz.prog τ tok 204 an204 [.int .i64 n] h Q = VC204 n h Q := by kernel_rfl
theorem ok204 {n : Int} {h : Heap} {Q : Value → Heap → Prop} (hv : VC204 n h Q) : Spec Tryz.prog 204 [.int .i64 n] h Q := evF_sound (P := Tryz.prog) (τ := τ) (ok := tok) (an := an204) (fun _ => drawn mixed) (by rw [vc204]; exact hv)

/- pharos/code.Text -/
def an194 : An := .leaf
def VC194 (s : List UInt8) (h : Heap) (Q : Value → Heap → Prop) : Prop :=
 (Spec Tryz.prog 204 [(Value.int IntKind.i64 (((List.length s) : Nat) : Int))] h (fun v h1 =>
 (∃ l : (List UInt8),
 ((v = (S l)) ∧
 ((((List.length l) + (List.length s)) ≤ 9223372036854775807) ∧
  (Q (S (l ++ s)) h1))))))
theorem vc194 (s : List UInt8) (h : Heap) (Q : Value → Heap → Prop) : evF Tryz.prog τ tok 194 an194 [S s] h Q = VC194 s h Q := by kernel_rfl
theorem ok194 {s : List UInt8} {h : Heap} {Q : Value → Heap → Prop} (hv : VC194 s h Q) : Spec Tryz.prog 194 [S s] h Q := evF_sound (P := Tryz.prog) (τ := τ) (ok := tok) (an := an194) (fun _ => drawn mixed) (by rw [vc194]; exact hv)

/- pharos/code.Read -/
def an183 : An := .leaf
def VC183 (s : List UInt8) (h : Heap) (Q : Value → Heap → Prop) : Prop :=
 (∀ b : Nat,
 (((h b) = Option.none) →
 (Q (Value.pointer (Option.some (Addr.mk b 0 Option.none))) (Heap.set h b (Obj.cells ⟨[(S s), (Value.int IntKind.i64 (0 : Int)), (Value.int IntKind.i64 (0 : Int))]⟩ 368 (Prod.mk 0 0))))))
theorem vc183 (s : List UInt8) (h : Heap) (Q : Value → Heap → Prop) : evF Tryz.prog τ tok 183 an183 [S s] h Q = VC183 s h Q := by kernel_rfl
theorem ok183 {s : List UInt8} {h : Heap} {Q : Value → Heap → Prop} (hv : VC183 s h Q) : Spec Tryz.prog 183 [S s] h Q := evF_sound (P := Tryz.prog) (τ := τ) (ok := tok) (an := an183) (fun _ => drawn mixed) (by rw [vc183]; exact hv)

/- (*pharos/code.Reader).End -/
def an185 : An := (.nd none [] [] .leaf (.nd none [] [] (.nd none [] [] .leaf (.nd (some []) [] [] .leaf .leaf)) .leaf))
def VC185 (r : Option Addr) (h : Heap) (Q : Value → Heap → Prop) : Prop :=
 (Spec Tryz.prog 275 [(Value.pointer r)] h (fun v h1 =>
 (∃ n : Int,
 ((v = (Value.int IntKind.i64 n)) ∧
 (∀ J : (Heap → Prop),
  (((∀ h2 : Heap,
  ((∃ ad : Addr, ((r = (Option.some ad)) ∧ (∃ n1 : Int, (((rd h2 (Addr.mk (ad).block ((ad).off + 2) Option.none)) = (Option.some (Value.int IntKind.i64 n1))) ∧ (Q (Value.int IntKind.i64 n1) h2))))) →
  (J h2)))) →
  ((((decide (n > (0 : Int))) = Bool.true) →
  (∃ ad1 : Addr,
   ((r = (Option.some ad1)) ∧
   (∃ n2 : Int,
   (((rd h1 (Addr.mk (ad1).block ((ad1).off + 1) Option.none)) = (Option.some (Value.int IntKind.i64 n2))) ∧
   (Spec Tryz.prog 274 [(Value.pointer r), (Value.int IntKind.i64 n2), (Value.int IntKind.i64 (3 : Int))] h1 (fun v1 h3 =>
    ((v1 = (Value.tuple ⟨[]⟩)) ∧
    (J h3))))))))) ∧
  (((decide (n > (0 : Int))) = Bool.false) →
  (J h1)))))))))
theorem vc185 (r : Option Addr) (h : Heap) (Q : Value → Heap → Prop) : evF Tryz.prog τ tok 185 an185 [.pointer r] h Q = VC185 r h Q := by kernel_rfl
theorem ok185 {r : Option Addr} {h : Heap} {Q : Value → Heap → Prop} (hv : VC185 r h Q) : Spec Tryz.prog 185 [.pointer r] h Q := evF_sound (P := Tryz.prog) (τ := τ) (ok := tok) (an := an185) (fun _ => drawn mixed) (by rw [vc185]; exact hv)

/- (*pharos/code.Reader).Text -/
def an271 : An := .leaf
def VC271 (r : Option Addr) (most : Int) (h : Heap) (Q : Value → Heap → Prop) : Prop :=
 (∃ ad : Addr,
 ((r = (Option.some ad)) ∧
 (∃ n : Int,
 (((rd h (Addr.mk (ad).block ((ad).off + 1) Option.none)) = (Option.some (Value.int IntKind.i64 n))) ∧
  (Spec Tryz.prog 341 [(Value.pointer r), (Value.int IntKind.i64 most)] h (fun v h1 =>
  (∃ l : (List UInt8),
  (∃ n1 : Int,
  ((v = (Value.tuple ⟨[(S l), (Value.int IntKind.i64 n1)]⟩)) ∧
   ((((n1 != (0 : Int)) = Bool.true) →
   (Spec Tryz.prog 274 [(Value.pointer r), (Value.int IntKind.i64 n), (Value.int IntKind.i64 n1)] h1 (fun v1 h2 =>
   ((v1 = (Value.tuple ⟨[]⟩)) ∧
    (Q (S []) h2))))) ∧
   (((n1 != (0 : Int)) = Bool.false) →
   (Q (S l) h1))))))))))))
theorem vc271 (r : Option Addr) (most : Int) (h : Heap) (Q : Value → Heap → Prop) : evF Tryz.prog τ tok 271 an271 [.pointer r, .int .i64 most] h Q = VC271 r most h Q := by kernel_rfl
theorem ok271 {r : Option Addr} {most : Int} {h : Heap} {Q : Value → Heap → Prop} (hv : VC271 r most h Q) : Spec Tryz.prog 271 [.pointer r, .int .i64 most] h Q := evF_sound (P := Tryz.prog) (τ := τ) (ok := tok) (an := an271) (fun _ => drawn mixed) (by rw [vc271]; exact hv)

/- (*pharos/code.Reader).number -/
def an273 : An := (.nd none [] [] .leaf (.nd none [] [] (.nd none [] [] .leaf (.nd none [] [] (.nd none [] [] (.nd none [] [0, 1, 2, 3, 4, 5] .leaf .leaf) .leaf) .leaf)) (.nd none [] [] .leaf (.nd none [] [] .leaf (.nd none [] [] .leaf (.nd none [] [] .leaf (.nd none [] [] .leaf (.nd none [] [] (.nd none [] [] (.nd (some [.slot 55 .bool]) [] [] .leaf .leaf) .leaf) (.nd none [] [] .leaf (.nd none [] [] (.nd none [] [] .leaf (.nd none [] [] (.nd none [.slot 7 (.int .i64), .slot 58 (.int .i64)] [] .leaf .leaf) .leaf)) .leaf))))))))))
def VC273 (r : Option Addr) (h : Heap) (Q : Value → Heap → Prop) : Prop :=
 (∃ ad : Addr,
 ((r = (Option.some ad)) ∧
 (∃ n : Int,
 (((rd h (Addr.mk (ad).block ((ad).off + 2) Option.none)) = (Option.some (Value.int IntKind.i64 n))) ∧
  ((((n != (0 : Int)) = Bool.true) →
  (∃ ad1 : Addr,
  ((r = (Option.some ad1)) ∧
   (∃ n1 : Int,
   (((rd h (Addr.mk (ad1).block ((ad1).off + 2) Option.none)) = (Option.some (Value.int IntKind.i64 n1))) ∧
   (Q (Value.tuple ⟨[(Value.int IntKind.i64 (0 : Int)), (Value.int IntKind.i64 n1)]⟩) h)))))) ∧
  (((n != (0 : Int)) = Bool.false) →
  (Spec Tryz.prog 342 [(Value.pointer r), (Value.int IntKind.i64 (1 : Int))] h (fun v h1 =>
  (∃ l : (List UInt8),
   (∃ b : Bool,
   ((v = (Value.tuple ⟨[(S l), (Value.bool b)]⟩)) ∧
   ((((!b) = Bool.true) →
    (Q (Value.tuple ⟨[(Value.int IntKind.i64 (0 : Int)), (Value.int IntKind.i64 (20 : Int))]⟩) h1)) ∧
   (((!b) = Bool.false) →
    (∃ ui : UInt8,
    (((0 : Int) ≤ (0 : Int)) ∧
    (((l)[0]? = (Option.some ui)) ∧
    ((((decide ((((UInt8.toNat ui) : Nat) : Int) > (8 : Int))) = Bool.true) →
     (Q (Value.tuple ⟨[(Value.int IntKind.i64 (0 : Int)), (Value.int IntKind.i64 (3 : Int))]⟩) h1)) ∧
     (((decide ((((UInt8.toNat ui) : Nat) : Int) > (8 : Int))) = Bool.false) →
     (∃ ui1 : UInt8,
     (((0 : Int) ≤ (0 : Int)) ∧
     (((l)[0]? = (Option.some ui1)) ∧
      (Spec Tryz.prog 342 [(Value.pointer r), (Value.int IntKind.i64 (IntKind.wrap IntKind.i64 (((UInt8.toNat ui1) : Nat) : Int)))] h1 (fun v1 h2 =>
      (∃ l1 : (List UInt8),
      (∃ b1 : Bool,
      ((v1 = (Value.tuple ⟨[(S l1), (Value.bool b1)]⟩)) ∧
       ((((!b1) = Bool.true) →
       (Q (Value.tuple ⟨[(Value.int IntKind.i64 (0 : Int)), (Value.int IntKind.i64 (20 : Int))]⟩) h2)) ∧
       (((!b1) = Bool.false) →
       (∀ J : (Bool → (Heap → Prop)),
       (((∀ b2 : Bool,
        (∀ h3 : Heap,
        (((((b2 = Bool.true) →
         (Q (Value.tuple ⟨[(Value.int IntKind.i64 (0 : Int)), (Value.int IntKind.i64 (3 : Int))]⟩) h3)) ∧
         ((b2 = Bool.false) →
         (∃ k : (Int → (Int → (Heap → (Prod Prop Nat)))),
         (((k (0 : Int) (0 : Int) h3)).fst ∧
         (∀ n2 : Int,
         (∀ n3 : Int,
         (∀ h4 : Heap,
         (((k n2 n3 h4)).fst →
         ((((decide (n3 < (((List.length l1) : Nat) : Int))) = Bool.true) →
         (∃ ui2 : UInt8,
         (((0 : Int) ≤ n3) ∧
         (((l1)[(Int.toNat n3)]? = (Option.some ui2)) ∧
         (((k (bitsV BinOp.or IntKind.i64 (IntKind.wrap IntKind.i64 (n2 * (256 : Int))) (IntKind.wrap IntKind.i64 (((UInt8.toNat ui2) : Nat) : Int))) (IntKind.wrap IntKind.i64 (n3 + (1 : Int))) h4)).fst ∧
         (((k (bitsV BinOp.or IntKind.i64 (IntKind.wrap IntKind.i64 (n2 * (256 : Int))) (IntKind.wrap IntKind.i64 (((UInt8.toNat ui2) : Nat) : Int))) (IntKind.wrap IntKind.i64 (n3 + (1 : Int))) h4)).snd < ((k n2 n3 h4)).snd)))))) ∧
         (((decide (n3 < (((List.length l1) : Nat) : Int))) = Bool.false) →
         (Q (Value.tuple ⟨[(Value.int IntKind.i64 n2), (Value.int IntKind.i64 (0 : Int))]⟩) h4)))))))))))) →
        (J b2 h3))))) →
        ((((decide ((((List.length l1) : Nat) : Int) > (0 : Int))) = Bool.true) →
        (∃ ui3 : UInt8,
        (((0 : Int) ≤ (0 : Int)) ∧
         (((l1)[0]? = (Option.some ui3)) ∧
         (((((((UInt8.toNat ui3) : Nat) : Int) == (0 : Int)) = Bool.false) →
         (((((((List.length l1) : Nat) : Int) == (8 : Int)) = Bool.true) →
         (∃ ui4 : UInt8,
         (((0 : Int) ≤ (0 : Int)) ∧
         (((l1)[0]? = (Option.some ui4)) ∧
         (J (decide ((((UInt8.toNat ui4) : Nat) : Int) ≥ (128 : Int))) h2))))) ∧
         ((((((List.length l1) : Nat) : Int) == (8 : Int)) = Bool.false) →
         (J Bool.false h2)))) ∧
         ((((((UInt8.toNat ui3) : Nat) : Int) == (0 : Int)) = Bool.true) →
         (J Bool.true h2))))))) ∧
        (((decide ((((List.length l1) : Nat) : Int) > (0 : Int))) = Bool.false) →
        (((((((List.length l1) : Nat) : Int) == (8 : Int)) = Bool.true) →
         (∃ ui5 : UInt8,
         (((0 : Int) ≤ (0 : Int)) ∧
         (((l1)[0]? = (Option.some ui5)) ∧
         (J (decide ((((UInt8.toNat ui5) : Nat) : Int) ≥ (128 : Int))) h2))))) ∧
        ((((((List.length l1) : Nat) : Int) == (8 : Int)) = Bool.false) →
         (J Bool.false h2)))))))))))))))))))))))))))))))))))
theorem vc273 (r : Option Addr) (h : Heap) (Q : Value → Heap → Prop) : evF Tryz.prog τ tok 273 an273 [.pointer r] h Q = VC273 r h Q := by kernel_rfl
theorem ok273 {r : Option Addr} {h : Heap} {Q : Value → Heap → Prop} (hv : VC273 r h Q) : Spec Tryz.prog 273 [.pointer r] h Q := evF_sound (P := Tryz.prog) (τ := τ) (ok := tok) (an := an273) (fun _ => drawn mixed) (by rw [vc273]; exact hv)

/- (*pharos/code.Reader).refused -/
def an274 : An := .leaf
def VC274 (r : Option Addr) (from_ : Int) (e : Int) (h : Heap) (Q : Value → Heap → Prop) : Prop :=
 (∃ ad : Addr,
 ((r = (Option.some ad)) ∧
 (∃ n : Int,
 (((rd h (Addr.mk (ad).block ((ad).off + 2) Option.none)) = (Option.some (Value.int IntKind.i64 n))) ∧
  ((((n == (0 : Int)) = Bool.true) →
  (∃ ad1 : Addr,
  ((r = (Option.some ad1)) ∧
   (∃ h1 : Heap,
   (((wr h (Addr.mk (ad1).block ((ad1).off + 1) Option.none) [(Value.int IntKind.i64 from_)]) = (Option.some h1)) ∧
   (∃ ad2 : Addr,
   ((r = (Option.some ad2)) ∧
    (∃ h2 : Heap,
    (((wr h1 (Addr.mk (ad2).block ((ad2).off + 2) Option.none) [(Value.int IntKind.i64 e)]) = (Option.some h2)) ∧
    (Q (Value.tuple ⟨[]⟩) h2)))))))))) ∧
  (((n == (0 : Int)) = Bool.false) →
  (Q (Value.tuple ⟨[]⟩) h)))))))
theorem vc274 (r : Option Addr) (from_ : Int) (e : Int) (h : Heap) (Q : Value → Heap → Prop) : evF Tryz.prog τ tok 274 an274 [.pointer r, .int .i64 from_, .int .i64 e] h Q = VC274 r from_ e h Q := by kernel_rfl
theorem ok274 {r : Option Addr} {from_ : Int} {e : Int} {h : Heap} {Q : Value → Heap → Prop} (hv : VC274 r from_ e h Q) : Spec Tryz.prog 274 [.pointer r, .int .i64 from_, .int .i64 e] h Q := evF_sound (P := Tryz.prog) (τ := τ) (ok := tok) (an := an274) (fun _ => drawn mixed) (by rw [vc274]; exact hv)

/- (*pharos/code.Reader).Left -/
def an275 : An := (.nd none [] [] .leaf (.nd none [] [] (.nd none [] [0, 1, 2, 3, 4, 5, 6, 7, 8, 9, 10] .leaf .leaf) .leaf))
def VC275 (r : Option Addr) (h : Heap) (Q : Value → Heap → Prop) : Prop :=
 (∃ ad : Addr,
 ((r = (Option.some ad)) ∧
 (∃ l : (List UInt8),
 (((rd h (Addr.add ad 0)) = (Option.some (S l))) ∧
  (∃ ad1 : Addr,
  ((r = (Option.some ad1)) ∧
  (∃ n : Int,
  (((rd h (Addr.mk (ad1).block ((ad1).off + 1) Option.none)) = (Option.some (Value.int IntKind.i64 n))) ∧
   (Q (Value.int IntKind.i64 (IntKind.wrap IntKind.i64 ((((List.length l) : Nat) : Int) - n))) h)))))))))
theorem vc275 (r : Option Addr) (h : Heap) (Q : Value → Heap → Prop) : evF Tryz.prog τ tok 275 an275 [.pointer r] h Q = VC275 r h Q := by kernel_rfl
theorem ok275 {r : Option Addr} {h : Heap} {Q : Value → Heap → Prop} (hv : VC275 r h Q) : Spec Tryz.prog 275 [.pointer r] h Q := evF_sound (P := Tryz.prog) (τ := τ) (ok := tok) (an := an275) (fun _ => drawn mixed) (by rw [vc275]; exact hv)

/- (*pharos/code.Reader).Bytes -/
def an337 : An := (.nd none [] [] .leaf (.nd none [] [] .leaf (.nd none [] [] .leaf (.nd none [] [] .leaf (.nd none [] [] (.nd none [] [] .leaf (.nd (some []) [] [] .leaf .leaf)) .leaf)))))
def VC337 (r : Option Addr) (n : Int) (h : Heap) (Q : Value → Heap → Prop) : Prop :=
 (∃ ad : Addr,
 ((r = (Option.some ad)) ∧
 (∃ n1 : Int,
 (((rd h (Addr.mk (ad).block ((ad).off + 2) Option.none)) = (Option.some (Value.int IntKind.i64 n1))) ∧
  ((((n1 != (0 : Int)) = Bool.true) →
  (Q (S []) h)) ∧
  (((n1 != (0 : Int)) = Bool.false) →
  ((((decide (n < (0 : Int))) = Bool.true) →
   (∃ ad1 : Addr,
   ((r = (Option.some ad1)) ∧
   (∃ n2 : Int,
   (((rd h (Addr.mk (ad1).block ((ad1).off + 1) Option.none)) = (Option.some (Value.int IntKind.i64 n2))) ∧
    (Spec Tryz.prog 274 [(Value.pointer r), (Value.int IntKind.i64 n2), (Value.int IntKind.i64 (1 : Int))] h (fun v h1 =>
    ((v = (Value.tuple ⟨[]⟩)) ∧
    (Q (S []) h1))))))))) ∧
  (((decide (n < (0 : Int))) = Bool.false) →
   (Spec Tryz.prog 342 [(Value.pointer r), (Value.int IntKind.i64 n)] h (fun v1 h2 =>
   (∃ l : (List UInt8),
   (∃ b : Bool,
   ((v1 = (Value.tuple ⟨[(S l), (Value.bool b)]⟩)) ∧
    (∀ J : (Heap → Prop),
    (((∀ h3 : Heap,
    ((Q (S l) h3) →
     (J h3)))) →
    ((((!b) = Bool.true) →
     (∃ ad2 : Addr,
     ((r = (Option.some ad2)) ∧
     (∃ n3 : Int,
     (((rd h2 (Addr.mk (ad2).block ((ad2).off + 1) Option.none)) = (Option.some (Value.int IntKind.i64 n3))) ∧
      (Spec Tryz.prog 274 [(Value.pointer r), (Value.int IntKind.i64 n3), (Value.int IntKind.i64 (20 : Int))] h2 (fun v2 h4 =>
      ((v2 = (Value.tuple ⟨[]⟩)) ∧
      (J h4))))))))) ∧
    (((!b) = Bool.false) →
     (J h2))))))))))))))))))
theorem vc337 (r : Option Addr) (n : Int) (h : Heap) (Q : Value → Heap → Prop) : evF Tryz.prog τ tok 337 an337 [.pointer r, .int .i64 n] h Q = VC337 r n h Q := by kernel_rfl
theorem ok337 {r : Option Addr} {n : Int} {h : Heap} {Q : Value → Heap → Prop} (hv : VC337 r n h Q) : Spec Tryz.prog 337 [.pointer r, .int .i64 n] h Q := evF_sound (P := Tryz.prog) (τ := τ) (ok := tok) (an := an337) (fun _ => drawn mixed) (by rw [vc337]; exact hv)

/- (*pharos/code.Reader).text -/
def an341 : An := .leaf
def VC341 (r : Option Addr) (most : Int) (h : Heap) (Q : Value → Heap → Prop) : Prop :=
 (Spec Tryz.prog 273 [(Value.pointer r)] h (fun v h1 =>
 (∃ n : Int,
 (∃ n1 : Int,
 ((v = (Value.tuple ⟨[(Value.int IntKind.i64 n), (Value.int IntKind.i64 n1)]⟩)) ∧
  ((((n1 != (0 : Int)) = Bool.true) →
  (Q (Value.tuple ⟨[(S []), (Value.int IntKind.i64 n1)]⟩) h1)) ∧
  (((n1 != (0 : Int)) = Bool.false) →
  ((((decide (n > most)) = Bool.true) →
   (Q (Value.tuple ⟨[(S []), (Value.int IntKind.i64 (2 : Int))]⟩) h1)) ∧
  (((decide (n > most)) = Bool.false) →
   (Spec Tryz.prog 342 [(Value.pointer r), (Value.int IntKind.i64 n)] h1 (fun v1 h2 =>
   (∃ l : (List UInt8),
   (∃ b : Bool,
   ((v1 = (Value.tuple ⟨[(S l), (Value.bool b)]⟩)) ∧
    ((((!b) = Bool.true) →
    (Q (Value.tuple ⟨[(S []), (Value.int IntKind.i64 (20 : Int))]⟩) h2)) ∧
    (((!b) = Bool.false) →
    (Q (Value.tuple ⟨[(S l), (Value.int IntKind.i64 (0 : Int))]⟩) h2)))))))))))))))))
theorem vc341 (r : Option Addr) (most : Int) (h : Heap) (Q : Value → Heap → Prop) : evF Tryz.prog τ tok 341 an341 [.pointer r, .int .i64 most] h Q = VC341 r most h Q := by kernel_rfl
theorem ok341 {r : Option Addr} {most : Int} {h : Heap} {Q : Value → Heap → Prop} (hv : VC341 r most h Q) : Spec Tryz.prog 341 [.pointer r, .int .i64 most] h Q := evF_sound (P := Tryz.prog) (τ := τ) (ok := tok) (an := an341) (fun _ => drawn mixed) (by rw [vc341]; exact hv)

/- (*pharos/code.Reader).take -/
def an342 : An := (.nd none [] [] .leaf (.nd none [] [] (.nd none [] [] (.nd none [] [0, 1, 2, 3, 4, 5, 6, 7, 8, 9, 10, 11] .leaf .leaf) .leaf) (.nd none [] [] (.nd none [] [0, 1, 2, 3, 4, 5, 6, 7, 8, 9, 10, 11, 12, 13, 14, 15] .leaf .leaf) .leaf)))
def VC342 (r : Option Addr) (n : Int) (h : Heap) (Q : Value → Heap → Prop) : Prop :=
 (∃ ad : Addr,
 ((r = (Option.some ad)) ∧
 (∃ l : (List UInt8),
 (((rd h (Addr.add ad 0)) = (Option.some (S l))) ∧
  (∃ ad1 : Addr,
  ((r = (Option.some ad1)) ∧
  (∃ n1 : Int,
  (((rd h (Addr.mk (ad1).block ((ad1).off + 1) Option.none)) = (Option.some (Value.int IntKind.i64 n1))) ∧
   ((((decide (n > (IntKind.wrap IntKind.i64 ((((List.length l) : Nat) : Int) - n1)))) = Bool.true) →
   (Q (Value.tuple ⟨[(S []), (Value.bool Bool.false)]⟩) h)) ∧
   (((decide (n > (IntKind.wrap IntKind.i64 ((((List.length l) : Nat) : Int) - n1)))) = Bool.false) →
   (∃ ad2 : Addr,
   ((r = (Option.some ad2)) ∧
    (∃ l1 : (List UInt8),
    (((rd h (Addr.add ad2 0)) = (Option.some (S l1))) ∧
    (∃ ad3 : Addr,
    ((r = (Option.some ad3)) ∧
     (∃ n2 : Int,
     (((rd h (Addr.mk (ad3).block ((ad3).off + 1) Option.none)) = (Option.some (Value.int IntKind.i64 n2))) ∧
     (∃ ad4 : Addr,
     ((r = (Option.some ad4)) ∧
      (∃ n3 : Int,
      (((rd h (Addr.mk (ad4).block ((ad4).off + 1) Option.none)) = (Option.some (Value.int IntKind.i64 n3))) ∧
      (((0 : Int) ≤ n2) ∧
      (((0 : Int) ≤ (IntKind.wrap IntKind.i64 (n3 + n))) ∧
       ((((Int.toNat n2) ≤ (Int.toNat (IntKind.wrap IntKind.i64 (n3 + n)))) ∧
       ((Int.toNat (IntKind.wrap IntKind.i64 (n3 + n))) ≤ (List.length l1))) ∧
       (∃ ad5 : Addr,
       ((r = (Option.some ad5)) ∧
       (∃ n4 : Int,
        (((rd h (Addr.mk (ad5).block ((ad5).off + 1) Option.none)) = (Option.some (Value.int IntKind.i64 n4))) ∧
        (∃ ad6 : Addr,
        ((r = (Option.some ad6)) ∧
        (∃ h1 : Heap,
         (((wr h (Addr.mk (ad6).block ((ad6).off + 1) Option.none) [(Value.int IntKind.i64 (IntKind.wrap IntKind.i64 (n4 + n)))]) = (Option.some h1)) ∧
         (Q (Value.tuple ⟨[(S (List.drop (Int.toNat n2) (List.take (Int.toNat (IntKind.wrap IntKind.i64 (n3 + n))) l1))), (Value.bool Bool.true)]⟩) h1))))))))))))))))))))))))))))))))))
theorem vc342 (r : Option Addr) (n : Int) (h : Heap) (Q : Value → Heap → Prop) : evF Tryz.prog τ tok 342 an342 [.pointer r, .int .i64 n] h Q = VC342 r n h Q := by kernel_rfl
theorem ok342 {r : Option Addr} {n : Int} {h : Heap} {Q : Value → Heap → Prop} (hv : VC342 r n h Q) : Spec Tryz.prog 342 [.pointer r, .int .i64 n] h Q := evF_sound (P := Tryz.prog) (τ := τ) (ok := tok) (an := an342) (fun _ => drawn mixed) (by rw [vc342]; exact hv)

end Go.Vw
namespace Go.Vw
open Go Go.Proofs

/-- A number's bytes, the greatest first, no zeros ahead. -/
def be (n : Nat) : List UInt8 :=
  if h : n = 0 then [] else be (n / 256) ++ [UInt8.ofNat n]
termination_by n
decreasing_by omega
theorem be_zero : be 0 = [] := by unfold be; simp
theorem be_pos {n : Nat} (h : n ≠ 0) : be n = be (n / 256) ++ [UInt8.ofNat n] := by
  conv => lhs; unfold be
  simp [h]
def numT (n : Nat) : List UInt8 := UInt8.ofNat (be n).length :: be n

theorem num_ok {n : Int} (h0 : 0 ≤ n) (h1 : n ≤ 9223372036854775807) {h : Heap} : Spec Tryz.prog 204 [.int .i64 n] h (fun v h' => h' = h ∧ v = S (numT n.toNat)) := by
  apply Spec.forget
  apply ok204
  unfold VC204
  refine ⟨fun m at_ l h1 => (h1 = h ∧ 0 ≤ m ∧ 0 ≤ at_ ∧ at_ ≤ 8 ∧ m.toNat < 256 ^ at_.toNat ∧ ∃ bs : List UInt8, l = List.replicate at_.toNat 0 ++ bs.map (fun c => (c.toNat : Int)) ∧ bs.length + at_.toNat = 8 ∧ be n.toNat = be m.toNat ++ bs, m.toNat), ?_, ?_⟩
  · refine ⟨List.replicate 8 0, by simp, rfl, h0, by omega, by omega, ?_, [], by simp, rfl, by simp⟩
    show n.toNat < 256 ^ 8
    omega
  · rintro m at_ l h1 ⟨rfl, hm, ha0, ha8, hlt, bs, hl, hbl, hbe⟩
    refine ⟨fun hpos => ?_, fun hz => ?_⟩
    · simp only [gt_iff_lt, decide_eq_true_eq] at hpos
      have hat : at_.toNat ≠ 0 := by
        intro e
        rw [e] at hlt
        simp at hlt
        omega
      have hw : IntKind.wrap .i64 (at_ - 1) = at_ - 1 := wrap64 (by omega) (by omega)
      have hw8 : IntKind.wrap .u8 m = m % 256 := by simp [IntKind.wrap, IntKind.signed, IntKind.bits]
      obtain ⟨k, hk⟩ : ∃ k, at_.toNat = k + 1 := ⟨at_.toNat - 1, by omega⟩
      have e1 : (at_ - 1).toNat = k := by omega
      have hll : l.length = 8 := by rw [hl]; simp; omega
      rw [hw, hw8]
      simp only [Nat.mul_one, Nat.zero_add]
      rw [e1]
      refine ⟨⟨by omega, by omega⟩, by simp [hll]; omega, List.replicate k 0 ++ (UInt8.ofNat m.toNat :: bs).map (fun c => (c.toNat : Int)), ?_, ⟨trivial, ?_, by omega, by omega, ?_, UInt8.ofNat m.toNat :: bs, rfl, by simp; omega, ?_⟩, ?_⟩
      · rw [hl, hk, List.replicate_succ', List.append_assoc, List.map_append]
        rw [List.set_append_right _ _ (by simp)]
        simp
        omega
      · exact Int.fdiv_nonneg hm (by omega)
      · rw [hk, Nat.pow_succ] at hlt
        rw [Int.fdiv_eq_ediv_of_nonneg _ (by omega)]
        have : (m / 256).toNat = m.toNat / 256 := by omega
        rw [this]
        exact (Nat.div_lt_iff_lt_mul (by omega)).2 hlt
      · rw [Int.fdiv_eq_ediv_of_nonneg _ (by omega)]
        have : (m / 256).toNat = m.toNat / 256 := by omega
        rw [this, hbe, be_pos (n := m.toNat) (by omega)]
        simp
      · show (Int.fdiv m 256).toNat < m.toNat
        rw [Int.fdiv_eq_ediv_of_nonneg _ (by omega)]
        omega
    · simp only [gt_iff_lt, decide_eq_false_iff_not] at hz
      have hm0 : m.toNat = 0 := by omega
      rw [hm0, be_zero, List.nil_append] at hbe
      intro b hb
      have hrow : rdn (Heap.set h1 b (Obj.cells ⟨(l.map (fun (x : Int) => (Value.int IntKind.u8 x)))⟩ 379 (0, 0))) (if (8 = at_.toNat) then (Addr.mk b 0 Option.none) else (Addr.add (Addr.mk b 0 Option.none) (at_.toNat * 1))) (8 - at_.toNat) = some (bs.map byteV) := by
        have key : ∀ o, o = at_.toNat ∨ (o = 0 ∧ at_.toNat = 8) → rdn (Heap.set h1 b (Obj.cells ⟨(l.map (fun (x : Int) => (Value.int IntKind.u8 x)))⟩ 379 (0, 0))) ⟨b, o, none⟩ (8 - at_.toNat) = some (bs.map byteV) := by
          intro o ho
          unfold rdn
          simp only [Heap.set_same]
          rcases ho with ho | ⟨ho, h8⟩
          · subst ho
            simp [hl]
            refine ⟨by omega, ?_⟩
            rw [List.take_of_length_le (by simp; omega)]
            simp [byteV, Function.comp_def]
          · subst ho
            have : bs = [] := List.eq_nil_of_length_eq_zero (by omega)
            subst this
            simp [h8]
        split
        · rename_i h8
          exact key 0 (.inr ⟨rfl, h8.symm⟩)
        · rw [add_mk]
          exact key _ (.inl (by omega))
      have hw : IntKind.wrap .u8 (IntKind.wrap .i64 (8 - at_)) = ((UInt8.ofNat bs.length).toNat : Int) := by
        rw [wrap64 (by omega) (by omega), wrapU8 (by omega) (by omega)]
        simp
        omega
      refine ⟨ha0, ⟨by omega, by omega, by omega⟩, fun h => h, bs, hrow, ?_, [UInt8.ofNat bs.length], ?_, by simp; omega, Heap.le_set _ hb, ?_⟩
      · first | rfl | trivial
      · rw [hw]; rfl
      · show S _ = S _
        rw [numT, hbe]; rfl

theorem be_len_le : ∀ (k n : Nat), n < 256 ^ k → (be n).length ≤ k
  | 0, n, h => by
    have : n = 0 := by simpa using h
    subst this; rw [be_zero]; exact Nat.le_refl _
  | k + 1, n, h => by
    by_cases hn : n = 0
    · subst hn; rw [be_zero]; exact Nat.zero_le _
    · rw [be_pos hn, List.length_append]
      have := be_len_le k (n / 256) ((Nat.div_lt_iff_lt_mul (by omega)).2 (by rw [Nat.pow_succ] at h; omega))
      simp; omega
theorem numT_len {n : Nat} (h : n < 256 ^ 8) : (numT n).length ≤ 9 := by
  have := be_len_le 8 n h
  simp [numT]; omega

def textT (s : List UInt8) : List UInt8 := numT s.length ++ s
theorem text_ok {s : List UInt8} (hs : s.length ≤ 1099511627776) {h : Heap} : Spec Tryz.prog 194 [S s] h (fun v h' => h' = h ∧ v = S (textT s)) := by
  apply ok194
  unfold VC194
  refine (num_ok (by omega) (by omega)).mono ?_
  rintro v h1 ⟨rfl, rfl⟩
  have := numT_len (n := s.length) (by omega)
  exact ⟨_, rfl, by rw [Int.toNat_natCast]; omega, rfl, by rw [Int.toNat_natCast]; rfl⟩

/-! ### Readers -/

structure RdS where
  s : List UInt8
  at_ : Nat
  c : Int
def rdO (e : TypeId) (r : RdS) : Obj := .cells ⟨[S r.s, .int .i64 r.at_, .int .i64 r.c]⟩ e (0, 0)
def RdS.ok (r : RdS) : Prop := r.s.length ≤ 1099511627776 ∧ r.at_ ≤ r.s.length
def RdS.refuse (r : RdS) (from_ : Nat) (e : Int) : RdS := if r.c = 0 then { r with at_ := from_, c := e } else r
def RdS.take (r : RdS) (n : Nat) : (List UInt8 × Bool) × RdS :=
  if r.at_ + n ≤ r.s.length then (((r.s.take (r.at_ + n)).drop r.at_, true), { r with at_ := r.at_ + n }) else (([], false), r)
def ofBe (l : List UInt8) : Nat := l.foldl (fun n x => n * 256 + x.toNat) 0
def badN (b : List UInt8) : Bool := (!b.isEmpty && b.headD 1 == 0) || (b.length == 8 && decide (128 ≤ (b.headD 0).toNat))
def RdS.num2 (r : RdS) (k : Nat) : (Int × Int) × RdS :=
  if 8 < k then ((0, 3), r) else
  match r.take k with
  | ((_, false), r2) => ((0, 20), r2)
  | ((b, true), r2) => if badN b then ((0, 3), r2) else ((ofBe b, 0), r2)
def RdS.number (r : RdS) : (Int × Int) × RdS :=
  if r.c ≠ 0 then ((0, r.c), r) else
  match r.take 1 with
  | ((x :: _, true), r1) => r1.num2 x.toNat
  | (_, r1) => ((0, 20), r1)
def RdS.text (r : RdS) (most : Int) : (List UInt8 × Int) × RdS :=
  match r.number with
  | ((n, e), r1) => if e ≠ 0 then (([], e), r1) else if most < n then (([], 2), r1) else
    match r1.take n.toNat with
    | ((_, false), r2) => (([], 20), r2)
    | ((b, true), r2) => ((b, 0), r2)
def RdS.Text (r : RdS) (most : Int) : List UInt8 × RdS :=
  match r.text most with
  | ((s, e), r1) => if e ≠ 0 then ([], r1.refuse r.at_ e) else (s, r1)
def RdS.Bytes (r : RdS) (n : Nat) : List UInt8 × RdS :=
  if r.c ≠ 0 then ([], r) else
  match r.take n with
  | ((s, true), r1) => (s, r1)
  | ((s, false), r1) => (s, r1.refuse r1.at_ 20)
def RdS.End (r : RdS) : Int × RdS :=
  let r1 := if r.at_ < r.s.length then r.refuse r.at_ 3 else r
  (r1.c, r1)

section
variable {h : Heap} {a : Nat} {e : TypeId} {r : RdS}
theorem rdO_s (ha : h a = some (rdO e r)) : rd h ⟨a, 0, none⟩ = some (S r.s) := rd_of ha
theorem rdO_at (ha : h a = some (rdO e r)) : rd h ⟨a, 1, none⟩ = some (.int .i64 r.at_) := rd_of ha
theorem rdO_c (ha : h a = some (rdO e r)) : rd h ⟨a, 2, none⟩ = some (.int .i64 r.c) := rd_of ha
theorem rdO_wat (ha : h a = some (rdO e r)) (n : Nat) : wr h ⟨a, 1, none⟩ [.int .i64 n] = some (h.set a (rdO e { r with at_ := n })) := wr_of ha (by simp) _
theorem rdO_wc (ha : h a = some (rdO e r)) (n : Int) : wr h ⟨a, 2, none⟩ [.int .i64 n] = some (h.set a (rdO e { r with c := n })) := wr_of ha (by simp) _

theorem refused_ok (ha : h a = some (rdO e r)) (n : Nat) (c : Int) : Spec Tryz.prog 274 [.pointer (some ⟨a, 0, none⟩), .int .i64 n, .int .i64 c] h (fun v h' => h' = h.set a (rdO e (r.refuse n c)) ∧ v = .tuple ⟨[]⟩) := by
  apply ok274
  unfold VC274
  refine ⟨_, rfl, _, rdO_c ha, fun hc => ?_, fun hc => ?_⟩
  · have hc : r.c = 0 := by simpa using hc
    refine ⟨_, rfl, _, rdO_wat ha n, _, rfl, _, rdO_wc (Heap.set_same _ _ _) c, ?_, rfl⟩
    rw [Heap.set_set, RdS.refuse, if_pos hc]
  · have hc : ¬ r.c = 0 := by simpa using hc
    rw [RdS.refuse, if_neg hc, Heap.set_self ha]
    exact ⟨rfl, rfl⟩
theorem left_ok (ha : h a = some (rdO e r)) (ho : r.ok) : Spec Tryz.prog 275 [.pointer (some ⟨a, 0, none⟩)] h (fun v h' => h' = h ∧ v = .int .i64 (r.s.length - r.at_)) := by
  apply ok275
  unfold VC275
  obtain ⟨h1, h2⟩ := ho
  refine ⟨_, rfl, _, by rw [add_zero']; exact rdO_s ha, _, rfl, _, rdO_at ha, rfl, ?_⟩
  rw [wrap64 (by omega) (by omega)]
theorem take_ok (ha : h a = some (rdO e r)) (ho : r.ok) {n : Int} (hn : 0 ≤ n) (hn2 : n ≤ 9223372036854775807) : Spec Tryz.prog 342 [.pointer (some ⟨a, 0, none⟩), .int .i64 n] h
    (fun v h' => h' = h.set a (rdO e (r.take n.toNat).2) ∧ v = .tuple ⟨[S (r.take n.toNat).1.1, .bool (r.take n.toNat).1.2]⟩) := by
  apply ok342
  unfold VC342
  obtain ⟨h1, h2⟩ := ho
  refine ⟨_, rfl, _, by rw [add_zero']; exact rdO_s ha, _, rfl, _, rdO_at ha, ?_⟩
  rw [wrap64 (by omega) (by omega)]
  refine ⟨fun hc => ?_, fun hc => ?_⟩
  · have hc : ¬ r.at_ + n.toNat ≤ r.s.length := by simp at hc; omega
    rw [RdS.take, if_neg hc, Heap.set_self ha]
    exact ⟨rfl, rfl⟩
  · have hc : r.at_ + n.toNat ≤ r.s.length := by simp at hc; omega
    rw [RdS.take, if_pos hc]
    have e1 : IntKind.wrap .i64 ((r.at_ : Int) + n) = ((r.at_ + n.toNat : Nat) : Int) := by rw [wrap64 (by omega) (by omega)]; omega
    refine ⟨_, rfl, _, by rw [add_zero']; exact rdO_s ha, _, rfl, _, rdO_at ha, _, rfl, _, rdO_at ha, by omega, ?_⟩
    rw [e1, Int.toNat_natCast, Int.toNat_natCast]
    exact ⟨by omega, ⟨by omega, hc⟩, _, rfl, _, rdO_at ha, _, rfl, _, by rw [e1]; exact rdO_wat ha _, rfl, rfl⟩
theorem take_good {r : RdS} (ho : r.ok) (n : Nat) : (r.take n).2.ok := by
  unfold RdS.take
  split
  · exact ⟨ho.1, by simpa using ‹_›⟩
  · exact ho
theorem refuse_good {r : RdS} (ho : r.ok) {n : Nat} (hn : n ≤ r.s.length) (c : Int) : (r.refuse n c).ok := by
  unfold RdS.refuse
  split
  · exact ⟨ho.1, hn⟩
  · exact ho
theorem end_ok (ha : h a = some (rdO e r)) (ho : r.ok) : Spec Tryz.prog 185 [.pointer (some ⟨a, 0, none⟩)] h (fun v h' => h' = h.set a (rdO e r.End.2) ∧ v = .int .i64 r.End.1) := by
  apply ok185
  unfold VC185
  refine (left_ok ha ho).mono ?_
  rintro v h1 ⟨rfl, rfl⟩
  refine ⟨_, rfl, fun J hJ => ⟨fun hc => ?_, fun hc => ?_⟩⟩
  · have hc : r.at_ < r.s.length := by simp at hc; omega
    refine ⟨_, rfl, _, rdO_at ha, (refused_ok ha r.at_ 3).mono ?_⟩
    rintro v h2 ⟨rfl, rfl⟩
    refine ⟨rfl, hJ _ ⟨_, rfl, _, rdO_c (Heap.set_same _ _ _), ?_⟩⟩
    simp only [RdS.End, if_pos hc, and_self]
  · have hc : ¬ r.at_ < r.s.length := by simp at hc; omega
    refine hJ _ ⟨_, rfl, _, rdO_c ha, ?_⟩
    simp only [RdS.End, if_neg hc, Heap.set_self ha, and_self]

theorem ofBe_snoc (l : List UInt8) (x : UInt8) : ofBe (l ++ [x]) = ofBe l * 256 + x.toNat := by simp [ofBe]
theorem ofBe_cons_aux : ∀ (l : List UInt8) (n : Nat), l.foldl (fun n x => n * 256 + x.toNat) n = n * 256 ^ l.length + ofBe l
  | [], n => by simp [ofBe]
  | x :: l, n => by
    simp only [List.foldl_cons, List.length_cons, ofBe]
    rw [ofBe_cons_aux l, ofBe_cons_aux l (0 * 256 + x.toNat), Nat.pow_succ, Nat.add_mul, Nat.add_mul]
    rw [show n * 256 * 256 ^ l.length = n * (256 ^ l.length * 256) from by rw [Nat.mul_assoc, Nat.mul_comm 256]]
    omega
theorem ofBe_cons (x : UInt8) (l : List UInt8) : ofBe (x :: l) = x.toNat * 256 ^ l.length + ofBe l := by
  show (x :: l).foldl _ 0 = _
  rw [List.foldl_cons, ofBe_cons_aux]; simp
theorem ofBe_lt : ∀ l : List UInt8, ofBe l < 256 ^ l.length
  | [] => by simp [ofBe]
  | x :: l => by
    rw [ofBe_cons, List.length_cons, Nat.pow_succ]
    have h1 := ofBe_lt l
    have h2 := x.toNat_lt
    have : x.toNat * 256 ^ l.length ≤ 255 * 256 ^ l.length := Nat.mul_le_mul_right _ (by omega)
    omega
theorem ofBe_good {l : List UInt8} (hl : l.length ≤ 8) (hb : badN l = false) : ofBe l < 9223372036854775808 := by
  by_cases h8 : l.length = 8
  · cases l with
    | nil => simp at h8
    | cons x m =>
      rw [ofBe_cons]
      have hm : m.length = 7 := by simpa using h8
      rw [hm]
      have := ofBe_lt m
      rw [hm] at this
      have hx : x.toNat < 128 := by
        simp [badN, hm] at hb
        have := hb.2
        exact this
      omega
  · have h1 := ofBe_lt l
    have : 256 ^ l.length ≤ 256 ^ 7 := Nat.pow_le_pow_right (by omega) (by omega)
    omega
theorem or_byte {n b : Nat} (hb : b < 256) (hn : n * 256 + b < 9223372036854775808) : bitsV .or .i64 (IntKind.wrap .i64 ((n : Int) * 256)) (IntKind.wrap .i64 (b : Int)) = ((n * 256 + b : Nat) : Int) := by
  have k1 : n * 256 < 2 ^ 64 := Nat.lt_trans (Nat.lt_of_le_of_lt (Nat.le_add_right _ b) hn) (of_decide_eq_true rfl)
  have k2 : b < 2 ^ 64 := Nat.lt_trans (Nat.lt_of_le_of_lt (Nat.le_add_left b _) hn) (of_decide_eq_true rfl)
  have hw1 := wrap64 (n := (n : Int) * 256) (by omega) (by omega)
  have hw2 := wrap64 (n := (b : Int)) (by omega) (by omega)
  have hw3 := wrap64 (n := ((n * 256 + b : Nat) : Int)) (by omega) (by omega)
  rw [hw1, hw2]
  have e : bitsV .or .i64 ((n : Int) * 256) (b : Int) = IntKind.wrap .i64 (((BitVec.ofInt 64 ((n : Int) * 256) ||| BitVec.ofInt 64 (b : Int)).toNat : Nat) : Int) := rfl
  have h1 : BitVec.ofInt 64 ((n : Int) * 256) = BitVec.ofNat 64 (n * 256) := by
    rw [show ((n : Int) * 256) = ((n * 256 : Nat) : Int) from (by rw [Int.natCast_mul]; rfl), BitVec.ofInt_natCast]
  have h3 : (BitVec.ofNat 64 (n * 256) ||| BitVec.ofNat 64 b).toNat = n * 256 ||| b := by
    rw [BitVec.toNat_or, BitVec.toNat_ofNat, BitVec.toNat_ofNat, Nat.mod_eq_of_lt k1, Nat.mod_eq_of_lt k2]
  rw [e, h1, BitVec.ofInt_natCast, h3]
  have h2 : n * 256 ||| b = n * 256 + b := by
    have := Nat.shiftLeft_add_eq_or_of_lt (i := 8) (b := b) (by omega) n
    rw [Nat.shiftLeft_eq] at this
    exact this.symm
  rw [h2]
  exact hw3

theorem number_ok (ha : h a = some (rdO e r)) (ho : r.ok) : Spec Tryz.prog 273 [.pointer (some ⟨a, 0, none⟩)] h
    (fun v h' => h' = h.set a (rdO e r.number.2) ∧ v = .tuple ⟨[.int .i64 r.number.1.1, .int .i64 r.number.1.2]⟩) := by
  apply ok273
  unfold VC273
  refine ⟨_, rfl, _, rdO_c ha, fun hc => ?_, fun hc => ?_⟩
  · have hc : r.c ≠ 0 := by simpa using hc
    refine ⟨_, rfl, _, rdO_c ha, ?_⟩
    simp only [RdS.number, if_pos hc, Heap.set_self ha]
    exact ⟨trivial, trivial⟩
  · have hc : ¬ r.c ≠ 0 := by simpa using hc
    simp only [RdS.number, if_neg hc]
    refine (take_ok ha ho (n := 1) (by omega) (by omega)).mono ?_
    rintro v h1 ⟨rfl, rfl⟩
    have ho1 := take_good ho 1
    have e1 : (1 : Int).toNat = 1 := rfl
    rw [e1]
    have hlen : (r.take 1).1.2 = true → ∃ x, (r.take 1).1.1 = [x] := by
      unfold RdS.take
      split
      · rename_i hle
        intro _
        refine ⟨r.s[r.at_]'(by omega), ?_⟩
        show List.drop r.at_ (List.take (r.at_ + 1) r.s) = _
        rw [List.drop_take, List.drop_eq_getElem_cons (by omega), show r.at_ + 1 - r.at_ = 1 by omega]
        rfl
      · intro h; cases h
    rcases hr : r.take 1 with ⟨⟨l, b⟩, r1⟩
    rw [hr] at hlen ho1
    refine ⟨_, _, rfl, fun hb => ?_, fun hb => ?_⟩
    · have hb : b = false := by simpa using hb
      subst hb
      cases l <;> exact ⟨rfl, rfl⟩
    · have hb : b = true := by simpa using hb
      subst hb
      obtain ⟨x, rfl⟩ := hlen rfl
      simp only [RdS.num2]
      refine ⟨x, by omega, rfl, fun hx => ?_, fun hx => ?_⟩
      · have hx : 8 < x.toNat := by simp at hx; omega
        simp only [if_pos hx]
        exact ⟨trivial, trivial⟩
      · have hx : ¬ 8 < x.toNat := by simp at hx; omega
        simp only [if_neg hx]
        refine ⟨x, by omega, rfl, ?_⟩
        rw [wrap64 (by omega) (by omega)]
        refine (take_ok (Heap.set_same _ _ _) ho1 (n := x.toNat) (by omega) (by omega)).mono ?_
        rintro v h1 ⟨rfl, rfl⟩
        have e2 : (x.toNat : Int).toNat = x.toNat := by omega
        rw [e2, Heap.set_set]
        have hlen2 : (r1.take x.toNat).1.1.length ≤ 8 := by
          unfold RdS.take
          split
          · simp; omega
          · simp
        rcases hr2 : r1.take x.toNat with ⟨⟨l, b⟩, r2⟩
        rw [hr2] at hlen2
        dsimp only at hlen2
        refine ⟨_, _, rfl, fun hb => ?_, fun hb => ?_⟩
        · have hb : b = false := by simpa using hb
          subst hb
          exact ⟨rfl, rfl⟩
        · have hb : b = true := by simpa using hb
          subst hb
          intro J hJ
          have fin : ∀ c, badN l = c → J c (h.set a (rdO e r2)) := by
            intro c hc
            refine hJ c _ ⟨fun h1 => ?_, fun h1 => ?_⟩
            · subst h1
              simp only [hc, if_true]
              exact ⟨trivial, trivial⟩
            · subst h1
              simp only [hc]
              refine ⟨fun n i h1 => (h1 = h.set a (rdO e r2) ∧ 0 ≤ i ∧ i ≤ l.length ∧ n = ofBe (l.take i.toNat), l.length - i.toNat), ⟨rfl, by omega, by omega, rfl⟩, ?_⟩
              rintro n i h1 ⟨rfl, hi0, hil, rfl⟩
              have hg := ofBe_good hlen2 hc
              refine ⟨fun hlt => ?_, fun hge => ?_⟩
              · simp only [decide_eq_true_eq] at hlt
                have hi : i.toNat < l.length := by omega
                refine ⟨l[i.toNat], hi0, by simp [hi], ?_⟩
                have e3 : l.take (i.toNat + 1) = l.take i.toNat ++ [l[i.toNat]] := by rw [List.take_add_one]; simp [hi]
                have e4 : ofBe (l.take (i.toNat + 1)) = ofBe (l.take i.toNat) * 256 + l[i.toNat].toNat := by rw [e3, ofBe_snoc]
                have hle : ofBe (l.take (i.toNat + 1)) < 9223372036854775808 := by
                  have : ∀ m, ofBe (l.take m) ≤ ofBe l := by
                    intro m
                    have := ofBe_cons_aux (l.drop m) (ofBe (l.take m))
                    have h3 : ofBe l = (l.drop m).foldl (fun n x => n * 256 + x.toNat) (ofBe (l.take m)) := by
                      conv => lhs; rw [← List.take_append_drop m l]
                      simp only [ofBe, List.foldl_append]
                    rw [h3, this]
                    have : 1 ≤ 256 ^ (l.drop m).length := Nat.pow_pos (by omega)
                    have := Nat.mul_le_mul_left (ofBe (l.take m)) this
                    omega
                  exact Nat.lt_of_le_of_lt (this _) hg
                rw [or_byte (l[i.toNat]).toNat_lt (by omega), wrap64 (by omega) (by omega)]
                have e5 : (i + 1).toNat = i.toNat + 1 := by omega
                exact ⟨⟨rfl, by omega, by omega, by rw [e5, e4]⟩, by show l.length - (i + 1).toNat < l.length - i.toNat; omega⟩
              · simp only [decide_eq_false_iff_not] at hge
                have : i.toNat = l.length := by omega
                rw [this, List.take_length]
                exact ⟨rfl, rfl⟩
          have hbad : ∀ x m, l = x :: m → badN l = ((x == 0) || (l.length == 8 && decide (128 ≤ x.toNat))) := by
            rintro x m rfl; simp [badN]
          cases l with
          | nil =>
            refine ⟨fun h => by simp at h, fun _ => ⟨fun h => by simp at h, fun _ => fin _ rfl⟩⟩
          | cons x m =>
            have hb := hbad x m rfl
            refine ⟨fun _ => ⟨x, by omega, rfl, fun h0 => ⟨fun h8 => ⟨x, by omega, rfl, fin _ ?_⟩, fun h8 => fin _ ?_⟩, fun h0 => fin _ ?_⟩, fun h => by simp at h⟩
            · rw [hb]
              have hx0 : (x == 0) = false := by
                rw [beq_eq_false_iff_ne] at h0 ⊢
                rintro rfl; exact h0 rfl
              have h8' : ((x :: m).length == 8) = true := by
                simp only [beq_iff_eq] at h8 ⊢
                try dsimp only at h8
                omega
              rw [hx0, h8']
              simp
              omega
            · rw [hb]
              have hx0 : (x == 0) = false := by
                rw [beq_eq_false_iff_ne] at h0 ⊢
                rintro rfl; exact h0 rfl
              have h8' : ((x :: m).length == 8) = false := by
                rw [beq_eq_false_iff_ne] at h8 ⊢
                try dsimp only at h8
                omega
              rw [hx0, h8']; rfl
            · rw [hb]
              have hx0 : (x == 0) = true := by
                simp only [beq_iff_eq] at h0 ⊢
                exact UInt8.toNat_inj.1 (by simpa using h0)
              rw [hx0]; rfl
end
end Go.Vw
namespace Go.Vw
open Go Go.Proofs

abbrev Bs := List UInt8
inductive T where
  | nil
  | leaf (p v : Bs)
  | ext (p : Bs) (k : T)
  | br (v : Bs) (ks : Fin 16 → T)
def fi (x : UInt8) : Fin 16 := Fin.ofNat 16 x.toNat
def T.isNil : T → Bool
  | .nil => true
  | _ => false
def T.isBr : T → Bool
  | .br _ _ => true
  | _ => false
def upd (ks : Fin 16 → T) (i : Fin 16) (t : T) : Fin 16 → T := fun j => if j = i then t else ks j
/-- How many kids there are, and which is the last. -/
def cnt (ks : Fin 16 → T) : Nat := (List.finRange 16).countP fun i => !(ks i).isNil
def lastK (ks : Fin 16 → T) : Fin 16 := (List.finRange 16).foldl (fun l i => if (ks i).isNil then l else i) 0

def joinT : Bs → T → T
  | [], t => t
  | p, .leaf q v => .leaf (p ++ q) v
  | p, .ext q k => .ext (p ++ q) k
  | p, t => .ext p t
/-- What a leaf, or an extension, has behind some half bytes ('old' what its path has there); and an item. -/
def oldK (t : T) (old : Bs) : Bs × (Fin 16 → T) :=
  match old, t with
  | [], .leaf _ v => (v, fun _ => .nil)
  | x :: r, .leaf _ v => ([], upd (fun _ => .nil) (fi x) (.leaf r v))
  | x :: r, .ext _ k => ([], upd (fun _ => .nil) (fi x) (joinT r k))
  | _, _ => ([], fun _ => .nil)
def partT (t : T) (old path v : Bs) : T :=
  match path with
  | [] => .br v (oldK t old).2
  | x :: r => .br (oldK t old).1 (upd (oldK t old).2 (fi x) (.leaf r v))
def T.get : T → Bs → Bs
  | .nil, _ => []
  | .leaf p v, path => if p = path then v else []
  | .ext p k, path => if comm p path < p.length then [] else k.get (path.drop p.length)
  | .br v ks, path => match path with
    | [] => v
    | x :: r => (ks (fi x)).get r
def T.put : T → Bs → Bs → T
  | .nil, path, v => .leaf path v
  | .leaf p w, path, v => if p = path then .leaf path v else joinT (path.take (comm p path)) (partT (.leaf p w) (p.drop (comm p path)) (path.drop (comm p path)) v)
  | .ext p k, path, v => if comm p path = p.length then joinT p (k.put (path.drop p.length) v) else joinT (path.take (comm p path)) (partT (.ext p k) (p.drop (comm p path)) (path.drop (comm p path)) v)
  | .br w ks, path, v => match path with
    | [] => .br v ks
    | x :: r => .br w (upd ks (fi x) ((ks (fi x)).put r v))
def delB (v : Bs) (ks : Fin 16 → T) : T :=
  if cnt ks = 0 then .leaf [] v
  else if cnt ks = 1 ∧ v = [] then joinT [UInt8.ofNat (lastK ks).val] (ks (lastK ks))
  else .br v ks
def T.del : T → Bs → T
  | .nil, _ => .nil
  | .leaf _ _, _ => .nil
  | .ext p k, path => joinT p (k.del (path.drop p.length))
  | .br v ks, path => match path with
    | [] => delB [] ks
    | x :: r => delB v (upd ks (fi x) ((ks (fi x)).del r))

/-! ### The form -/

/-- A trie behind so many half bytes. -/
def T.Fits : T → Nat → Prop
  | .nil, _ => True
  | .leaf p v, d => (∀ x ∈ p, x ≤ 15) ∧ v ≠ [] ∧ v.length ≤ 32 ∧ 0 < d + p.length ∧ (d + p.length) % 2 = 0 ∧ d + p.length ≤ 16
  | .ext p k, d => (∀ x ∈ p, x ≤ 15) ∧ p ≠ [] ∧ k.isBr = true ∧ d + p.length ≤ 16 ∧ k.Fits (d + p.length)
  | .br v ks, d => (v ≠ [] → 0 < d ∧ d % 2 = 0) ∧ v.length ≤ 32 ∧ d ≤ 16 ∧ 2 ≤ cnt ks + (if v = [] then 0 else 1) ∧ ∀ i, (ks i).Fits (d + 1)

theorem fi_val {x : UInt8} (h : x ≤ 15) : (fi x).val = x.toNat := by
  have : x.toNat ≤ 15 := UInt8.le_iff_toNat_le.1 h
  simp [fi, Fin.ofNat]; omega
theorem fi_ofNat (i : Fin 16) : fi (UInt8.ofNat i.val) = i := by
  apply Fin.ext
  have := i.isLt
  simp [fi, Fin.ofNat]
theorem upd_same (ks : Fin 16 → T) (i : Fin 16) (t : T) : upd ks i t i = t := by simp [upd]
theorem upd_other (ks : Fin 16 → T) {i j : Fin 16} (t : T) (h : j ≠ i) : upd ks i t j = ks j := by simp [upd, h]

theorem cnt_eq (ks : Fin 16 → T) : cnt ks = ((List.finRange 16).filter fun i => !(ks i).isNil).length := by
  rw [cnt, List.countP_eq_length_filter]
theorem cnt_pos {ks : Fin 16 → T} {i : Fin 16} (h : (ks i).isNil = false) : 1 ≤ cnt ks := by
  rw [cnt, Nat.one_le_iff_ne_zero, Ne, List.countP_eq_zero]
  intro hc
  have := hc i (List.mem_finRange i)
  simp [h] at this
theorem cnt_two {ks : Fin 16 → T} {i j : Fin 16} (hij : i ≠ j) (hi : (ks i).isNil = false) (hj : (ks j).isNil = false) : 2 ≤ cnt ks := by
  have hm : ∀ k, (ks k).isNil = false → k ∈ (List.finRange 16).filter fun i => !(ks i).isNil := fun k hk => by
    rw [List.mem_filter]; exact ⟨List.mem_finRange k, by simp [hk]⟩
  rw [cnt_eq]
  have h1 := hm i hi
  have h2 := hm j hj
  generalize (List.finRange 16).filter (fun i => !(ks i).isNil) = l at h1 h2
  match l, h1, h2 with
  | [x], h1, h2 =>
    simp at h1 h2
    exact absurd (h1.trans h2.symm) hij
  | x :: y :: r, _, _ => simp
theorem cnt_upd {ks : Fin 16 → T} {i : Fin 16} {t : T} (ht : t.isNil = (ks i).isNil) : cnt (upd ks i t) = cnt ks := by
  unfold cnt
  apply List.countP_congr
  intro j _
  by_cases h : j = i
  · subst h; rw [upd_same, ht]
  · rw [upd_other _ _ h]
theorem cnt_upd_le (ks : Fin 16 → T) (i : Fin 16) (t : T) (ht : t.isNil = false) : cnt ks ≤ cnt (upd ks i t) := by
  unfold cnt
  apply List.countP_mono_left
  intro j _ hj
  by_cases h : j = i
  · subst h; rw [upd_same, ht]; rfl
  · rw [upd_other _ _ h]; exact hj
theorem put_some : ∀ (t : T) (path v : Bs), (t.put path v).isNil = false
  | .nil, _, _ => rfl
  | .leaf p w, path, v => by
    unfold T.put
    split
    · rfl
    · cases h1 : path.take (comm p path) <;> cases h2 : path.drop (comm p path) <;> rfl
  | .ext p k, path, v => by
    unfold T.put
    split
    · have := put_some k (path.drop p.length) v
      cases p with
      | nil => exact this
      | cons x r =>
        cases hk : k.put (path.drop (x :: r).length) v <;> first | rfl | (rw [hk] at this; cases this)
    · cases h1 : path.take (comm p path) <;> cases h2 : path.drop (comm p path) <;> rfl
  | .br w ks, path, v => by cases path <;> rfl

theorem fits_le : ∀ {t : T} {d : Nat}, t.Fits d → t.isNil = false → d ≤ 16
  | .leaf p v, d, h, _ => by unfold T.Fits at h; omega
  | .ext p k, d, h, _ => by unfold T.Fits at h; omega
  | .br v ks, d, h, _ => by unfold T.Fits at h; omega
  | .nil, _, _, h => by cases h
theorem lastK_some {ks : Fin 16 → T} (h : cnt ks ≠ 0) : (ks (lastK ks)).isNil = false := by
  have key : ∀ (l : List (Fin 16)) (a : Fin 16), (∃ i ∈ l, (ks i).isNil = false) ∨ (ks a).isNil = false → (ks (l.foldl (fun l i => if (ks i).isNil then l else i) a)).isNil = false := by
    intro l
    induction l with
    | nil =>
      rintro a (⟨i, hi, _⟩ | h)
      · cases hi
      · exact h
    | cons x l ih =>
      intro a h
      rw [List.foldl_cons]
      apply ih
      by_cases hx : (ks x).isNil = true
      · rw [if_pos hx]
        rcases h with ⟨i, hi, hn⟩ | h
        · rcases List.mem_cons.1 hi with rfl | hi
          · rw [hx] at hn; cases hn
          · exact .inl ⟨i, hi, hn⟩
        · exact .inr h
      · rw [if_neg hx]
        exact .inr (by simpa using hx)
  apply key
  left
  rw [cnt, Ne, List.countP_eq_zero] at h
  simp only [Bool.not_eq_true', Classical.not_forall] at h
  obtain ⟨i, hi, hn⟩ := h
  exact ⟨i, hi, by simpa using hn⟩
theorem countP_upd {α : Type} [DecidableEq α] {f g : α → Bool} {i : α} (hfi : f i = true) (hgi : g i = false) (ho : ∀ j, j ≠ i → g j = f j) : ∀ {l : List α}, l.Nodup → i ∈ l → l.countP g + 1 = l.countP f
  | x :: l, hn, hm => by
    rw [List.nodup_cons] at hn
    by_cases hx : x = i
    · subst hx
      rw [List.countP_cons_of_pos hfi, List.countP_cons_of_neg (by simp [hgi])]
      congr 1
      apply List.countP_congr
      intro j hj
      rw [ho j (fun e => hn.1 (e ▸ hj))]
    · have hm : i ∈ l := by
        rcases List.mem_cons.1 hm with h | h
        · exact absurd h.symm hx
        · exact h
      have ih := countP_upd hfi hgi ho hn.2 hm
      rw [List.countP_cons, List.countP_cons, ho x hx]
      omega
theorem nodup16 : (List.finRange 16).Nodup := by decide
theorem cnt_upd_nil {ks : Fin 16 → T} {i : Fin 16} (h : (ks i).isNil = false) : cnt (upd ks i .nil) + 1 = cnt ks := by
  unfold cnt
  apply countP_upd (i := i) (by simp [h]) (by rw [upd_same]; rfl) (fun j hj => by rw [upd_other _ _ hj]) nodup16 (List.mem_finRange i)

theorem joinT_fits {p : Bs} {t : T} {d : Nat} (hp : ∀ x ∈ p, x ≤ 15) (ht : t.isNil = false) (hf : t.Fits (d + p.length)) : (joinT p t).Fits d := by
  cases p with
  | nil => exact hf
  | cons x r =>
    have hle := fits_le hf ht
    cases t with
    | nil => cases ht
    | leaf q v =>
      unfold T.Fits at hf
      obtain ⟨h1, h2, h3, h4, h5, h6⟩ := hf
      unfold joinT T.Fits
      rw [List.length_append]
      refine ⟨fun y hy => ?_, h2, h3, by omega, by omega, by omega⟩
      rcases List.mem_append.1 hy with hy | hy
      · exact hp y hy
      · exact h1 y hy
    | ext q k =>
      unfold T.Fits at hf
      obtain ⟨h1, h2, h3, h4, h5⟩ := hf
      unfold joinT T.Fits
      rw [List.length_append]
      refine ⟨fun y hy => ?_, by simp, h3, by omega, by rw [← Nat.add_assoc]; exact h5⟩
      rcases List.mem_append.1 hy with hy | hy
      · exact hp y hy
      · exact h1 y hy
    | br v ks => exact ⟨hp, by simp, rfl, hle, hf⟩
theorem joinT_some {p : Bs} {t : T} (ht : t.isNil = false) : (joinT p t).isNil = false := by
  cases p with
  | nil => exact ht
  | cons x r => cases t <;> first | rfl | cases ht

theorem comm_le : ∀ (a b : Bs), comm a b ≤ a.length ∧ comm a b ≤ b.length
  | [], b => by rw [comm_nil_left]; simp
  | a, [] => by rw [comm_nil_right]; simp
  | x :: a, y :: b => by
    unfold comm
    split
    · have := comm_le a b
      simp; omega
    · simp
theorem comm_heads : ∀ (a b : Bs) {x y : UInt8} {r s : Bs}, a.drop (comm a b) = x :: r → b.drop (comm a b) = y :: s → x ≠ y
  | [], b, _, _, _, _, h, _ => by rw [comm_nil_left] at h; cases h
  | a, [], _, _, _, _, _, h => by rw [comm_nil_right] at h; cases h
  | u :: a, w :: b, x, y, r, s, h1, h2 => by
    unfold comm at h1 h2
    split at h1
    · rename_i he
      rw [if_pos he] at h2
      exact comm_heads a b h1 h2
    · rename_i he
      rw [if_neg he] at h2
      injection h1 with h1; injection h2 with h2
      subst h1; subst h2; exact he
theorem comm_take : ∀ (a b : Bs), a.take (comm a b) = b.take (comm a b)
  | [], b => by rw [comm_nil_left]; rfl
  | a, [] => by rw [comm_nil_right]; rfl
  | u :: a, w :: b => by
    unfold comm
    split
    · rename_i he; rw [List.take_succ_cons, List.take_succ_cons, comm_take a b, he]
    · rfl
theorem comm_both {a b : Bs} (h1 : a.drop (comm a b) = []) (h2 : b.drop (comm a b) = []) : a = b := by
  have := comm_take a b
  rw [← List.take_append_drop (comm a b) a, h1, this, ← h2, List.take_append_drop]
theorem mem_drop' {l : Bs} {n : Nat} (h : ∀ x ∈ l, x ≤ 15) : ∀ x ∈ l.drop n, x ≤ 15 := fun x hx => h x (List.mem_of_mem_drop hx)
theorem mem_take' {l : Bs} {n : Nat} (h : ∀ x ∈ l, x ≤ 15) : ∀ x ∈ l.take n, x ≤ 15 := fun x hx => h x (List.mem_of_mem_take hx)

theorem fi_inj {x y : UInt8} (hx : x ≤ 15) (hy : y ≤ 15) (h : fi x = fi y) : x = y := by
  have := congrArg Fin.val h
  rw [fi_val hx, fi_val hy] at this
  exact UInt8.toNat_inj.1 this
theorem fits_nil (d : Nat) : T.nil.Fits d := by unfold T.Fits; trivial
theorem fits_upd {ks : Fin 16 → T} {i : Fin 16} {t : T} {d : Nat} (h : ∀ j, (ks j).Fits d) (ht : t.Fits d) : ∀ j, (upd ks i t j).Fits d := by
  intro j
  by_cases hj : j = i
  · subst hj; rw [upd_same]; exact ht
  · rw [upd_other _ _ hj]; exact h j

/-- A branch of what was and of an item, behind what both have. -/
theorem partT_fits {t : T} {old path v : Bs} {d : Nat}
    (hold : match old, t with
      | [], .leaf _ w => w ≠ [] ∧ w.length ≤ 32 ∧ 0 < d ∧ d % 2 = 0
      | x :: r, .leaf _ w => x ≤ 15 ∧ (T.leaf r w).Fits (d + 1)
      | x :: r, .ext _ k => x ≤ 15 ∧ (joinT r k).Fits (d + 1) ∧ k.isNil = false
      | _, _ => False)
    (hpath : ∀ x ∈ path, x ≤ 15) (hv : v ≠ []) (hv2 : v.length ≤ 32) (h0 : 0 < d + path.length) (h1 : (d + path.length) % 2 = 0) (h2 : d + path.length ≤ 16)
    (hne : ∀ x r y s, old = x :: r → path = y :: s → x ≠ y) (hne2 : ¬ (old = [] ∧ path = [])) : (partT t old path v).Fits d := by
  have hok : (∀ j, ((oldK t old).2 j).Fits (d + 1)) ∧ ((oldK t old).1 ≠ [] → 0 < d ∧ d % 2 = 0) ∧ (oldK t old).1.length ≤ 32 ∧
      (old = [] → (oldK t old).1 ≠ []) ∧ (∀ x r, old = x :: r → ((oldK t old).2 (fi x)).isNil = false) := by
    cases old with
    | nil =>
      cases t with
      | leaf q w => exact ⟨fun j => fits_nil _, fun _ => hold.2.2, hold.2.1, fun _ => hold.1, fun x r h => by cases h⟩
      | nil => exact hold.elim
      | ext q k => exact hold.elim
      | br w ks => exact hold.elim
    | cons x r =>
      cases t with
      | leaf q w => exact ⟨fits_upd (fun _ => fits_nil _) hold.2, fun h => absurd rfl h, by simp [oldK], fun h => (by cases h), fun x r h => by injection h with h _; subst h; simp [oldK, upd_same]; rfl⟩
      | ext q k => exact ⟨fits_upd (fun _ => fits_nil _) hold.2.1, fun h => absurd rfl h, by simp [oldK], fun h => (by cases h), fun x r h => by injection h with h _; subst h; simp only [oldK, upd_same]; exact joinT_some hold.2.2⟩
      | nil => exact hold.elim
      | br w ks => exact hold.elim
  obtain ⟨k1, k2, k3, k4, k5⟩ := hok
  have hx15 : ∀ x r, old = x :: r → x ≤ 15 := by
    intro x r h
    subst h
    cases t with
    | leaf q w => exact hold.1
    | ext q k => exact hold.1
    | nil => exact hold.elim
    | br w ks => exact hold.elim
  cases path with
  | nil =>
    simp only [List.length_nil, Nat.add_zero] at h0 h1 h2
    unfold partT T.Fits
    refine ⟨fun _ => ⟨h0, h1⟩, hv2, h2, ?_, k1⟩
    rw [if_neg hv]
    cases old with
    | nil => exact absurd ⟨rfl, rfl⟩ hne2
    | cons x r => have := cnt_pos (k5 x r rfl); omega
  | cons y s =>
    simp only [List.length_cons] at h0 h1 h2
    unfold partT T.Fits
    refine ⟨k2, k3, by omega, ?_, fits_upd k1 ?_⟩
    · cases old with
      | nil =>
        rw [if_neg (k4 rfl)]
        have : ((upd (oldK t []).2 (fi y) (.leaf s v)) (fi y)).isNil = false := by rw [upd_same]; rfl
        have := cnt_pos this
        omega
      | cons x r =>
        have hxy : fi x ≠ fi y := fun e => hne x r y s rfl rfl (fi_inj (hx15 x r rfl) (hpath y (List.mem_cons_self ..)) e)
        have a1 : ((upd (oldK t (x :: r)).2 (fi y) (.leaf s v)) (fi y)).isNil = false := by rw [upd_same]; rfl
        have a2 : ((upd (oldK t (x :: r)).2 (fi y) (.leaf s v)) (fi x)).isNil = false := by rw [upd_other _ _ hxy]; exact k5 x r rfl
        have := cnt_two hxy a2 a1
        omega
    · unfold T.Fits
      exact ⟨fun z hz => hpath z (List.mem_cons_of_mem _ hz), hv, hv2, by omega, by omega, by omega⟩

theorem put_br {t : T} {path v : Bs} (h : t.isBr = true) : (t.put path v).isBr = true := by
  cases t <;> first | (cases path <;> rfl) | cases h
theorem br_some {t : T} (h : t.isBr = true) : t.isNil = false := by cases t <;> first | rfl | cases h
theorem put_fits : ∀ (t : T) (path v : Bs) (d : Nat), t.Fits d → (∀ x ∈ path, x ≤ 15) → v ≠ [] → v.length ≤ 32 → 0 < d + path.length → (d + path.length) % 2 = 0 → d + path.length ≤ 16 → (t.put path v).Fits d
  | .nil, path, v, d, _, hp, hv, hv2, h0, h1, h2 => by unfold T.put T.Fits; exact ⟨hp, hv, hv2, h0, h1, h2⟩
  | .leaf p w, path, v, d, hf, hp, hv, hv2, h0, h1, h2 => by
    unfold T.put
    split
    · unfold T.Fits; exact ⟨hp, hv, hv2, h0, h1, h2⟩
    · rename_i hne
      unfold T.Fits at hf
      obtain ⟨f1, f2, f3, f4, f5, f6⟩ := hf
      have hc := comm_le p path
      have el : (path.take (comm p path)).length = comm p path := by rw [List.length_take]; omega
      apply joinT_fits (mem_take' hp) (by cases path.drop (comm p path) <;> rfl)
      rw [el]
      have el2 : (path.drop (comm p path)).length = path.length - comm p path := List.length_drop
      have el3 : (p.drop (comm p path)).length = p.length - comm p path := List.length_drop
      refine partT_fits ?_ (mem_drop' hp) hv hv2 (by omega) (by rw [el2]; rw [show d + comm p path + (path.length - comm p path) = d + path.length by omega]; exact h1) (by omega) (fun x r y s h3 h4 => comm_heads p path h3 h4) (fun h => hne (comm_both h.1 h.2))
      cases ho : p.drop (comm p path) with
      | nil =>
        rw [ho] at el3
        simp at el3
        have : comm p path = p.length := by omega
        rw [this]
        exact ⟨f2, f3, f4, f5⟩
      | cons x r =>
        rw [ho] at el3
        simp at el3
        have hm := mem_drop' (n := comm p path) f1
        rw [ho] at hm
        refine ⟨hm x (List.mem_cons_self ..), ?_⟩
        unfold T.Fits
        exact ⟨fun z hz => hm z (List.mem_cons_of_mem _ hz), f2, f3, by omega, by rw [show d + comm p path + 1 + r.length = d + p.length by omega]; exact f5, by omega⟩
  | .ext p k, path, v, d, hf, hp, hv, hv2, h0, h1, h2 => by
    unfold T.put
    unfold T.Fits at hf
    obtain ⟨f1, f2, f3, f4, f5⟩ := hf
    have hc := comm_le p path
    have el2 : (path.drop (comm p path)).length = path.length - comm p path := List.length_drop
    have el3 : (p.drop (comm p path)).length = p.length - comm p path := List.length_drop
    split
    · rename_i hw
      refine joinT_fits f1 (put_some _ _ _) (put_fits k _ v _ f5 (mem_drop' hp) hv hv2 ?_ ?_ ?_)
      · rw [List.length_drop]; omega
      · rw [List.length_drop, show d + p.length + (path.length - p.length) = d + path.length by omega]; exact h1
      · rw [List.length_drop]; omega
    · rename_i hnw
      have el : (path.take (comm p path)).length = comm p path := by rw [List.length_take]; omega
      apply joinT_fits (mem_take' hp) (by cases path.drop (comm p path) <;> rfl)
      rw [el]
      refine partT_fits ?_ (mem_drop' hp) hv hv2 (by omega) (by rw [el2]; rw [show d + comm p path + (path.length - comm p path) = d + path.length by omega]; exact h1) (by omega) (fun x r y s h3 h4 => comm_heads p path h3 h4) (fun h => by
        rw [h.1] at el3; simp at el3; omega)
      cases ho : p.drop (comm p path) with
      | nil => rw [ho] at el3; simp at el3; omega
      | cons x r =>
        rw [ho] at el3
        simp at el3
        have hm := mem_drop' (n := comm p path) f1
        rw [ho] at hm
        refine ⟨hm x (List.mem_cons_self ..), joinT_fits (fun z hz => hm z (List.mem_cons_of_mem _ hz)) (br_some f3) ?_, br_some f3⟩
        rw [show d + comm p path + 1 + r.length = d + p.length by omega]; exact f5
  | .br w ks, path, v, d, hf, hp, hv, hv2, h0, h1, h2 => by
    unfold T.Fits at hf
    obtain ⟨f1, f2, f3, f4, f5⟩ := hf
    cases path with
    | nil =>
      simp only [List.length_nil, Nat.add_zero] at h0 h1 h2
      unfold T.put T.Fits
      refine ⟨fun _ => ⟨h0, h1⟩, hv2, f3, ?_, f5⟩
      rw [if_neg hv]
      split at f4 <;> omega
    | cons x r =>
      simp only [List.length_cons] at h0 h1 h2
      unfold T.put T.Fits
      refine ⟨f1, f2, f3, ?_, fits_upd f5 (put_fits _ r v _ (f5 _) (fun z hz => hp z (List.mem_cons_of_mem _ hz)) hv hv2 (by omega) (by rw [show d + 1 + r.length = d + (r.length + 1) by omega]; exact h1) (by omega))⟩
      have := cnt_upd_le ks (fi x) ((ks (fi x)).put r v) (put_some _ _ _)
      omega

theorem delB_fits {v : Bs} {ks : Fin 16 → T} {d : Nat} (h1 : v ≠ [] → 0 < d ∧ d % 2 = 0) (h2 : v.length ≤ 32) (h3 : d ≤ 16) (h4 : 1 ≤ cnt ks + (if v = [] then 0 else 1)) (h5 : ∀ i, (ks i).Fits (d + 1)) :
    (delB v ks).Fits d ∧ (delB v ks).isNil = false := by
  unfold delB
  split
  · rename_i h0
    have hv : v ≠ [] := by
      intro hv
      rw [h0, if_pos hv] at h4
      omega
    obtain ⟨a, b⟩ := h1 hv
    refine ⟨?_, rfl⟩
    unfold T.Fits
    exact ⟨fun x hx => (by cases hx), hv, h2, a, b, h3⟩
  · rename_i h0
    have hk := lastK_some h0
    split
    · rename_i h6
      refine ⟨joinT_fits ?_ hk (h5 _), joinT_some hk⟩
      intro x hx
      rw [List.mem_singleton] at hx
      subst hx
      apply UInt8.le_iff_toNat_le.2
      have := (lastK ks).isLt
      simp
      omega
    · rename_i h6
      refine ⟨?_, rfl⟩
      unfold T.Fits
      refine ⟨h1, h2, h3, ?_, h5⟩
      split
      · rename_i hv
        have : ¬ cnt ks = 1 := fun e => h6 ⟨e, hv⟩
        omega
      · omega
theorem del_fits : ∀ (t : T) (path : Bs) (d : Nat), t.Fits d → t.get path ≠ [] → (t.del path).Fits d ∧ (t.isBr = true → (t.del path).isNil = false)
  | .nil, _, _, _, h => absurd rfl h
  | .leaf p v, path, d, _, _ => ⟨fits_nil _, fun h => by cases h⟩
  | .ext p k, path, d, hf, hg => by
    unfold T.Fits at hf
    obtain ⟨f1, f2, f3, f4, f5⟩ := hf
    unfold T.get at hg
    split at hg
    · exact absurd rfl hg
    · have ih := del_fits k _ _ f5 hg
      exact ⟨joinT_fits f1 (ih.2 f3) ih.1, fun h => by cases h⟩
  | .br v ks, path, d, hf, hg => by
    unfold T.Fits at hf
    obtain ⟨f1, f2, f3, f4, f5⟩ := hf
    cases path with
    | nil =>
      unfold T.get at hg
      have := delB_fits (v := []) (ks := ks) (d := d) (fun h => absurd rfl h) (by simp) f3 (by simp; rw [if_neg hg] at f4; omega) f5
      exact ⟨this.1, fun _ => this.2⟩
    | cons x r =>
      unfold T.get at hg
      dsimp only at hg
      have ih := del_fits (ks (fi x)) r _ (f5 _) hg
      have hk : (ks (fi x)).isNil = false := by
        cases hk : ks (fi x) <;> first | rfl | (rw [hk] at hg; exact absurd rfl hg)
      have : 1 ≤ cnt (upd ks (fi x) ((ks (fi x)).del r)) + (if v = [] then 0 else 1) := by
        cases hn : ((ks (fi x)).del r).isNil with
        | false =>
          have := cnt_upd_le ks (fi x) _ hn
          omega
        | true =>
          have e : (ks (fi x)).del r = .nil := by cases h : (ks (fi x)).del r <;> first | rfl | (rw [h] at hn; cases hn)
          rw [e]
          have := cnt_upd_nil hk
          omega
      have := delB_fits f1 f2 f3 this (fits_upd f5 ih.1)
      exact ⟨this.1, fun _ => this.2⟩
end Go.Vw
