/-
  What all contracts rest on: weaker and forgetful forms of 'Spec'; counts in their kinds; knowledge of memory. Conditions of functions, printed by a tool of mine (vcs.py). What the functions of 'nibble' come to. What the functions of 'nibble' come to: paths packed.
-/
import Derived.Test.YtomcnpeeelhpcaaGreatDoorVwBase0
namespace Go.Vw
open Go Go.Proofs

theorem Spec.mono {P : Program} {f : FuncId} {args : List Value} {h : Heap} {Q R : Value → Heap → Prop} (hq : ∀ v h', Q v h' → R v h') (hs : Spec P f args h Q) : Spec P f args h R := by
  intro hw hok w hrel
  refine Calls.mono (hs hw hok w hrel) ?_
  rintro e w' ⟨v, h', h1, h2, h3, h4, h5, h6⟩
  exact ⟨v, h', h1, h2, h3, h4, h5, hq _ _ h6⟩
/-- What was made on the way and is not told of is forgotten. -/
theorem Spec.forget {P : Program} {f : FuncId} {args : List Value} {h : Heap} {Q : Value → Prop} (hs : Spec P f args h (fun v h' => h.le h' ∧ Q v)) : Spec P f args h (fun v h' => h' = h ∧ Q v) := by
  intro hw hok w hrel
  refine Calls.mono (hs hw hok w hrel) ?_
  rintro e w' ⟨v, h', rfl, hr', hw', hv, fr, hle, hq⟩
  exact ⟨v, h, rfl, fun b o hb => hr' b o (hle b o hb), hw, hv, ⟨fr.os, fr.tape, fr.output, fr.size, fun b hb hn => ⟨hn, (fr.old b hb hn).2⟩⟩, rfl, hq⟩

/-- A count that stays in its kind. -/
theorem wrap64 {n : Int} (h1 : -9223372036854775808 ≤ n) (h2 : n ≤ 9223372036854775807) : IntKind.wrap .i64 n = n := by
  simp only [IntKind.wrap, IntKind.signed, IntKind.bits]
  simp
  split <;> omega
theorem wrapU8 {n : Int} (h1 : 0 ≤ n) (h2 : n < 256) : IntKind.wrap .u8 n = n := by
  simp only [IntKind.wrap, IntKind.signed, IntKind.bits]
  simp
  omega
theorem wrapU32 (n : Int) : IntKind.wrap .u32 n = n % 4294967296 := by simp [IntKind.wrap, IntKind.signed, IntKind.bits]

/-! ### Slices that grow in a block of their own -/

theorem Heap.le_over {h₀ h : Heap} {b : Nat} (hl : h₀.le h) (hb : h₀ b = none) (o : Obj) : h₀.le (h.set b o) := fun x y hx => by
  have : x ≠ b := by rintro rfl; rw [hb] at hx; cases hx
  rw [Heap.set_other _ _ this]; exact hl x y hx
def Grow (h₀ h₁ : Heap) (sl : Sl) (size : Nat) (l : List Value) : Prop :=
  h₀.le h₁ ∧ l.length = sl.len * size ∧ sl.len ≤ sl.cap ∧
  ((sl.a = none ∧ sl.cap = 0) ∨ ∃ b rest e, sl.a = some ⟨b, 0, none⟩ ∧ h₀ b = none ∧ h₁ b = some (.cells ⟨l ++ rest⟩ e (0, 0)) ∧ rest.length = (sl.cap - sl.len) * size)
theorem rowOf_own {h : Heap} {b n size : Nat} {l rest : List Value} {e : TypeId} {fr : Nat × Nat} (hb : h b = some (.cells ⟨l ++ rest⟩ e fr)) (hl : l.length = n * size) : rdn h ⟨b, 0, none⟩ (n * size) = some l := by
  unfold rdn
  simp only [hb]
  simp [← hl]
theorem Grow.row {h₀ h₁ : Heap} {sl : Sl} {size : Nat} {l : List Value} (g : Grow h₀ h₁ sl size l) : rowOf h₁ sl.a (sl.len * size) = some l := by
  obtain ⟨h1, h2, h3, h4⟩ := g
  rcases h4 with ⟨h5, h6⟩ | ⟨b, rest, e, h5, h6, h7, h8⟩
  · have : sl.len = 0 := by omega
    rw [h5, this]
    rw [this] at h2
    simp at h2
    simp [rowOf, h2]
  · rw [h5]
    exact rowOf_own h7 h2
theorem wr_own {h : Heap} {b o : Nat} {l ys rest : List Value} {e : TypeId} (hb : h b = some (.cells ⟨l ++ rest⟩ e (0, 0))) (hl : l.length = o) (hr : ys.length ≤ rest.length) :
    wr h (Addr.add ⟨b, 0, none⟩ o) ys = some (h.set b (.cells ⟨(l ++ ys) ++ rest.drop ys.length⟩ e (0, 0))) := by
  rw [add_mk]
  unfold wr
  simp only [hb]
  have e1 : splice (l ++ rest) (0 + o) ys = (l ++ ys) ++ rest.drop ys.length := by
    unfold splice
    subst hl
    simp [List.take_append, List.drop_append]
  simp only [e1]
  have : 0 + o + ys.length ≤ (l ++ rest).length := by simp; omega
  simp [this] 
  omega
theorem Grow.fits {h₀ h₁ : Heap} {sl : Sl} {size m : Nat} {l ys : List Value} (g : Grow h₀ h₁ sl size l) (hy : ys.length = m * size) :
    (sl.len + m ≤ sl.cap → ∀ p, sl.a = some p → (wr h₁ (p.add (sl.len * size)) ys).isSome = true) ∧ (sl.a = none → sl.len + m ≤ sl.cap → ys = []) := by
  obtain ⟨h1, h2, h3, h4⟩ := g
  rcases h4 with ⟨h5, h6⟩ | ⟨b, rest, e, h5, h6, h7, h8⟩
  · refine ⟨fun _ p hp => (by rw [h5] at hp; cases hp), fun _ hm => ?_⟩
    have : m = 0 := by omega
    subst this
    simpa using hy
  · refine ⟨fun hm p hp => ?_, fun hn => (by rw [h5] at hn; cases hn)⟩
    rw [h5] at hp; injection hp with hp; subst hp
    have hle : ys.length ≤ rest.length := by
      rw [hy, h8]; exact Nat.mul_le_mul_right _ (by omega)
    rw [wr_own h7 h2 hle]; rfl
theorem Grow.app {h₀ h₁ h₂ : Heap} {sl r : Sl} {size m : Nat} {e : TypeId} {l ys : List Value} (g : Grow h₀ h₁ sl size l) (hy : ys.length = m * size) (ha : AppRes h₁ sl size e l ys m r h₂) : Grow h₀ h₂ r size (l ++ ys) := by
  obtain ⟨h1, h2, h3, h4⟩ := g
  obtain ⟨hr, ha⟩ := ha
  have hlen : (l ++ ys).length = r.len * size := by rw [List.length_append, h2, hy, hr, Nat.add_mul]
  rcases ha with ⟨hm, ha1, ha2, ha3⟩ | ⟨hm, b, rest, hb, ha1, ha2, ha3, _, ha4⟩
  · rcases h4 with ⟨h5, h6⟩ | ⟨b, rest, e', h5, h6, h7, h8⟩
    · rw [h5] at ha3
      obtain ⟨rfl, rfl⟩ := ha3
      exact ⟨h1, hlen, by rw [hr, ha2]; exact hm, .inl ⟨by rw [ha1, h5], by rw [ha2, h6]⟩⟩
    · rw [h5] at ha3
      simp only at ha3
      have hle : ys.length ≤ rest.length := by
        rw [hy, h8]; exact Nat.mul_le_mul_right _ (by omega)
      rw [wr_own h7 h2 hle] at ha3
      injection ha3 with ha3
      subst ha3
      refine ⟨Heap.le_over h1 h6 _, hlen, by rw [hr, ha2]; exact hm, .inr ⟨b, rest.drop ys.length, e', by rw [ha1, h5], h6, Heap.set_same _ _ _, ?_⟩⟩
      rw [List.length_drop, h8, hy, hr, ha2, ← Nat.sub_mul]
      congr 1; omega
  · subst ha4
    have hb0 : h₀ b = none := by
      cases h : h₀ b with
      | none => rfl
      | some o => have := h1 b o h; rw [hb] at this; cases this
    refine ⟨Heap.le_over h1 hb0 _, hlen, by rw [hr]; exact ha2, .inr ⟨b, rest, e, ha1, hb0, Heap.set_same _ _ _, ?_⟩⟩
    rw [ha3, hr]
end Go.Vw
namespace Go.Vw
open Go Go.Proofs

/- pharos/nibble.Fit -/
def an174 : An := (.nd none [] [] .leaf (.nd none [] [] (.nd none [] [] .leaf (.nd none [] [] (.nd none [.slot 6 (.int .i64)] [] .leaf .leaf) .leaf)) .leaf))
def VC174 (path : List UInt8) (h : Heap) (Q : Value → Heap → Prop) : Prop :=
 (∃ k : (Int → (Heap → (Prod Prop Nat))),
 (((k (0 : Int) h)).fst ∧
 (∀ n : Int,
 (∀ h1 : Heap,
  (((k n h1)).fst →
  ((((decide (n < (((List.length path) : Nat) : Int))) = Bool.true) →
  (∃ ui : UInt8,
   (((0 : Int) ≤ n) ∧
   (((path)[(Int.toNat n)]? = (Option.some ui)) ∧
   ((((decide ((((UInt8.toNat ui) : Nat) : Int) > (15 : Int))) = Bool.true) →
    (Q (Value.bool Bool.false) h1)) ∧
   (((decide ((((UInt8.toNat ui) : Nat) : Int) > (15 : Int))) = Bool.false) →
    (((k (IntKind.wrap IntKind.i64 (n + (1 : Int))) h1)).fst ∧
    (((k (IntKind.wrap IntKind.i64 (n + (1 : Int))) h1)).snd < ((k n h1)).snd)))))))) ∧
  (((decide (n < (((List.length path) : Nat) : Int))) = Bool.false) →
  (Q (Value.bool Bool.true) h1))))))))
theorem vc174 (path : List UInt8) (h : Heap) (Q : Value → Heap → Prop) : evF Tryz.prog τ tok 174 an174 [S path] h Q = VC174 path h Q := by kernel_rfl
theorem ok174 {path : List UInt8} {h : Heap} {Q : Value → Heap → Prop} (hv : VC174 path h Q) : Spec Tryz.prog 174 [S path] h Q := evF_sound (P := Tryz.prog) (τ := τ) (ok := tok) (an := an174) (fun _ => drawn mixed) (by rw [vc174]; exact hv)

/- pharos/trie.keyed -/
def an168 : An := (.nd none [] [] .leaf (.nd none [] [] (.nd (some [.slot 2 .bool]) [] [] .leaf .leaf) .leaf))
def VC168 (key : List UInt8) (h : Heap) (Q : Value → Heap → Prop) : Prop :=
 (∀ J : (Bool → (Heap → Prop)),
 (((∀ b : Bool,
 (∀ h1 : Heap,
  ((Q (Value.bool b) h1) →
  (J b h1))))) →
 ((((!(key == [])) = Bool.true) →
  (J (decide ((((List.length key) : Nat) : Int) ≤ (8 : Int))) h)) ∧
 (((!(key == [])) = Bool.false) →
  (J Bool.false h)))))
theorem vc168 (key : List UInt8) (h : Heap) (Q : Value → Heap → Prop) : evF Tryz.prog τ tok 168 an168 [S key] h Q = VC168 key h Q := by kernel_rfl
theorem ok168 {key : List UInt8} {h : Heap} {Q : Value → Heap → Prop} (hv : VC168 key h Q) : Spec Tryz.prog 168 [S key] h Q := evF_sound (P := Tryz.prog) (τ := τ) (ok := tok) (an := an168) (fun _ => drawn mixed) (by rw [vc168]; exact hv)

/- pharos/nibble.Common -/
def an251 : An := (.nd none [] [] .leaf (.nd none [] [] .leaf (.nd none [] [] (.nd none [] [] (.nd none [.slot 5 (.int .i64)] [] (.nd none [] [] (.nd none [] [] (.nd (some [.slot 24 .bool]) [] [0, 1, 2, 3, 4, 5, 6, 7, 8, 9, 10, 11, 12, 13, 14, 15, 16, 17, 18] .leaf .leaf) .leaf) .leaf) .leaf) .leaf) .leaf)))
def VC251 (a : List UInt8) (b : List UInt8) (h : Heap) (Q : Value → Heap → Prop) : Prop :=
 (∃ k : (Int → (Heap → (Prod Prop Nat))),
 (((k (0 : Int) h)).fst ∧
 (∀ n : Int,
 (∀ h1 : Heap,
  (((k n h1)).fst →
  (∀ J : (Bool → (Heap → Prop)),
  (((∀ b1 : Bool,
   (∀ h2 : Heap,
   (((((b1 = Bool.true) →
    (((k (IntKind.wrap IntKind.i64 (n + (1 : Int))) h2)).fst ∧
    (((k (IntKind.wrap IntKind.i64 (n + (1 : Int))) h2)).snd < ((k n h1)).snd))) ∧
   ((b1 = Bool.false) →
    (Q (Value.int IntKind.i64 n) h2)))) →
   (J b1 h2))))) →
  ((((decide (n < (((List.length a) : Nat) : Int))) = Bool.true) →
   ((((decide (n < (((List.length b) : Nat) : Int))) = Bool.true) →
   (∃ ui : UInt8,
    (((0 : Int) ≤ n) ∧
    (((a)[(Int.toNat n)]? = (Option.some ui)) ∧
    (∃ ui1 : UInt8,
    (((0 : Int) ≤ n) ∧
     (((b)[(Int.toNat n)]? = (Option.some ui1)) ∧
     (J ((((UInt8.toNat ui) : Nat) : Int) == (((UInt8.toNat ui1) : Nat) : Int)) h1)))))))) ∧
   (((decide (n < (((List.length b) : Nat) : Int))) = Bool.false) →
   (J Bool.false h1)))) ∧
   (((decide (n < (((List.length a) : Nat) : Int))) = Bool.false) →
   (J Bool.false h1))))))))))
theorem vc251 (a : List UInt8) (b : List UInt8) (h : Heap) (Q : Value → Heap → Prop) : evF Tryz.prog τ tok 251 an251 [S a, S b] h Q = VC251 a b h Q := by kernel_rfl
theorem ok251 {a : List UInt8} {b : List UInt8} {h : Heap} {Q : Value → Heap → Prop} (hv : VC251 a b h Q) : Spec Tryz.prog 251 [S a, S b] h Q := evF_sound (P := Tryz.prog) (τ := τ) (ok := tok) (an := an251) (fun _ => drawn mixed) (by rw [vc251]; exact hv)

/- pharos/nibble.Of -/
def an167 : An := (.nd none [] [] .leaf (.nd none [] [] .leaf (.nd none [] [] (.nd none [] [] .leaf (.nd none [] [] (.nd none [.slot 3 .slice, .slot 11 (.int .i64)] [] (.nd none [] [] .leaf (.nd none [] [] .leaf (.nd none [] [] (.nd none [] [] (.nd none [] [] .leaf (.nd none [] [0, 1, 2, 3, 4, 5, 6, 7, 8, 9, 10, 11] .leaf .leaf)) .leaf) .leaf))) .leaf) .leaf)) .leaf)))
def VC167 (key : List UInt8) (h : Heap) (Q : Value → Heap → Prop) : Prop :=
 ((((0 : Int) ≤ (0 : Int)) ∧
 (((0 : Int) ≤ (IntKind.wrap IntKind.i64 ((2 : Int) * (((List.length key) : Nat) : Int)))) ∧
 (((((1 : Nat) : Nat) : Int) * (IntKind.wrap IntKind.i64 ((2 : Int) * (((List.length key) : Nat) : Int)))) ≤ (281474976710656 : Int)))) ∧
 (((IntKind.wrap IntKind.i64 ((2 : Int) * (((List.length key) : Nat) : Int))) ≤ (9223372036854775807 : Int)) ∧
 (∀ b : Nat,
 (((h b) = Option.none) →
  (∃ k : (Sl → (Int → (Heap → (Prod Prop Nat)))),
  (((k (Sl.mk (Option.some (Addr.mk b 0 Option.none)) 0 (Int.toNat (IntKind.wrap IntKind.i64 ((2 : Int) * (((List.length key) : Nat) : Int))))) (0 : Int) (Heap.set h b (Obj.cells ⟨(List.flatten (List.replicate (Int.toNat (IntKind.wrap IntKind.i64 ((2 : Int) * (((List.length key) : Nat) : Int)))) [(Value.int IntKind.u8 (0 : Int))]))⟩ 5 (Prod.mk 0 0))))).fst ∧
  (∀ sl : Sl,
  (∀ n : Int,
   (∀ h1 : Heap,
   (((k sl n h1)).fst →
   ((((decide (n < (((List.length key) : Nat) : Int))) = Bool.true) →
    (∃ ui : UInt8,
    (((0 : Int) ≤ n) ∧
    (((key)[(Int.toNat n)]? = (Option.some ui)) ∧
    (∃ ui1 : UInt8,
     (((0 : Int) ≤ n) ∧
     (((key)[(Int.toNat n)]? = (Option.some ui1)) ∧
     (((List.length [(Value.int IntKind.u8 (Int.fdiv (((UInt8.toNat ui) : Nat) : Int) (16 : Int))), (Value.int IntKind.u8 (bitsV BinOp.and IntKind.u8 (((UInt8.toNat ui1) : Nat) : Int) (15 : Int)))]) = (2 * (1 : Nat))) ∧
     (∃ l : (List Value),
      (((rowOf h1 (sl).a ((sl).len * (1 : Nat))) = (Option.some l)) ∧
      (((((sl).len + 2) * (1 : Nat)) ≤ 140737488355328) ∧
      ((((sl).len + 2) ≤ 9223372036854775807) ∧
      (((((sl).len + 2) ≤ (sl).cap) →
       (∀ ad : Addr,
       (((sl).a = (Option.some ad)) →
       ((Option.isSome (wr h1 (Addr.add ad ((sl).len * (1 : Nat))) [(Value.int IntKind.u8 (Int.fdiv (((UInt8.toNat ui) : Nat) : Int) (16 : Int))), (Value.int IntKind.u8 (bitsV BinOp.and IntKind.u8 (((UInt8.toNat ui1) : Nat) : Int) (15 : Int)))])) = Bool.true)))) ∧
       ((((sl).a = Option.none) →
       ((((sl).len + 2) ≤ (sl).cap) →
       ([(Value.int IntKind.u8 (Int.fdiv (((UInt8.toNat ui) : Nat) : Int) (16 : Int))), (Value.int IntKind.u8 (bitsV BinOp.and IntKind.u8 (((UInt8.toNat ui1) : Nat) : Int) (15 : Int)))] = []))) ∧
       (∀ sl1 : Sl,
       (∀ h2 : Heap,
       ((AppRes h1 (Sl.mk (sl).a (sl).len (sl).cap) (1 : Nat) 5 l [(Value.int IntKind.u8 (Int.fdiv (((UInt8.toNat ui) : Nat) : Int) (16 : Int))), (Value.int IntKind.u8 (bitsV BinOp.and IntKind.u8 (((UInt8.toNat ui1) : Nat) : Int) (15 : Int)))] 2 sl1 h2) →
        (((k (Sl.mk (sl1).a (sl1).len (sl1).cap) (IntKind.wrap IntKind.i64 (n + (1 : Int))) h2)).fst ∧
        (((k (Sl.mk (sl1).a (sl1).len (sl1).cap) (IntKind.wrap IntKind.i64 (n + (1 : Int))) h2)).snd < ((k sl n h1)).snd))))))))))))))))))) ∧
   (((decide (n < (((List.length key) : Nat) : Int))) = Bool.false) →
    (Option.elim (sl).a (
    (Q (S []) h1))
    (fun (ad1 : Addr) =>
    (∃ l1 : (List UInt8),
    (((rdn h1 ad1 (sl).len) = (Option.some (List.map byteV l1))) ∧
     (Q (S l1) h1)))))))))))))))))
theorem vc167 (key : List UInt8) (h : Heap) (Q : Value → Heap → Prop) : evF Tryz.prog τ tok 167 an167 [S key] h Q = VC167 key h Q := by kernel_rfl
theorem ok167 {key : List UInt8} {h : Heap} {Q : Value → Heap → Prop} (hv : VC167 key h Q) : Spec Tryz.prog 167 [S key] h Q := evF_sound (P := Tryz.prog) (τ := τ) (ok := tok) (an := an167) (fun _ => drawn mixed) (by rw [vc167]; exact hv)

/- pharos/nibble.joined -/
def an175 : An := (.nd none [] [] .leaf (.nd none [] [] .leaf (.nd none [] [] (.nd none [] [] .leaf (.nd none [] [] (.nd none [.slot 3 .slice, .slot 12 (.int .i64)] [] (.nd none [] [] .leaf (.nd none [] [] .leaf (.nd none [] [] (.nd none [] [] (.nd none [] [] .leaf (.nd none [] [0, 1, 2, 3, 4, 5, 6, 7, 8, 9, 10, 11, 12, 13, 14] .leaf .leaf)) .leaf) .leaf))) .leaf) .leaf)) .leaf)))
def VC175 (path : List UInt8) (h : Heap) (Q : Value → Heap → Prop) : Prop :=
 (((2 : Int) ≠ (0 : Int)) ∧
 ((((0 : Int) ≤ (0 : Int)) ∧
 (((0 : Int) ≤ (IntKind.wrap IntKind.i64 (Int.tdiv (((List.length path) : Nat) : Int) (2 : Int)))) ∧
  (((((1 : Nat) : Nat) : Int) * (IntKind.wrap IntKind.i64 (Int.tdiv (((List.length path) : Nat) : Int) (2 : Int)))) ≤ (281474976710656 : Int)))) ∧
 (((IntKind.wrap IntKind.i64 (Int.tdiv (((List.length path) : Nat) : Int) (2 : Int))) ≤ (9223372036854775807 : Int)) ∧
 (∀ b : Nat,
  (((h b) = Option.none) →
  (((2 : Int) ≠ (0 : Int)) ∧
  (∃ k : (Sl → (Int → (Heap → (Prod Prop Nat)))),
  (((k (Sl.mk (Option.some (Addr.mk b 0 Option.none)) 0 (Int.toNat (IntKind.wrap IntKind.i64 (Int.tdiv (((List.length path) : Nat) : Int) (2 : Int))))) (0 : Int) (Heap.set h b (Obj.cells ⟨(List.flatten (List.replicate (Int.toNat (IntKind.wrap IntKind.i64 (Int.tdiv (((List.length path) : Nat) : Int) (2 : Int)))) [(Value.int IntKind.u8 (0 : Int))]))⟩ 5 (Prod.mk 0 0))))).fst ∧
   (∀ sl : Sl,
   (∀ n : Int,
   (∀ h1 : Heap,
   (((k sl n h1)).fst →
    ((((decide (n < (IntKind.wrap IntKind.i64 (Int.tdiv (((List.length path) : Nat) : Int) (2 : Int))))) = Bool.true) →
    (∃ ui : UInt8,
    (((0 : Int) ≤ (IntKind.wrap IntKind.i64 ((2 : Int) * n))) ∧
     (((path)[(Int.toNat (IntKind.wrap IntKind.i64 ((2 : Int) * n)))]? = (Option.some ui)) ∧
     (∃ ui1 : UInt8,
     (((0 : Int) ≤ (IntKind.wrap IntKind.i64 ((IntKind.wrap IntKind.i64 ((2 : Int) * n)) + (1 : Int)))) ∧
     (((path)[(Int.toNat (IntKind.wrap IntKind.i64 ((IntKind.wrap IntKind.i64 ((2 : Int) * n)) + (1 : Int))))]? = (Option.some ui1)) ∧
      (((List.length [(Value.int IntKind.u8 (bitsV BinOp.or IntKind.u8 (IntKind.wrap IntKind.u8 ((((UInt8.toNat ui) : Nat) : Int) * (16 : Int))) (((UInt8.toNat ui1) : Nat) : Int)))]) = (1 * (1 : Nat))) ∧
      (∃ l : (List Value),
      (((rowOf h1 (sl).a ((sl).len * (1 : Nat))) = (Option.some l)) ∧
      (((((sl).len + 1) * (1 : Nat)) ≤ 140737488355328) ∧
       ((((sl).len + 1) ≤ 9223372036854775807) ∧
       (((((sl).len + 1) ≤ (sl).cap) →
       (∀ ad : Addr,
        (((sl).a = (Option.some ad)) →
        ((Option.isSome (wr h1 (Addr.add ad ((sl).len * (1 : Nat))) [(Value.int IntKind.u8 (bitsV BinOp.or IntKind.u8 (IntKind.wrap IntKind.u8 ((((UInt8.toNat ui) : Nat) : Int) * (16 : Int))) (((UInt8.toNat ui1) : Nat) : Int)))])) = Bool.true)))) ∧
       ((((sl).a = Option.none) →
        ((((sl).len + 1) ≤ (sl).cap) →
        ([(Value.int IntKind.u8 (bitsV BinOp.or IntKind.u8 (IntKind.wrap IntKind.u8 ((((UInt8.toNat ui) : Nat) : Int) * (16 : Int))) (((UInt8.toNat ui1) : Nat) : Int)))] = []))) ∧
       (∀ sl1 : Sl,
        (∀ h2 : Heap,
        ((AppRes h1 (Sl.mk (sl).a (sl).len (sl).cap) (1 : Nat) 5 l [(Value.int IntKind.u8 (bitsV BinOp.or IntKind.u8 (IntKind.wrap IntKind.u8 ((((UInt8.toNat ui) : Nat) : Int) * (16 : Int))) (((UInt8.toNat ui1) : Nat) : Int)))] 1 sl1 h2) →
        (((k (Sl.mk (sl1).a (sl1).len (sl1).cap) (IntKind.wrap IntKind.i64 (n + (1 : Int))) h2)).fst ∧
        (((k (Sl.mk (sl1).a (sl1).len (sl1).cap) (IntKind.wrap IntKind.i64 (n + (1 : Int))) h2)).snd < ((k sl n h1)).snd))))))))))))))))))) ∧
    (((decide (n < (IntKind.wrap IntKind.i64 (Int.tdiv (((List.length path) : Nat) : Int) (2 : Int))))) = Bool.false) →
    (Option.elim (sl).a (
    (Q (S []) h1))
    (fun (ad1 : Addr) =>
     (∃ l1 : (List UInt8),
     (((rdn h1 ad1 (sl).len) = (Option.some (List.map byteV l1))) ∧
     (Q (S l1) h1)))))))))))))))))))
theorem vc175 (path : List UInt8) (h : Heap) (Q : Value → Heap → Prop) : evF Tryz.prog τ tok 175 an175 [S path] h Q = VC175 path h Q := by kernel_rfl
theorem ok175 {path : List UInt8} {h : Heap} {Q : Value → Heap → Prop} (hv : VC175 path h Q) : Spec Tryz.prog 175 [S path] h Q := evF_sound (P := Tryz.prog) (τ := τ) (ok := tok) (an := an175) (fun _ => drawn mixed) (by rw [vc175]; exact hv)

/- pharos/nibble.Unpack -/
def an403 : An := (.nd none [] [] .leaf (.nd none [] [] .leaf (.nd none [] [] (.nd none [] [0, 1, 2, 3, 4, 5, 6, 7] .leaf .leaf) (.nd none [] [] .leaf (.nd none [] [] (.nd none [] [] (.nd (some [.slot 29 .bool]) [] [] .leaf .leaf) .leaf) (.nd none [] [] .leaf (.nd none [] [] (.nd none [] [] .leaf (.nd (some [.slot 8 .str]) [] [] .leaf .leaf)) .leaf)))))))
def VC403 (s : List UInt8) (h : Heap) (Q : Value → Heap → Prop) : Prop :=
 ((((s == []) = Bool.true) →
 (Q (Value.tuple ⟨[(S []), (Value.bool Bool.false), (Value.int IntKind.i64 (3 : Int))]⟩) h)) ∧
 (((s == []) = Bool.false) →
 (∃ ui : UInt8,
 (((0 : Int) ≤ (0 : Int)) ∧
  (((s)[0]? = (Option.some ui)) ∧
  (∃ ui1 : UInt8,
  (((0 : Int) ≤ (0 : Int)) ∧
  (((s)[0]? = (Option.some ui1)) ∧
   (∀ J : (Bool → (Heap → Prop)),
   (((∀ b : Bool,
   (∀ h1 : Heap,
    (((((b = Bool.true) →
    (Q (Value.tuple ⟨[(S []), (Value.bool Bool.false), (Value.int IntKind.i64 (3 : Int))]⟩) h1)) ∧
    ((b = Bool.false) →
    (((0 : Int) ≤ (1 : Int)) ∧
     (((1 ≤ (List.length s)) ∧
     ((List.length s) ≤ (List.length s))) ∧
     (Spec Tryz.prog 167 [(S (List.drop 1 (List.take (List.length s) s)))] h1 (fun v h2 =>
     (∃ l : (List UInt8),
     ((v = (S l)) ∧
      (∀ J1 : ((List UInt8) → (Heap → Prop)),
      (((∀ l1 : (List UInt8),
      (∀ h3 : Heap,
       ((Q (Value.tuple ⟨[(S l1), (Value.bool ((bitsV BinOp.and IntKind.u8 (Int.fdiv (((UInt8.toNat ui) : Nat) : Int) (16 : Int)) (2 : Int)) != (0 : Int))), (Value.int IntKind.i64 (0 : Int))]⟩) h3) →
       (J1 l1 h3))))) →
      (((((bitsV BinOp.and IntKind.u8 (Int.fdiv (((UInt8.toNat ui) : Nat) : Int) (16 : Int)) (1 : Int)) != (0 : Int)) = Bool.true) →
       (∃ l2 : (List UInt8),
       (((Option.some [(Value.int IntKind.u8 (bitsV BinOp.and IntKind.u8 (((UInt8.toNat ui1) : Nat) : Int) (15 : Int)))]) = (Option.some (List.map byteV l2))) ∧
       ((((List.length l2) + (List.length l)) ≤ 9223372036854775807) ∧
       (J1 (l2 ++ l) h2))))) ∧
      ((((bitsV BinOp.and IntKind.u8 (Int.fdiv (((UInt8.toNat ui) : Nat) : Int) (16 : Int)) (1 : Int)) != (0 : Int)) = Bool.false) →
       (J1 l h2)))))))))))))) →
    (J b h1))))) →
   ((((decide ((Int.fdiv (((UInt8.toNat ui) : Nat) : Int) (16 : Int)) > (3 : Int))) = Bool.false) →
    ((((!((bitsV BinOp.and IntKind.u8 (Int.fdiv (((UInt8.toNat ui) : Nat) : Int) (16 : Int)) (1 : Int)) != (0 : Int))) = Bool.true) →
    (J ((bitsV BinOp.and IntKind.u8 (((UInt8.toNat ui1) : Nat) : Int) (15 : Int)) != (0 : Int)) h)) ∧
    (((!((bitsV BinOp.and IntKind.u8 (Int.fdiv (((UInt8.toNat ui) : Nat) : Int) (16 : Int)) (1 : Int)) != (0 : Int))) = Bool.false) →
    (J Bool.false h)))) ∧
   (((decide ((Int.fdiv (((UInt8.toNat ui) : Nat) : Int) (16 : Int)) > (3 : Int))) = Bool.true) →
    (J Bool.true h)))))))))))))
theorem vc403 (s : List UInt8) (h : Heap) (Q : Value → Heap → Prop) : evF Tryz.prog τ tok 403 an403 [S s] h Q = VC403 s h Q := by kernel_rfl
theorem ok403 {s : List UInt8} {h : Heap} {Q : Value → Heap → Prop} (hv : VC403 s h Q) : Spec Tryz.prog 403 [S s] h Q := evF_sound (P := Tryz.prog) (τ := τ) (ok := tok) (an := an403) (fun _ => drawn mixed) (by rw [vc403]; exact hv)

/- pharos/nibble.Pack -/
def an387 : An := (.nd none [] [] .leaf (.nd none [] [] .leaf (.nd none [] [] .leaf (.nd none [] [] (.nd none [] [] .leaf (.nd (some [.slot 6 (.int .u8)]) [] [] .leaf .leaf)) (.nd none [] [] (.nd none [] [] .leaf (.nd (some [.slot 0 .str, .slot 6 (.int .u8)]) [] [] .leaf .leaf)) (.nd none [] [] (.nd none [] [1, 4] (.nd none [] [0, 3, 1, 2, 4, 5, 6, 7] .leaf .leaf) (.nd none [] [0, 3, 4, 1, 2, 5, 6, 7] .leaf .leaf)) .leaf))))))
def VC387 (path : List UInt8) (leaf : Bool) (h : Heap) (Q : Value → Heap → Prop) : Prop :=
 (Spec Tryz.prog 174 [(S path)] h (fun v h1 =>
 (∃ b : Bool,
 ((v = (Value.bool b)) ∧
 ((((!b) = Bool.true) →
  (Q (Value.tuple ⟨[(S []), (Value.int IntKind.i64 (3 : Int))]⟩) h1)) ∧
  (((!b) = Bool.false) →
  (∀ J : (Int → (Heap → Prop)),
  (((∀ n : Int,
   (∀ h2 : Heap,
   (((((2 : Int) ≠ (0 : Int)) ∧
   (∀ J1 : ((List UInt8) → (Int → (Heap → Prop))),
    (((∀ l : (List UInt8),
    (∀ n1 : Int,
    (∀ h3 : Heap,
     ((((∃ l1 : (List UInt8),
     (((Option.some [(Value.int IntKind.u8 n1)]) = (Option.some (List.map byteV l1))) ∧
      (Spec Tryz.prog 175 [(S l)] h3 (fun v1 h4 =>
      (∃ l2 : (List UInt8),
      ((v1 = (S l2)) ∧
      (((Option.some [(Value.int IntKind.u8 n1)]) = (Option.some [(Value.int IntKind.u8 n1)])) ∧
       ((((List.length l1) + (List.length l2)) ≤ 9223372036854775807) ∧
       (Q (Value.tuple ⟨[(S (l1 ++ l2)), (Value.int IntKind.i64 (0 : Int))]⟩) h4))))))))) ∧
     (Spec Tryz.prog 175 [(S l)] h3 (fun v2 h5 =>
     (∃ l3 : (List UInt8),
      ((v2 = (S l3)) ∧
      (∃ l4 : (List UInt8),
      (((Option.some [(Value.int IntKind.u8 n1)]) = (Option.some (List.map byteV l4))) ∧
      ((((List.length l4) + (List.length l3)) ≤ 9223372036854775807) ∧
       (Q (Value.tuple ⟨[(S (l4 ++ l3)), (Value.int IntKind.i64 (0 : Int))]⟩) h5)))))))))) →
     (J1 l n1 h3)))))) →
    (((((Int.tmod (((List.length path) : Nat) : Int) (2 : Int)) == (1 : Int)) = Bool.true) →
    (∃ ui : UInt8,
     (((0 : Int) ≤ (0 : Int)) ∧
     (((path)[0]? = (Option.some ui)) ∧
     (((0 : Int) ≤ (1 : Int)) ∧
     (((1 ≤ (List.length path)) ∧
      ((List.length path) ≤ (List.length path))) ∧
      (J1 (List.drop 1 (List.take (List.length path) path)) (bitsV BinOp.or IntKind.u8 n (bitsV BinOp.or IntKind.u8 (16 : Int) (((UInt8.toNat ui) : Nat) : Int))) h2))))))) ∧
    ((((Int.tmod (((List.length path) : Nat) : Int) (2 : Int)) == (1 : Int)) = Bool.false) →
    (J1 path n h2))))))) →
   (J n h2))))) →
  (((leaf = Bool.true) →
   (J (32 : Int) h1)) ∧
   ((leaf = Bool.false) →
   (J (0 : Int) h1)))))))))))
theorem vc387 (path : List UInt8) (leaf : Bool) (h : Heap) (Q : Value → Heap → Prop) : evF Tryz.prog τ tok 387 an387 [S path, .bool leaf] h Q = VC387 path leaf h Q := by kernel_rfl
theorem ok387 {path : List UInt8} {leaf : Bool} {h : Heap} {Q : Value → Heap → Prop} (hv : VC387 path leaf h Q) : Spec Tryz.prog 387 [S path, .bool leaf] h Q := evF_sound (P := Tryz.prog) (τ := τ) (ok := tok) (an := an387) (fun _ => drawn mixed) (by rw [vc387]; exact hv)

end Go.Vw
namespace Go.Vw
open Go Go.Proofs

theorem keyed_ok {key : List UInt8} {h : Heap} : Spec Tryz.prog 168 [S key] h (fun v h' => h' = h ∧ v = .bool (!(key == []) && decide (key.length ≤ 8))) := by
  apply ok168
  unfold VC168
  first
    | (intro J hJ
       refine ⟨fun hk => hJ _ _ ⟨rfl, ?_⟩, fun hk => hJ _ _ ⟨rfl, ?_⟩⟩
       · rw [hk]; simp; omega
       · rw [hk]; rfl)
    | (refine ⟨fun hk => ⟨rfl, ?_⟩, fun hk => ⟨rfl, ?_⟩⟩
       · rw [hk]; simp; omega
       · rw [hk]; rfl)

theorem fit_ok {path : List UInt8} (hlen : path.length ≤ 9223372036854775807) {h : Heap} : Spec Tryz.prog 174 [S path] h (fun v h' => h' = h ∧ v = .bool (path.all (· ≤ 15))) := by
  apply ok174
  unfold VC174
  refine ⟨fun n h1 => (h1 = h ∧ 0 ≤ n ∧ n ≤ path.length ∧ (∀ x ∈ path.take n.toNat, x ≤ 15), path.length - n.toNat), ?_, ?_⟩
  · simp
  · rintro n h1 ⟨rfl, h0, hn, hall⟩
    refine ⟨fun hlt => ?_, fun hge => ?_⟩
    · simp only [decide_eq_true_eq] at hlt
      have hi : n.toNat < path.length := by omega
      refine ⟨path[n.toNat], h0, by simp [hi], fun hgt => ?_, fun hle => ?_⟩
      · refine ⟨rfl, ?_⟩
        congr 1
        symm
        rw [List.all_eq_false]
        refine ⟨path[n.toNat], List.getElem_mem hi, ?_⟩
        simp only [decide_eq_true_eq] at hgt ⊢
        intro hc
        have : (path[n.toNat]).toNat ≤ 15 := UInt8.le_iff_toNat_le.1 hc
        omega
      · simp only [decide_eq_false_iff_not] at hle
        have hw : IntKind.wrap .i64 (n + 1) = n + 1 := wrap64 (by omega) (by omega)
        rw [hw]
        refine ⟨⟨rfl, by omega, by omega, ?_⟩, by show path.length - (n + 1).toNat < path.length - n.toNat; omega⟩
        have e : (n + 1).toNat = n.toNat + 1 := by omega
        rw [e, List.take_add_one]
        intro x hx
        rcases List.mem_append.1 hx with hx | hx
        · exact hall x hx
        · simp [hi] at hx
          subst hx
          exact UInt8.le_iff_toNat_le.2 (by have : (15 : UInt8).toNat = 15 := rfl; omega)
    · simp only [decide_eq_false_iff_not] at hge
      have e : n.toNat = path.length := by omega
      rw [e, List.take_length] at hall
      refine ⟨rfl, ?_⟩
      congr 1
      symm
      rw [List.all_eq_true]
      intro x hx
      simpa using hall x hx

/-- How far two texts are alike. -/
def comm : List UInt8 → List UInt8 → Nat
  | x :: a, y :: b => if x = y then comm a b + 1 else 0
  | _, _ => 0
theorem comm_nil_left (b : List UInt8) : comm [] b = 0 := by cases b <;> rfl
theorem comm_nil_right (a : List UInt8) : comm a [] = 0 := by cases a <;> rfl
theorem comm_drop {a b : List UInt8} {i : Nat} (ha : i < a.length) (hb : i < b.length) : comm (a.drop i) (b.drop i) = if a[i] = b[i] then comm (a.drop (i + 1)) (b.drop (i + 1)) + 1 else 0 := by
  rw [List.drop_eq_getElem_cons ha, List.drop_eq_getElem_cons hb]; rfl

theorem common_ok {a b : List UInt8} (hlen : a.length ≤ 9223372036854775806) {h : Heap} : Spec Tryz.prog 251 [S a, S b] h (fun v h' => h' = h ∧ v = .int .i64 (comm a b)) := by
  apply ok251
  unfold VC251
  refine ⟨fun n h1 => (h1 = h ∧ 0 ≤ n ∧ n ≤ a.length ∧ comm a b = n.toNat + comm (a.drop n.toNat) (b.drop n.toNat), a.length - n.toNat), ?_, ?_⟩
  · simp
  · rintro n h1 ⟨rfl, h0, hn, hc⟩ J hJ
    have last : comm (a.drop n.toNat) (b.drop n.toNat) = 0 → J Bool.false h1 := fun hz => by
      refine hJ false h1 ⟨fun h => (by cases h), fun _ => ⟨rfl, ?_⟩⟩
      rw [hc, hz]
      congr 1
      omega
    refine ⟨fun hlt => ⟨fun hlb => ?_, fun hnb => last ?_⟩, fun hge => last ?_⟩
    · simp only [decide_eq_true_eq] at hlt hlb
      have hi : n.toNat < a.length := by omega
      have hj : n.toNat < b.length := by omega
      refine ⟨a[n.toNat], h0, by simp [hi], b[n.toNat], h0, by simp [hj], ?_⟩
      have hcd := comm_drop hi hj
      by_cases hab : a[n.toNat] = b[n.toNat]
      · rw [if_pos hab] at hcd
        refine hJ _ h1 ⟨fun _ => ?_, fun hf => ?_⟩
        · have hw : IntKind.wrap .i64 (n + 1) = n + 1 := wrap64 (by omega) (by omega)
          have e : (n + 1).toNat = n.toNat + 1 := by omega
          rw [hw]
          refine ⟨⟨rfl, by omega, by omega, ?_⟩, by show a.length - (n + 1).toNat < a.length - n.toNat; omega⟩
          rw [e, hc, hcd]; omega
        · rw [hab] at hf; simp at hf
      · rw [if_neg hab] at hcd
        have : (((a[n.toNat]).toNat : Int) == ((b[n.toNat]).toNat : Int)) = false := by
          rw [beq_eq_false_iff_ne]
          intro e
          exact hab (UInt8.toNat_inj.1 (by omega))
        rw [this]
        exact last hcd
    · simp only [decide_eq_false_iff_not] at hnb
      rw [List.drop_eq_nil_of_le (by omega : b.length ≤ n.toNat), comm_nil_right]
    · simp only [decide_eq_false_iff_not] at hge
      rw [List.drop_eq_nil_of_le (by omega : a.length ≤ n.toNat), comm_nil_left]

/-! ### nibble.Of -/

def nib (key : List UInt8) : List UInt8 := key.flatMap fun b => [b / 16, b &&& 15]
theorem nib_len (key : List UInt8) : (nib key).length = 2 * key.length := by
  induction key with
  | nil => rfl
  | cons b l ih =>
    have : nib (b :: l) = [b / 16, b &&& 15] ++ nib l := rfl
    rw [this, List.length_append, ih, List.length_cons]
    simp; omega
theorem and_u8 (a b : UInt8) : bitsV .and .u8 a.toNat b.toNat = ((a &&& b).toNat : Int) := by
  have e : bitsV .and .u8 a.toNat b.toNat = IntKind.wrap .u8 (((BitVec.ofInt 8 (a.toNat : Int) &&& BitVec.ofInt 8 (b.toNat : Int)).toNat : Nat) : Int) := rfl
  have h1 : BitVec.ofInt 8 (a.toNat : Int) = a.toBitVec := by
    apply BitVec.eq_of_toNat_eq
    simp
  have h2 : BitVec.ofInt 8 (b.toNat : Int) = b.toBitVec := by
    apply BitVec.eq_of_toNat_eq
    simp
  rw [e, h1, h2]
  exact wrapU8 (n := ((a &&& b).toNat : Int)) (by omega) (by have := (a &&& b).toNat_lt; omega)
theorem high_u8 (b : UInt8) : Int.fdiv (b.toNat : Int) 16 = ((b / 16).toNat : Int) := by
  rw [Int.fdiv_eq_ediv_of_nonneg _ (by decide)]
  simp [UInt8.toNat_div]

theorem of_ok {key : List UInt8} (hlen : key.length ≤ 1099511627776) {h : Heap} : Spec Tryz.prog 167 [S key] h (fun v h' => h' = h ∧ v = S (nib key)) := by
  apply Spec.forget
  apply ok167
  unfold VC167
  have hw2 : IntKind.wrap .i64 ((2 : Int) * (key.length : Int)) = 2 * (key.length : Int) := wrap64 (by omega) (by omega)
  rw [hw2]
  refine ⟨⟨by omega, by omega, by omega⟩, by omega, fun b hb => ?_⟩
  have e2 : (2 * (key.length : Int)).toNat = 2 * key.length := by omega
  rw [e2]
  refine ⟨fun sl n h1 => (Grow h h1 sl 1 ((nib (key.take n.toNat)).map byteV) ∧ 0 ≤ n ∧ n ≤ key.length, key.length - n.toNat), ?_, ?_⟩
  · refine ⟨⟨Heap.le_set _ hb, by simp [nib], by simp, .inr ⟨b, _, _, rfl, hb, Heap.set_same _ _ _, by simp⟩⟩, by omega, by omega⟩
  · rintro sl n h1 ⟨g, h0, hn⟩
    have glen : sl.len = 2 * n.toNat := by
      have := g.2.1
      simp [nib_len] at this
      omega
    refine ⟨fun hlt => ?_, fun hge => ?_⟩
    · simp only [decide_eq_true_eq] at hlt
      have hi : n.toNat < key.length := by omega
      refine ⟨key[n.toNat], h0, by simp [hi], key[n.toNat], h0, by simp [hi], rfl, _, g.row, by omega, by omega, (g.fits (m := 2) rfl).1, (g.fits (m := 2) rfl).2, fun r h2 ha => ?_⟩
      have hw : IntKind.wrap .i64 (n + 1) = n + 1 := wrap64 (by omega) (by omega)
      have e : (n + 1).toNat = n.toNat + 1 := by omega
      rw [hw]
      refine ⟨⟨?_, by omega, by omega⟩, by show key.length - (n + 1).toNat < key.length - n.toNat; omega⟩
      have g2 := g.app (m := 2) rfl ha
      rw [e, List.take_add_one]
      have hk : key[n.toNat]? = some key[n.toNat] := by simp [hi]
      rw [hk]
      have e3 : nib (key.take n.toNat ++ (some key[n.toNat]).toList) = nib (key.take n.toNat) ++ [key[n.toNat] / 16, key[n.toNat] &&& 15] := by
        show (key.take n.toNat ++ [key[n.toNat]]).flatMap _ = _
        rw [List.flatMap_append]
        rfl
      rw [e3, List.map_append]
      have e4 : [key[n.toNat] / 16, key[n.toNat] &&& 15].map byteV = [Value.int .u8 (Int.fdiv (key[n.toNat].toNat : Int) 16), Value.int .u8 (bitsV .and .u8 (key[n.toNat].toNat : Int) 15)] := by
        have a15 := and_u8 key[n.toNat] 15
        rw [high_u8]
        have : ((15 : UInt8).toNat : Int) = 15 := rfl
        rw [this] at a15
        rw [a15]; rfl
      rw [e4]
      exact g2
    · simp only [decide_eq_false_iff_not] at hge
      have e : n.toNat = key.length := by omega
      rw [e, List.take_length] at g
      have hrow := g.row
      cases ha : sl.a with
      | none =>
        rw [ha] at hrow
        simp only [Option.elim]
        refine ⟨g.1, ?_⟩
        unfold rowOf at hrow
        simp only at hrow
        split at hrow
        · injection hrow with hrow
          have : nib key = [] := by simpa using hrow.symm
          rw [this]
        · cases hrow
      | some ad =>
        rw [ha] at hrow
        simp only [Option.elim]
        refine ⟨nib key, ?_, g.1, rfl⟩
        simpa [rowOf] using hrow

/-! ### nibble.joined -/

def jn : List UInt8 → List UInt8
  | a :: b :: r => (a * 16 ||| b) :: jn r
  | _ => []
theorem jn_take : ∀ (n : Nat) (path : List UInt8) (h : 2 * n + 1 < path.length), jn (path.take (2 * (n + 1))) = jn (path.take (2 * n)) ++ [path[2 * n] * 16 ||| path[2 * n + 1]]
  | 0, a :: b :: r, h => by simp [jn]
  | n + 1, a :: b :: r, h => by
    have ih := jn_take n r (by simp at h; omega)
    have e1 : 2 * (n + 1 + 1) = 2 * (n + 1) + 1 + 1 := by omega
    have e2 : 2 * (n + 1) = 2 * n + 1 + 1 := by omega
    rw [e1, List.take_succ_cons, List.take_succ_cons]
    have e3 : (a :: b :: r).take (2 * (n + 1)) = a :: b :: r.take (2 * n) := by rw [e2]; rfl
    rw [e3]
    simp only [jn, ih, List.cons_append]
    congr 2
  | _, [], h => by simp at h
  | _, [a], h => by simp at h
theorem jn_len : ∀ (path : List UInt8), (jn path).length = path.length / 2
  | [] => rfl
  | [a] => by simp [jn]
  | a :: b :: r => by
    simp only [jn, List.length_cons, jn_len r]
    omega
theorem jn_even : ∀ (path : List UInt8), jn (path.take (2 * (path.length / 2))) = jn path
  | [] => rfl
  | [a] => by simp [jn]
  | a :: b :: r => by
    have e : 2 * ((a :: b :: r).length / 2) = 2 * (r.length / 2) + 1 + 1 := by simp only [List.length_cons]; omega
    rw [e, List.take_succ_cons, List.take_succ_cons]
    simp only [jn, jn_even r]
theorem or_u8 (a b : UInt8) : bitsV .or .u8 a.toNat b.toNat = ((a ||| b).toNat : Int) := by
  have e : bitsV .or .u8 a.toNat b.toNat = IntKind.wrap .u8 (((BitVec.ofInt 8 (a.toNat : Int) ||| BitVec.ofInt 8 (b.toNat : Int)).toNat : Nat) : Int) := rfl
  have h1 : BitVec.ofInt 8 (a.toNat : Int) = a.toBitVec := by
    apply BitVec.eq_of_toNat_eq
    simp
  have h2 : BitVec.ofInt 8 (b.toNat : Int) = b.toBitVec := by
    apply BitVec.eq_of_toNat_eq
    simp
  rw [e, h1, h2]
  exact wrapU8 (n := ((a ||| b).toNat : Int)) (by omega) (by have := (a ||| b).toNat_lt; omega)
theorem mul16_u8 (a : UInt8) : IntKind.wrap .u8 ((a.toNat : Int) * 16) = ((a * 16).toNat : Int) := by
  have : IntKind.wrap .u8 ((a.toNat : Int) * 16) = ((a.toNat : Int) * 16) % 256 := by simp [IntKind.wrap, IntKind.signed, IntKind.bits]
  rw [this, UInt8.toNat_mul]
  have : (16 : UInt8).toNat = 16 := rfl
  rw [this]
  omega

theorem joined_ok {path : List UInt8} (hlen : path.length ≤ 1099511627776) {h : Heap} : Spec Tryz.prog 175 [S path] h (fun v h' => h' = h ∧ v = S (jn path)) := by
  apply Spec.forget
  apply ok175
  unfold VC175
  have hd : Int.tdiv (path.length : Int) 2 = ((path.length / 2 : Nat) : Int) := by
    rw [Int.tdiv_eq_ediv_of_nonneg (by omega)]; omega
  have hw2 : IntKind.wrap .i64 (Int.tdiv (path.length : Int) 2) = ((path.length / 2 : Nat) : Int) := by rw [hd]; exact wrap64 (by omega) (by omega)
  rw [hw2]
  refine ⟨by decide, ⟨by omega, by omega, by omega⟩, by omega, fun b hb => ⟨by decide, ?_⟩⟩
  rw [Int.toNat_natCast]
  refine ⟨fun sl n h1 => (Grow h h1 sl 1 ((jn (path.take (2 * n.toNat))).map byteV) ∧ 0 ≤ n ∧ n ≤ ((path.length / 2 : Nat) : Int), path.length / 2 - n.toNat), ?_, ?_⟩
  · refine ⟨⟨Heap.le_set _ hb, by simp [jn], by simp, .inr ⟨b, _, _, rfl, hb, Heap.set_same _ _ _, by simp⟩⟩, by omega, by omega⟩
  · rintro sl n h1 ⟨g, h0, hn⟩
    have glen : sl.len = n.toNat := by
      have := g.2.1
      simp [jn_len] at this
      omega
    refine ⟨fun hlt => ?_, fun hge => ?_⟩
    · simp only [decide_eq_true_eq] at hlt
      have hi : 2 * n.toNat + 1 < path.length := by omega
      have hw : IntKind.wrap .i64 (n + 1) = n + 1 := wrap64 (by omega) (by omega)
      have hw3 : IntKind.wrap .i64 (2 * n) = 2 * n := wrap64 (by omega) (by omega)
      have hw4 : IntKind.wrap .i64 (2 * n + 1) = 2 * n + 1 := wrap64 (by omega) (by omega)
      have e : (n + 1).toNat = n.toNat + 1 := by omega
      have e5 : (2 * n).toNat = 2 * n.toNat := by omega
      have e6 : (2 * n + 1).toNat = 2 * n.toNat + 1 := by omega
      rw [hw, hw3, hw4, e5, e6]
      refine ⟨path[2 * n.toNat], by omega, List.getElem?_eq_getElem _, path[2 * n.toNat + 1], by omega, List.getElem?_eq_getElem _, rfl, _, g.row, by omega, by omega, (g.fits (m := 1) rfl).1, (g.fits (m := 1) rfl).2, fun r h2 ha => ?_⟩
      refine ⟨⟨?_, by omega, by omega⟩, by show path.length / 2 - (n + 1).toNat < path.length / 2 - n.toNat; omega⟩
      have g2 := g.app (m := 1) rfl ha
      rw [e, jn_take _ _ hi, List.map_append]
      have e4 : [path[2 * n.toNat] * 16 ||| path[2 * n.toNat + 1]].map byteV = [Value.int .u8 (bitsV .or .u8 (IntKind.wrap .u8 ((path[2 * n.toNat].toNat : Int) * 16)) (path[2 * n.toNat + 1].toNat : Int))] := by
        rw [mul16_u8, or_u8]; rfl
      rw [e4]
      exact g2
    · simp only [decide_eq_false_iff_not] at hge
      have e : n.toNat = path.length / 2 := by omega
      rw [e, jn_even] at g
      have hrow := g.row
      cases ha : sl.a with
      | none =>
        rw [ha] at hrow
        simp only [Option.elim]
        refine ⟨g.1, ?_⟩
        unfold rowOf at hrow
        simp only at hrow
        split at hrow
        · injection hrow with hrow
          have : jn path = [] := by simpa using hrow.symm
          rw [this]
        · cases hrow
      | some ad =>
        rw [ha] at hrow
        simp only [Option.elim]
        refine ⟨jn path, ?_, g.1, rfl⟩
        simpa [rowOf] using hrow
end Go.Vw
namespace Go.Vw
open Go Go.Proofs

theorem ne_zero_u8 (a : UInt8) : ((a.toNat : Int) != 0) = (a != 0) := by
  by_cases h : a = 0
  · subst h; rfl
  · have h1 : (a.toNat : Int) ≠ 0 := fun e => h (UInt8.toNat_inj.1 (by show a.toNat = 0; omega))
    rw [bne_iff_ne.2 h1, bne_iff_ne.2 h]
theorem and_high (b : UInt8) (c : UInt8) : bitsV .and .u8 (Int.fdiv (b.toNat : Int) 16) (c.toNat : Int) = ((b / 16 &&& c).toNat : Int) := by rw [high_u8, and_u8]

def unp (s : List UInt8) : List UInt8 × Bool × Int :=
  match s with
  | [] => ([], false, 3)
  | b :: r => if 3 < b / 16 ∨ (b / 16 &&& 1 = 0 ∧ b &&& 15 ≠ 0) then ([], false, 3) else ((if b / 16 &&& 1 = 0 then nib r else (b &&& 15) :: nib r), b / 16 &&& 2 != 0, 0)

theorem unpack_ok {s : List UInt8} (hlen : s.length ≤ 1099511627776) {h : Heap} : Spec Tryz.prog 403 [S s] h (fun v h' => h' = h ∧ v = .tuple ⟨[S (unp s).1, .bool (unp s).2.1, .int .i64 (unp s).2.2]⟩) := by
  apply ok403
  unfold VC403
  refine ⟨fun he => ?_, fun hne => ?_⟩
  · have : s = [] := by simpa using he
    subst this
    exact ⟨rfl, rfl⟩
  · cases s with
    | nil => simp at hne
    | cons b r =>
      have a1 : bitsV .and .u8 (Int.fdiv (b.toNat : Int) 16) 1 = ((b / 16 &&& 1).toNat : Int) := and_high b 1
      have a2 : bitsV .and .u8 (Int.fdiv (b.toNat : Int) 16) 2 = ((b / 16 &&& 2).toNat : Int) := and_high b 2
      have a15 : bitsV .and .u8 (b.toNat : Int) 15 = ((b &&& 15).toNat : Int) := and_u8 b 15
      have hgt : (decide (Int.fdiv (b.toNat : Int) 16 > 3)) = decide (3 < b / 16) := by
        rw [high_u8]
        apply decide_eq_decide.2
        rw [UInt8.lt_iff_toNat_lt]
        have : (3 : UInt8).toNat = 3 := rfl
        omega
      refine ⟨b, by omega, rfl, b, by omega, rfl, fun J hJ => ?_⟩
      rw [a1, a2, a15] at hJ
      rw [a1, a15, hgt]
      simp only [ne_zero_u8] at hJ ⊢
      have bad : (3 < b / 16 ∨ (b / 16 &&& 1 = 0 ∧ b &&& 15 ≠ 0)) → J true h := fun hb => by
        refine hJ true h ⟨fun _ => ⟨rfl, ?_⟩, fun hf => (by cases hf)⟩
        simp only [unp, if_pos hb]
      have good : ¬ (3 < b / 16 ∨ (b / 16 &&& 1 = 0 ∧ b &&& 15 ≠ 0)) → J false h := fun hb => by
        refine hJ false h ⟨fun hf => (by cases hf), fun _ => ⟨by omega, ⟨by simp, by omega⟩, ?_⟩⟩
        have e : (List.drop 1 (List.take (b :: r).length (b :: r))) = r := by rw [List.take_length]; rfl
        rw [e]
        refine Spec.mono ?_ (of_ok (h := h) (key := r) (by simp at hlen; omega))
        rintro v h' ⟨rfl, rfl⟩
        refine ⟨nib r, rfl, fun J1 hJ1 => ⟨fun hodd => ?_, fun hev => ?_⟩⟩
        · refine ⟨[b &&& 15], rfl, by simp [nib_len]; simp at hlen; omega, hJ1 _ _ ⟨rfl, ?_⟩⟩
          have ho : ¬ (b / 16 &&& 1 = 0) := by simpa using hodd
          simp only [unp, if_neg hb, if_neg ho]
          rfl
        · refine hJ1 _ _ ⟨rfl, ?_⟩
          have ho : b / 16 &&& 1 = 0 := by simpa using hev
          simp only [unp, if_neg hb, if_pos ho]
      refine ⟨fun hle => ⟨fun hev => ?_, fun hodd => ?_⟩, fun hgt => bad (.inl (by simpa using hgt))⟩
      · have ho : b / 16 &&& 1 = 0 := by simpa using hev
        have hle' : ¬ 3 < b / 16 := by simpa using hle
        by_cases hz : b &&& 15 = 0
        · have : (b &&& 15 != 0) = false := by simp [hz]
          rw [this]
          exact good (by rintro (h1 | h1); exact hle' h1; exact h1.2 hz)
        · have : (b &&& 15 != 0) = true := by simp [hz]
          rw [this]
          exact bad (.inr ⟨ho, hz⟩)
      · have ho : ¬ (b / 16 &&& 1 = 0) := by simpa using hodd
        have hle' : ¬ 3 < b / 16 := by simpa using hle
        exact good (by rintro (h1 | h1); exact hle' h1; exact ho h1.1)

/-! ### nibble.Pack -/

def pk (path : List UInt8) (leaf : Bool) : List UInt8 × Int :=
  if path.all (· ≤ 15) then
    let f : UInt8 := if leaf then 32 else 0
    match path with
    | a :: r => if path.length % 2 = 1 then ((f ||| (16 ||| a)) :: jn r, 0) else (f :: jn path, 0)
    | [] => ([f], 0)
  else ([], 3)

theorem pack_ok {path : List UInt8} {leaf : Bool} (hlen : path.length ≤ 1099511627776) {h : Heap} : Spec Tryz.prog 387 [S path, .bool leaf] h (fun v h' => h' = h ∧ v = .tuple ⟨[S (pk path leaf).1, .int .i64 (pk path leaf).2]⟩) := by
  apply ok387
  unfold VC387
  refine Spec.mono ?_ (fit_ok (h := h) (path := path) (by omega))
  rintro v h' ⟨rfl, rfl⟩
  refine ⟨_, rfl, fun hbad => ?_, fun hgood => ?_⟩
  · have hb : path.all (· ≤ 15) = false := by simpa using hbad
    refine ⟨rfl, ?_⟩
    simp only [pk, hb]
    rfl
  · have hg : path.all (· ≤ 15) = true := by simpa using hgood
    intro J hJ
    have main : ∀ f : UInt8, f = (if leaf then 32 else 0) → J (f.toNat : Int) h' := by
      intro f hf
      refine hJ _ h' ⟨by decide, fun J1 hJ1 => ?_⟩
      -- what is put together, in either order
      have put : ∀ (l : List UInt8) (c : UInt8), l.length ≤ path.length → pk path leaf = (c :: jn l, 0) → J1 l (c.toNat : Int) h' := by
        intro l c hl hp
        have hj : Spec Tryz.prog 175 [S l] h' (fun v h'' => h'' = h' ∧ v = S (jn l)) := joined_ok (by omega)
        have hjl := jn_len l
        refine hJ1 l _ h' ⟨⟨[c], rfl, Spec.mono ?_ hj⟩, Spec.mono ?_ hj⟩
        · rintro v h'' ⟨rfl, rfl⟩
          exact ⟨jn l, rfl, rfl, by simp; omega, rfl, by rw [hp]; rfl⟩
        · rintro v h'' ⟨rfl, rfl⟩
          exact ⟨jn l, rfl, [c], rfl, by simp; omega, rfl, by rw [hp]; rfl⟩
      have htm : Int.tmod (path.length : Int) 2 = ((path.length % 2 : Nat) : Int) := by
        rw [Int.tmod_eq_emod_of_nonneg (by omega)]; omega
      rw [htm]
      refine ⟨fun hodd => ?_, fun hev => ?_⟩
      · have ho : path.length % 2 = 1 := by
          have := beq_iff_eq.1 hodd
          omega
        cases path with
        | nil => simp at ho
        | cons a r =>
          refine ⟨a, by omega, rfl, by omega, ⟨by simp, by omega⟩, ?_⟩
          have e : (List.drop 1 (List.take (a :: r).length (a :: r))) = r := by rw [List.take_length]; rfl
          have e1 : bitsV .or .u8 (16 : Int) (a.toNat : Int) = ((16 ||| a).toNat : Int) := or_u8 16 a
          rw [e, e1, or_u8]
          refine put r _ (by simp) ?_
          simp only [pk, hg, if_true, ← hf, ho]
      · have ho : ¬ path.length % 2 = 1 := by
          intro hc
          rw [hc] at hev
          simp at hev
        refine put path f (Nat.le_refl _) ?_
        cases path with
        | nil => simp only [pk, hg, if_true, ← hf]; rfl
        | cons a r => simp only [pk, hg, if_true, ← hf, ho, if_false]
    refine ⟨fun hl => ?_, fun hl => ?_⟩
    · exact main 32 (by rw [hl]; rfl)
    · exact main 0 (by rw [hl]; rfl)
end Go.Vw
