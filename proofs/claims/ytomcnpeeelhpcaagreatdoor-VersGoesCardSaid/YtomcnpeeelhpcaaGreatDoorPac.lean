/-
  Nodes as bytes, and the way back, as plain data; a trie's nodes, their texts, sums and counts. What a reader's functions come to: texts, bytes, the end. Conditions of functions, printed by a tool of mine (vcs.py). What the functions of 'sha' come to: plain functions of words and bytes.
-/
import Derived.Test.YtomcnpeeelhpcaaGreatDoorPab
import Derived.Test.YtomcnpeeelhpcaaGreatDoorVwBase0
namespace Go.Vw
open Go Go.Proofs

def empties : List Bs := List.replicate 16 []
def kidsN (n : GApiNode) : List Bs := n.Kids.filter fun s => !(s == [])
def pathOk (p : Bs) (least : Nat) : Bool := p.all (· ≤ 15) && decide (least ≤ p.length) && decide (p.length ≤ 16)
def sumsOk (l : List Bs) : Bool := l.all fun s => s.length == 32
def checkN (n : GApiNode) : Bool :=
  if n.Kind = 1 then n.Kids == empties && pathOk n.Path 0 && !(n.Value == []) && decide (n.Value.length ≤ 32)
  else if n.Kind = 2 then n.Kids == (n.Kids.headD [] :: List.replicate 15 []) && sumsOk [n.Kids.headD []] && pathOk n.Path 1 && n.Value == []
  else if n.Kind = 3 then n.Path == [] && sumsOk (kidsN n) && decide (2 ≤ (kidsN n).length + (if n.Value = [] then 0 else 1)) && decide (n.Value.length ≤ 32)
  else false
/-- Which kids there are, a bit each, the first one's the greatest. -/
def bitsL (l : List Bs) : Nat := l.foldl (fun b s => 2 * b + if s = [] then 0 else 1) 0
def encN (n : GApiNode) : Bs :=
  if checkN n then
    if n.Kind = 3 then [3, UInt8.ofNat (bitsL n.Kids / 256), UInt8.ofNat (bitsL n.Kids)] ++ (kidsN n).flatten ++ textT n.Value
    else if n.Kind = 1 then [1] ++ textT (pk n.Path true).1 ++ textT n.Value
    else [2] ++ textT (pk n.Path false).1 ++ n.Kids.headD []
  else []

def bitAt (n i : Nat) : Bool := n / 2 ^ i % 2 == 1
def kidsR (bits : Nat) : List Nat → RdS → List Bs × RdS
  | [], r => ([], r)
  | i :: l, r =>
    let (s, r1) := if bitAt bits (15 - i) then r.Bytes 32 else ([], r)
    let (ks, r2) := kidsR bits l r1
    (s :: ks, r2)
def branchR (r : RdS) : GApiNode × RdS :=
  match r.Bytes 2 with
  | (b0 :: b1 :: _, r1) =>
    let (ks, r2) := kidsR (b0.toNat * 256 + b1.toNat) (List.range 16) r1
    let (v, r3) := r2.Text 32
    (⟨3, [], v, ks⟩, r3)
  | (_, r1) => (⟨3, [], [], empties⟩, r1)
def otherR (kind : Int) (r : RdS) : (GApiNode × Bool) × RdS :=
  let (s, r1) := r.Text 16
  let (p, leaf, e) := unp s
  if kind = 1 then
    let (v, r2) := r1.Text 32
    ((⟨kind, p, v, empties⟩, e == 0 && leaf), r2)
  else
    let (k, r2) := r1.Bytes 32
    ((⟨kind, p, [], k :: List.replicate 15 []⟩, e == 0 && !leaf), r2)
def zeroN : GApiNode := ⟨0, [], [], empties⟩
def kindOf : Bs → Int
  | x :: _ => x.toNat
  | [] => 0
def decN (s : Bs) : GApiNode × Int :=
  let (k, r1) := (RdS.mk s 0 0).Bytes 1
  let kind := kindOf k
  let ((n, fine), r2) := if kind = 3 then (((branchR r1).1, true), (branchR r1).2) else otherR kind r1
  if r2.End.1 = 0 ∧ fine = true ∧ checkN n = true then (n, 0) else (zeroN, 80)
end Go.Vw
namespace Go.Vw
open Go Go.Proofs

theorem take_s (r : RdS) (n : Nat) : (r.take n).2.s = r.s ∧ (r.take n).2.c = r.c ∧ r.at_ ≤ (r.take n).2.at_ := by
  unfold RdS.take; split <;> simp
theorem num2_s (r : RdS) (k : Nat) : (r.num2 k).2.s = r.s ∧ (r.num2 k).2.c = r.c ∧ r.at_ ≤ (r.num2 k).2.at_ := by
  unfold RdS.num2
  split
  · simp
  · have := take_s r k
    split <;> rename_i h <;> rw [h] at this
    · exact this
    · split <;> exact this
theorem number_s (r : RdS) : r.number.2.s = r.s ∧ r.number.2.c = r.c ∧ r.at_ ≤ r.number.2.at_ := by
  unfold RdS.number
  split
  · simp
  · have h1 := take_s r 1
    split
    · rename_i x l r1 h
      rw [h] at h1
      have h2 := num2_s r1 x.toNat
      exact ⟨h2.1.trans h1.1, h2.2.1.trans h1.2.1, Nat.le_trans h1.2.2 h2.2.2⟩
    · rename_i y r1 _ h
      rw [h] at h1; exact h1
theorem num2_good {r : RdS} (ho : r.ok) (k : Nat) : (r.num2 k).2.ok ∧ 0 ≤ (r.num2 k).1.1 ∧ (r.num2 k).1.1 ≤ 9223372036854775807 := by
  unfold RdS.num2
  split
  · exact ⟨ho, by simp, by simp⟩
  · rename_i hk
    have h1 := take_good ho k
    have hl : (r.take k).1.1.length ≤ 8 := by
      unfold RdS.take
      split
      · simp; omega
      · simp
    split
    · rename_i h
      rw [h] at h1; exact ⟨h1, by simp, by simp⟩
    · rename_i b r2 h
      rw [h] at h1 hl
      dsimp only at h1 hl
      split
      · exact ⟨h1, by simp, by simp⟩
      · rename_i hb
        have := ofBe_good hl (by simpa using hb)
        exact ⟨h1, by dsimp only; omega, by dsimp only; omega⟩
theorem number_good {r : RdS} (ho : r.ok) : r.number.2.ok ∧ 0 ≤ r.number.1.1 ∧ r.number.1.1 ≤ 9223372036854775807 := by
  unfold RdS.number
  split
  · exact ⟨ho, by simp, by simp⟩
  · have h1 := take_good ho 1
    split
    · rename_i x l r1 h
      rw [h] at h1
      exact num2_good h1 x.toNat
    · rename_i y r1 _ h
      rw [h] at h1; exact ⟨h1, by simp, by simp⟩

section
variable {h : Heap} {a : Nat} {e : TypeId} {r : RdS}
theorem rtext_ok (ha : h a = some (rdO e r)) (ho : r.ok) (most : Int) : Spec Tryz.prog 341 [.pointer (some ⟨a, 0, none⟩), .int .i64 most] h
    (fun v h' => h' = h.set a (rdO e (r.text most).2) ∧ v = .tuple ⟨[S (r.text most).1.1, .int .i64 (r.text most).1.2]⟩) := by
  apply ok341
  unfold VC341
  refine (number_ok ha ho).mono ?_
  rintro v h1 ⟨rfl, rfl⟩
  have hg := number_good ho
  unfold RdS.text
  rcases hr : r.number with ⟨⟨n, c⟩, r1⟩
  rw [hr] at hg
  dsimp only at hg ⊢
  refine ⟨_, _, rfl, fun hc => ?_, fun hc => ?_⟩
  · rw [if_pos (show c ≠ 0 by simpa using hc)]
    exact ⟨rfl, rfl⟩
  · rw [if_neg (show ¬ c ≠ 0 by simpa using hc)]
    refine ⟨fun hm => ?_, fun hm => ?_⟩
    · rw [if_pos (show most < n by simpa using hm)]
      exact ⟨rfl, rfl⟩
    · rw [if_neg (show ¬ most < n by simpa using hm)]
      refine (take_ok (Heap.set_same _ _ _) hg.1 hg.2.1 hg.2.2).mono ?_
      rintro v h1 ⟨rfl, rfl⟩
      rw [Heap.set_set]
      rcases hr2 : r1.take n.toNat with ⟨⟨l, b⟩, r2⟩
      refine ⟨_, _, rfl, fun hb => ?_, fun hb => ?_⟩
      · obtain rfl : b = false := by simpa using hb
        exact ⟨rfl, rfl⟩
      · obtain rfl : b = true := by simpa using hb
        exact ⟨rfl, rfl⟩
theorem text_good {r : RdS} (ho : r.ok) (most : Int) : (r.text most).2.ok ∧ (r.text most).2.s = r.s ∧ (r.text most).1.1.length ≤ r.s.length := by
  unfold RdS.text
  have hg := number_good ho
  have hs := number_s r
  rcases hr : r.number with ⟨⟨n, c⟩, r1⟩
  rw [hr] at hg hs
  dsimp only at hg hs ⊢
  split
  · exact ⟨hg.1, hs.1, by simp⟩
  · split
    · exact ⟨hg.1, hs.1, by simp⟩
    · have h1 := take_good hg.1 n.toNat
      have h2 := take_s r1 n.toNat
      have h3 : (r1.take n.toNat).1.1.length ≤ r1.s.length := by
        unfold RdS.take; split <;> simp; omega
      rcases hr2 : r1.take n.toNat with ⟨⟨l, b⟩, r2⟩
      rw [hr2] at h1 h2 h3
      dsimp only at h1 h2 h3
      cases b
      · exact ⟨h1, h2.1.trans hs.1, by simp⟩
      · exact ⟨h1, h2.1.trans hs.1, by rw [← hs.1]; exact h3⟩
theorem rText_ok (ha : h a = some (rdO e r)) (ho : r.ok) (most : Int) : Spec Tryz.prog 271 [.pointer (some ⟨a, 0, none⟩), .int .i64 most] h
    (fun v h' => h' = h.set a (rdO e (r.Text most).2) ∧ v = S (r.Text most).1) := by
  apply ok271
  unfold VC271
  refine ⟨_, rfl, _, rdO_at ha, (rtext_ok ha ho most).mono ?_⟩
  rintro v h1 ⟨rfl, rfl⟩
  unfold RdS.Text
  rcases hr : r.text most with ⟨⟨l, c⟩, r1⟩
  dsimp only
  refine ⟨_, _, rfl, fun hc => ?_, fun hc => ?_⟩
  · rw [if_pos (show c ≠ 0 by simpa using hc)]
    refine (refused_ok (Heap.set_same _ _ _) r.at_ c).mono ?_
    rintro v h1 ⟨rfl, rfl⟩
    rw [Heap.set_set]
    exact ⟨rfl, rfl, rfl⟩
  · rw [if_neg (show ¬ c ≠ 0 by simpa using hc)]
    exact ⟨rfl, rfl⟩
theorem Text_good {r : RdS} (ho : r.ok) (most : Int) : (r.Text most).2.ok ∧ (r.Text most).2.s = r.s ∧ (r.Text most).1.length ≤ r.s.length := by
  unfold RdS.Text
  have hg := text_good ho most
  rcases hr : r.text most with ⟨⟨l, c⟩, r1⟩
  rw [hr] at hg
  dsimp only at hg ⊢
  split
  · refine ⟨refuse_good hg.1 (by rw [hg.2.1]; exact ho.2) c, ?_, by simp⟩
    unfold RdS.refuse; split <;> exact hg.2.1
  · exact hg
theorem rBytes_ok (ha : h a = some (rdO e r)) (ho : r.ok) {n : Nat} (hn : n ≤ 9223372036854775807) : Spec Tryz.prog 337 [.pointer (some ⟨a, 0, none⟩), .int .i64 n] h
    (fun v h' => h' = h.set a (rdO e (r.Bytes n).2) ∧ v = S (r.Bytes n).1) := by
  apply ok337
  unfold VC337
  refine ⟨_, rfl, _, rdO_c ha, fun hc => ?_, fun hc => ?_⟩
  · rw [RdS.Bytes, if_pos (show r.c ≠ 0 by simpa using hc), Heap.set_self ha]
    exact ⟨rfl, rfl⟩
  · rw [RdS.Bytes, if_neg (show ¬ r.c ≠ 0 by simpa using hc)]
    refine ⟨fun hz => ?_, fun _ => ?_⟩
    · simp at hz; omega
    · refine (take_ok ha ho (n := n) (by omega) (by omega)).mono ?_
      rintro v h1 ⟨rfl, rfl⟩
      rw [Int.toNat_natCast]
      rcases hr : r.take n with ⟨⟨l, b⟩, r1⟩
      refine ⟨_, _, rfl, fun J hJ => ⟨fun hb => ?_, fun hb => ?_⟩⟩
      · obtain rfl : b = false := by simpa using hb
        refine ⟨_, rfl, _, rdO_at (Heap.set_same _ _ _), (refused_ok (Heap.set_same _ _ _) r1.at_ 20).mono ?_⟩
        rintro v h1 ⟨rfl, rfl⟩
        have hl : l = [] := by
          have : (r.take n).1.2 = false → (r.take n).1.1 = [] := by unfold RdS.take; split <;> simp
          rw [hr] at this; exact this rfl
        refine ⟨rfl, hJ _ ⟨?_, by rw [hl]⟩⟩
        rw [Heap.set_set]
      · obtain rfl : b = true := by simpa using hb
        exact hJ _ ⟨rfl, rfl⟩
theorem Bytes_good {r : RdS} (ho : r.ok) (n : Nat) : (r.Bytes n).2.ok ∧ (r.Bytes n).2.s = r.s ∧ (r.Bytes n).1.length ≤ r.s.length := by
  unfold RdS.Bytes
  split
  · exact ⟨ho, rfl, by simp⟩
  · have h1 := take_good ho n
    have h2 := take_s r n
    have h3 : (r.take n).1.1.length ≤ r.s.length := by
      unfold RdS.take; split <;> simp; omega
    rcases hr : r.take n with ⟨⟨l, b⟩, r1⟩
    rw [hr] at h1 h2 h3
    dsimp only at h1 h2 h3
    cases b
    · refine ⟨refuse_good h1 h1.2 20, ?_, h3⟩
      dsimp only
      unfold RdS.refuse
      split <;> exact h2.1
    · exact ⟨h1, h2.1, h3⟩
theorem read_ok {s : List UInt8} {h : Heap} : Spec Tryz.prog 183 [S s] h (fun v h' => ∃ b, h b = none ∧ v = .pointer (some ⟨b, 0, none⟩) ∧ h' = h.set b (rdO 368 ⟨s, 0, 0⟩)) := by
  apply ok183
  unfold VC183
  exact fun b hb => ⟨b, hb, rfl, rfl⟩
end
end Go.Vw
namespace Go.Vw
open Go Go.Proofs

/- pharos/sha.rot -/
def an414 : An := .leaf
def VC414 (x_ : Int) (n : Int) (h : Heap) (Q : Value → Heap → Prop) : Prop :=
 (((0 : Int) ≤ n) ∧
 (((0 : Int) ≤ (IntKind.wrap IntKind.u64 ((32 : Int) - n))) ∧
 (Q (Value.int IntKind.u32 (bitsV BinOp.or IntKind.u32 (Int.fdiv x_ ((2 : Int) ^ (Min.min (Int.toNat n) 32))) (IntKind.wrap IntKind.u32 (x_ * ((2 : Int) ^ (Min.min (Int.toNat (IntKind.wrap IntKind.u64 ((32 : Int) - n))) 32)))))) h)))
theorem vc414 (x_ : Int) (n : Int) (h : Heap) (Q : Value → Heap → Prop) : evF Tryz.prog τ tok 414 an414 [.int .u32 x_, .int .u64 n] h Q = VC414 x_ n h Q := by kernel_rfl
theorem ok414 {x_ : Int} {n : Int} {h : Heap} {Q : Value → Heap → Prop} (hv : VC414 x_ n h Q) : Spec Tryz.prog 414 [.int .u32 x_, .int .u64 n] h Q := evF_sound (P := Tryz.prog) (τ := τ) (ok := tok) (an := an414) (fun _ => drawn mixed) (by rw [vc414]; exact hv)

/- pharos/sha.spread -/
def an413 : An := (.nd none [] [] .leaf (.nd none [] [] .leaf (.nd none [] [] (.nd none [] [] .leaf (.nd none [] [] (.nd none [.slot 8 (.int .i64), .loc 2 (.st (List Int) ((fun l => l.map (fun (x : Int) => (.int .u32 x : Value)))) 0)] [] (.nd none [] [] .leaf (.nd none [] [] .leaf (.nd none [] [] (.nd none [] [] (.nd none [] [] .leaf (.nd none [] [0, 1, 2, 3, 4, 5, 6, 7, 8, 9, 10, 11, 12, 13, 14, 15, 16, 17, 18, 19, 20, 21, 22, 23, 24, 25, 26, 27, 28, 29, 30, 31] .leaf .leaf)) .leaf) .leaf))) .leaf) .leaf)) (.nd none [] [] (.nd none [] [] .leaf (.nd none [] [] (.nd none [.slot 5 (.int .i64), .loc 2 (.st (List Int) ((fun l => l.map (fun (x : Int) => (.int .u32 x : Value)))) 0)] [] (.nd none [] [] .leaf (.nd none [] [] (.nd none [] [] (.nd none [] [] (.nd none [] [0, 1, 2, 3, 4, 5, 6, 7, 8, 9] .leaf .leaf) (.nd none [] [0, 1, 2, 3, 4, 5, 7, 10, 11, 14, 15, 16, 17, 19, 21, 24, 25, 6, 8, 9, 12, 13, 18, 20, 22, 23, 26, 27, 28, 29] .leaf .leaf)) .leaf) .leaf)) .leaf) .leaf)) .leaf))))
def VC413 (b : List Int) (h : Heap) (Q : Value → Heap → Prop) : Prop :=
 (∃ k : (Int → ((List Int) → (Heap → (Prod Prop Nat)))),
 ((∃ l : (List Int),
 (((List.replicate 64 (Value.int IntKind.u32 (0 : Int))) = (List.map (fun (n : Int) => (Value.int IntKind.u32 n)) l)) ∧
  ((k (0 : Int) l h)).fst)) ∧
 (∀ n1 : Int,
 (∀ l1 : (List Int),
  (∀ h1 : Heap,
  (((k n1 l1 h1)).fst →
  ((((decide (n1 < (16 : Int))) = Bool.true) →
   ((((0 : Int) ≤ (IntKind.wrap IntKind.i64 ((4 : Int) * n1))) ∧
   ((IntKind.wrap IntKind.i64 ((4 : Int) * n1)) < (64 : Int))) ∧
   (∃ n2 : Int,
   ((((List.map (fun (n3 : Int) => (Value.int IntKind.u8 n3)) b))[(0 + ((Int.toNat (IntKind.wrap IntKind.i64 ((4 : Int) * n1))) * (1 : Nat)))]? = (Option.some (Value.int IntKind.u8 n2))) ∧
   ((((0 : Int) ≤ (IntKind.wrap IntKind.i64 ((IntKind.wrap IntKind.i64 ((4 : Int) * n1)) + (1 : Int)))) ∧
    ((IntKind.wrap IntKind.i64 ((IntKind.wrap IntKind.i64 ((4 : Int) * n1)) + (1 : Int))) < (64 : Int))) ∧
    (∃ n4 : Int,
    ((((List.map (fun (n5 : Int) => (Value.int IntKind.u8 n5)) b))[(0 + ((Int.toNat (IntKind.wrap IntKind.i64 ((IntKind.wrap IntKind.i64 ((4 : Int) * n1)) + (1 : Int)))) * (1 : Nat)))]? = (Option.some (Value.int IntKind.u8 n4))) ∧
    ((((0 : Int) ≤ (IntKind.wrap IntKind.i64 ((IntKind.wrap IntKind.i64 ((4 : Int) * n1)) + (2 : Int)))) ∧
     ((IntKind.wrap IntKind.i64 ((IntKind.wrap IntKind.i64 ((4 : Int) * n1)) + (2 : Int))) < (64 : Int))) ∧
    (∃ n6 : Int,
     ((((List.map (fun (n7 : Int) => (Value.int IntKind.u8 n7)) b))[(0 + ((Int.toNat (IntKind.wrap IntKind.i64 ((IntKind.wrap IntKind.i64 ((4 : Int) * n1)) + (2 : Int)))) * (1 : Nat)))]? = (Option.some (Value.int IntKind.u8 n6))) ∧
     ((((0 : Int) ≤ (IntKind.wrap IntKind.i64 ((IntKind.wrap IntKind.i64 ((4 : Int) * n1)) + (3 : Int)))) ∧
     ((IntKind.wrap IntKind.i64 ((IntKind.wrap IntKind.i64 ((4 : Int) * n1)) + (3 : Int))) < (64 : Int))) ∧
     (∃ n8 : Int,
     ((((List.map (fun (n9 : Int) => (Value.int IntKind.u8 n9)) b))[(0 + ((Int.toNat (IntKind.wrap IntKind.i64 ((IntKind.wrap IntKind.i64 ((4 : Int) * n1)) + (3 : Int)))) * (1 : Nat)))]? = (Option.some (Value.int IntKind.u8 n8))) ∧
      ((((0 : Int) ≤ n1) ∧
      (n1 < (64 : Int))) ∧
      (((0 + ((Int.toNat n1) * (1 : Nat))) < (List.length (List.map (fun (n10 : Int) => (Value.int IntKind.u32 n10)) l1))) ∧
      (∃ l2 : (List Int),
      (((List.set (List.map (fun (n11 : Int) => (Value.int IntKind.u32 n11)) l1) (0 + ((Int.toNat n1) * (1 : Nat))) (Value.int IntKind.u32 (bitsV BinOp.or IntKind.u32 (bitsV BinOp.or IntKind.u32 (bitsV BinOp.or IntKind.u32 (IntKind.wrap IntKind.u32 ((IntKind.wrap IntKind.u32 n2) * (16777216 : Int))) (IntKind.wrap IntKind.u32 ((IntKind.wrap IntKind.u32 n4) * (65536 : Int)))) (IntKind.wrap IntKind.u32 ((IntKind.wrap IntKind.u32 n6) * (256 : Int)))) (IntKind.wrap IntKind.u32 n8)))) = (List.map (fun (n12 : Int) => (Value.int IntKind.u32 n12)) l2)) ∧
       (((k (IntKind.wrap IntKind.i64 (n1 + (1 : Int))) l2 h1)).fst ∧
       (((k (IntKind.wrap IntKind.i64 (n1 + (1 : Int))) l2 h1)).snd < ((k n1 l1 h1)).snd))))))))))))))))))) ∧
  (((decide (n1 < (16 : Int))) = Bool.false) →
   (∃ k1 : (Int → ((List Int) → (Heap → (Prod Prop Nat)))),
   ((∃ l3 : (List Int),
   (((List.map (fun (n13 : Int) => (Value.int IntKind.u32 n13)) l1) = (List.map (fun (n14 : Int) => (Value.int IntKind.u32 n14)) l3)) ∧
    ((k1 (16 : Int) l3 h1)).fst)) ∧
   (∀ n15 : Int,
   (∀ l4 : (List Int),
    (∀ h2 : Heap,
    (((k1 n15 l4 h2)).fst →
    ((((decide (n15 < (64 : Int))) = Bool.true) →
     ((((0 : Int) ≤ (IntKind.wrap IntKind.i64 (n15 - (15 : Int)))) ∧
     ((IntKind.wrap IntKind.i64 (n15 - (15 : Int))) < (64 : Int))) ∧
     (∃ n16 : Int,
     ((((List.map (fun (n17 : Int) => (Value.int IntKind.u32 n17)) l4))[(0 + ((Int.toNat (IntKind.wrap IntKind.i64 (n15 - (15 : Int)))) * (1 : Nat)))]? = (Option.some (Value.int IntKind.u32 n16))) ∧
     ((((0 : Int) ≤ (IntKind.wrap IntKind.i64 (n15 - (2 : Int)))) ∧
      ((IntKind.wrap IntKind.i64 (n15 - (2 : Int))) < (64 : Int))) ∧
      (∃ n18 : Int,
      ((((List.map (fun (n19 : Int) => (Value.int IntKind.u32 n19)) l4))[(0 + ((Int.toNat (IntKind.wrap IntKind.i64 (n15 - (2 : Int)))) * (1 : Nat)))]? = (Option.some (Value.int IntKind.u32 n18))) ∧
      ((((0 : Int) ≤ (IntKind.wrap IntKind.i64 (n15 - (16 : Int)))) ∧
       ((IntKind.wrap IntKind.i64 (n15 - (16 : Int))) < (64 : Int))) ∧
      (∃ n20 : Int,
       ((((List.map (fun (n21 : Int) => (Value.int IntKind.u32 n21)) l4))[(0 + ((Int.toNat (IntKind.wrap IntKind.i64 (n15 - (16 : Int)))) * (1 : Nat)))]? = (Option.some (Value.int IntKind.u32 n20))) ∧
       ((((0 : Int) ≤ (IntKind.wrap IntKind.i64 (n15 - (7 : Int)))) ∧
       ((IntKind.wrap IntKind.i64 (n15 - (7 : Int))) < (64 : Int))) ∧
       (∃ n22 : Int,
       ((((List.map (fun (n23 : Int) => (Value.int IntKind.u32 n23)) l4))[(0 + ((Int.toNat (IntKind.wrap IntKind.i64 (n15 - (7 : Int)))) * (1 : Nat)))]? = (Option.some (Value.int IntKind.u32 n22))) ∧
        (Spec Tryz.prog 414 [(Value.int IntKind.u32 n16), (Value.int IntKind.u64 (7 : Int))] h2 (fun v h3 =>
        (∃ n24 : Int,
        ((v = (Value.int IntKind.u32 n24)) ∧
        ((((List.map (fun (n25 : Int) => (Value.int IntKind.u32 n25)) l4))[(0 + ((Int.toNat (IntKind.wrap IntKind.i64 (n15 - (7 : Int)))) * (1 : Nat)))]? = ((List.map (fun (n26 : Int) => (Value.int IntKind.u32 n26)) l4))[(0 + ((Int.toNat (IntKind.wrap IntKind.i64 (n15 - (7 : Int)))) * (1 : Nat)))]?) ∧
         ((((List.map (fun (n27 : Int) => (Value.int IntKind.u32 n27)) l4))[(0 + ((Int.toNat (IntKind.wrap IntKind.i64 (n15 - (16 : Int)))) * (1 : Nat)))]? = ((List.map (fun (n28 : Int) => (Value.int IntKind.u32 n28)) l4))[(0 + ((Int.toNat (IntKind.wrap IntKind.i64 (n15 - (16 : Int)))) * (1 : Nat)))]?) ∧
         (Spec Tryz.prog 414 [(Value.int IntKind.u32 n16), (Value.int IntKind.u64 (18 : Int))] h3 (fun v1 h4 =>
         (∃ n29 : Int,
         ((v1 = (Value.int IntKind.u32 n29)) ∧
         ((((List.map (fun (n30 : Int) => (Value.int IntKind.u32 n30)) l4))[(0 + ((Int.toNat (IntKind.wrap IntKind.i64 (n15 - (7 : Int)))) * (1 : Nat)))]? = ((List.map (fun (n31 : Int) => (Value.int IntKind.u32 n31)) l4))[(0 + ((Int.toNat (IntKind.wrap IntKind.i64 (n15 - (7 : Int)))) * (1 : Nat)))]?) ∧
         ((((List.map (fun (n32 : Int) => (Value.int IntKind.u32 n32)) l4))[(0 + ((Int.toNat (IntKind.wrap IntKind.i64 (n15 - (16 : Int)))) * (1 : Nat)))]? = ((List.map (fun (n33 : Int) => (Value.int IntKind.u32 n33)) l4))[(0 + ((Int.toNat (IntKind.wrap IntKind.i64 (n15 - (16 : Int)))) * (1 : Nat)))]?) ∧
         (Spec Tryz.prog 414 [(Value.int IntKind.u32 n18), (Value.int IntKind.u64 (17 : Int))] h4 (fun v2 h5 =>
         (∃ n34 : Int,
         ((v2 = (Value.int IntKind.u32 n34)) ∧
         ((((List.map (fun (n35 : Int) => (Value.int IntKind.u32 n35)) l4))[(0 + ((Int.toNat (IntKind.wrap IntKind.i64 (n15 - (7 : Int)))) * (1 : Nat)))]? = ((List.map (fun (n36 : Int) => (Value.int IntKind.u32 n36)) l4))[(0 + ((Int.toNat (IntKind.wrap IntKind.i64 (n15 - (7 : Int)))) * (1 : Nat)))]?) ∧
         ((((List.map (fun (n37 : Int) => (Value.int IntKind.u32 n37)) l4))[(0 + ((Int.toNat (IntKind.wrap IntKind.i64 (n15 - (16 : Int)))) * (1 : Nat)))]? = ((List.map (fun (n38 : Int) => (Value.int IntKind.u32 n38)) l4))[(0 + ((Int.toNat (IntKind.wrap IntKind.i64 (n15 - (16 : Int)))) * (1 : Nat)))]?) ∧
         (Spec Tryz.prog 414 [(Value.int IntKind.u32 n18), (Value.int IntKind.u64 (19 : Int))] h5 (fun v3 h6 =>
         (∃ n39 : Int,
         ((v3 = (Value.int IntKind.u32 n39)) ∧
         ((((List.map (fun (n40 : Int) => (Value.int IntKind.u32 n40)) l4))[(0 + ((Int.toNat (IntKind.wrap IntKind.i64 (n15 - (7 : Int)))) * (1 : Nat)))]? = ((List.map (fun (n41 : Int) => (Value.int IntKind.u32 n41)) l4))[(0 + ((Int.toNat (IntKind.wrap IntKind.i64 (n15 - (7 : Int)))) * (1 : Nat)))]?) ∧
         ((((List.map (fun (n42 : Int) => (Value.int IntKind.u32 n42)) l4))[(0 + ((Int.toNat (IntKind.wrap IntKind.i64 (n15 - (16 : Int)))) * (1 : Nat)))]? = ((List.map (fun (n43 : Int) => (Value.int IntKind.u32 n43)) l4))[(0 + ((Int.toNat (IntKind.wrap IntKind.i64 (n15 - (16 : Int)))) * (1 : Nat)))]?) ∧
         ((((0 : Int) ≤ n15) ∧
         (n15 < (64 : Int))) ∧
         (((0 + ((Int.toNat n15) * (1 : Nat))) < (List.length (List.map (fun (n44 : Int) => (Value.int IntKind.u32 n44)) l4))) ∧
         (∃ l5 : (List Int),
         (((List.set (List.map (fun (n45 : Int) => (Value.int IntKind.u32 n45)) l4) (0 + ((Int.toNat n15) * (1 : Nat))) (Value.int IntKind.u32 (IntKind.wrap IntKind.u32 ((IntKind.wrap IntKind.u32 ((IntKind.wrap IntKind.u32 (n20 + (bitsV BinOp.xor IntKind.u32 (bitsV BinOp.xor IntKind.u32 n24 n29) (Int.fdiv n16 (8 : Int))))) + n22)) + (bitsV BinOp.xor IntKind.u32 (bitsV BinOp.xor IntKind.u32 n34 n39) (Int.fdiv n18 (1024 : Int))))))) = (List.map (fun (n46 : Int) => (Value.int IntKind.u32 n46)) l5)) ∧
         (((k1 (IntKind.wrap IntKind.i64 (n15 + (1 : Int))) l5 h6)).fst ∧
         (((k1 (IntKind.wrap IntKind.i64 (n15 + (1 : Int))) l5 h6)).snd < ((k1 n15 l4 h2)).snd))))))))))))))))))))))))))))))))))))))))))) ∧
    (((decide (n15 < (64 : Int))) = Bool.false) →
     (((List.length (List.map (fun (n47 : Int) => (Value.int IntKind.u32 n47)) l4)) = (64 : Nat)) ∧
     ((((List.length (List.map (fun (n48 : Int) => (Value.int IntKind.u32 n48)) l4)) = (64 : Nat)) ∧
     ((List.length (List.map (fun (n49 : Int) => (Value.int IntKind.u32 n49)) l4)) = 64)) ∧
     (((List.length (List.map (fun (n50 : Int) => (Value.int IntKind.u32 n50)) l4)) = (64 : Nat)) ∧
     (Q (Value.agg ⟨(List.map (fun (n51 : Int) => (Value.int IntKind.u32 n51)) l4)⟩) h2))))))))))))))))))))
theorem vc413 (b : List Int) (h : Heap) (Q : Value → Heap → Prop) : evF Tryz.prog τ tok 413 an413 [.agg ⟨(fun l => l.map (fun (x : Int) => (.int .u8 x : Value))) b⟩] h Q = VC413 b h Q := by kernel_rfl
theorem ok413 {b : List Int} {h : Heap} {Q : Value → Heap → Prop} (hv : VC413 b h Q) : Spec Tryz.prog 413 [.agg ⟨(fun l => l.map (fun (x : Int) => (.int .u8 x : Value))) b⟩] h Q := evF_sound (P := Tryz.prog) (τ := τ) (ok := tok) (an := an413) (fun _ => drawn mixed) (by rw [vc413]; exact hv)

/- pharos/sha.Block -/
def an408 : An := (.nd none [] [] .leaf (.nd none [] [] .leaf (.nd none [] [] .leaf (.nd none [] [] (.nd none [] [] .leaf (.nd none [] [] (.nd none [.slot 16 (.int .i64), .loc 4 (.st (List Int) ((fun l => l.map (fun (x : Int) => (.int .u32 x : Value)))) 0)] [] (.nd none [] [] .leaf (.nd none [] [] .leaf (.nd none [] [] (.nd none [] [] (.nd none [] [] .leaf (.nd none [] [] (.nd none [] [0, 1, 2, 3, 4, 5] .leaf .leaf) (.nd none [] [] (.nd none [] [0, 1, 2, 4, 7, 11, 12, 13, 14, 15, 16, 17, 18, 19, 20, 22, 23, 24, 26, 27, 28, 3, 5, 6, 8, 9, 10, 21, 25, 29, 30] .leaf .leaf) (.nd none [] [] (.nd none [] [0, 2, 5, 8, 9, 10, 11, 12, 13, 14, 15, 16, 17, 18, 19, 20, 21, 22, 1, 3, 4, 6, 7, 23, 24] .leaf .leaf) .leaf)))) .leaf) .leaf))) .leaf) .leaf)) (.nd none [] [] (.nd none [] [] .leaf (.nd none [] [] (.nd none [.slot 96 (.int .i64), .loc 4 (.st (List Int) ((fun l => l.map (fun (x : Int) => (.int .u32 x : Value)))) 0)] [] (.nd none [] [] .leaf (.nd none [] [] .leaf (.nd none [] [] (.nd none [] [] (.nd none [] [] .leaf (.nd none [] [0, 1, 2, 3, 4, 5, 6, 7, 8] .leaf .leaf)) .leaf) .leaf))) .leaf) .leaf)) .leaf)))))
def VC408 (h_ : List Int) (b : List Int) (h : Heap) (Q : Value → Heap → Prop) : Prop :=
 (((List.length (List.map (fun (n : Int) => (Value.int IntKind.u8 n)) b)) = (64 : Nat)) ∧
 (Spec Tryz.prog 413 [(Value.agg ⟨(List.map (fun (n1 : Int) => (Value.int IntKind.u8 n1)) b)⟩)] h (fun v h1 =>
 (∃ l : (List Int),
 ((v = (Value.agg ⟨(List.map (fun (n2 : Int) => (Value.int IntKind.u32 n2)) l)⟩)) ∧
  ((((List.length (List.map (fun (n3 : Int) => (Value.int IntKind.u32 n3)) l)) = (64 : Nat)) ∧
  ((List.length (List.map (fun (n4 : Int) => (Value.int IntKind.u32 n4)) l)) = 64)) ∧
  (((List.length (List.map (fun (n5 : Int) => (Value.int IntKind.u32 n5)) h_)) = (8 : Nat)) ∧
  ((((List.length (List.map (fun (n6 : Int) => (Value.int IntKind.u32 n6)) h_)) = (8 : Nat)) ∧
   ((List.length (List.map (fun (n7 : Int) => (Value.int IntKind.u32 n7)) h_)) = 8)) ∧
  (∃ k : (Int → ((List Int) → (Heap → (Prod Prop Nat)))),
   ((∃ l1 : (List Int),
   (((List.map (fun (n8 : Int) => (Value.int IntKind.u32 n8)) h_) = (List.map (fun (n9 : Int) => (Value.int IntKind.u32 n9)) l1)) ∧
   ((k (0 : Int) l1 h1)).fst)) ∧
   (∀ n10 : Int,
   (∀ l2 : (List Int),
   (∀ h2 : Heap,
    (((k n10 l2 h2)).fst →
    ((((decide (n10 < (64 : Int))) = Bool.true) →
    ((((0 : Int) ≤ (4 : Int)) ∧
     ((4 : Int) < (8 : Int))) ∧
     (∃ n11 : Int,
     ((((List.map (fun (n12 : Int) => (Value.int IntKind.u32 n12)) l2))[(0 + (4 * (1 : Nat)))]? = (Option.some (Value.int IntKind.u32 n11))) ∧
     ((((0 : Int) ≤ (0 : Int)) ∧
      ((0 : Int) < (8 : Int))) ∧
     (∃ n13 : Int,
      ((((List.map (fun (n14 : Int) => (Value.int IntKind.u32 n14)) l2))[(0 + (0 * (1 : Nat)))]? = (Option.some (Value.int IntKind.u32 n13))) ∧
      ((((0 : Int) ≤ (7 : Int)) ∧
      ((7 : Int) < (8 : Int))) ∧
      (∃ n15 : Int,
      ((((List.map (fun (n16 : Int) => (Value.int IntKind.u32 n16)) l2))[(0 + (7 * (1 : Nat)))]? = (Option.some (Value.int IntKind.u32 n15))) ∧
       ((((0 : Int) ≤ (5 : Int)) ∧
       ((5 : Int) < (8 : Int))) ∧
       (∃ n17 : Int,
       ((((List.map (fun (n18 : Int) => (Value.int IntKind.u32 n18)) l2))[(0 + (5 * (1 : Nat)))]? = (Option.some (Value.int IntKind.u32 n17))) ∧
       ((((0 : Int) ≤ (6 : Int)) ∧
        ((6 : Int) < (8 : Int))) ∧
        (∃ n19 : Int,
        ((((List.map (fun (n20 : Int) => (Value.int IntKind.u32 n20)) l2))[(0 + (6 * (1 : Nat)))]? = (Option.some (Value.int IntKind.u32 n19))) ∧
        ((((0 : Int) ≤ n10) ∧
         (n10 < (64 : Int))) ∧
        (∃ n21 : Int,
         (((rd h2 (Addr.add (Addr.mk 1 0 Option.none) ((Int.toNat n10) * (1 : Nat)))) = (Option.some (Value.int IntKind.u32 n21))) ∧
         ((((0 : Int) ≤ n10) ∧
         (n10 < (64 : Int))) ∧
         (∃ n22 : Int,
         ((((List.map (fun (n23 : Int) => (Value.int IntKind.u32 n23)) l))[(0 + ((Int.toNat n10) * (1 : Nat)))]? = (Option.some (Value.int IntKind.u32 n22))) ∧
         (Spec Tryz.prog 414 [(Value.int IntKind.u32 n11), (Value.int IntKind.u64 (6 : Int))] h2 (fun v1 h3 =>
         (∃ n24 : Int,
         ((v1 = (Value.int IntKind.u32 n24)) ∧
         ((((List.map (fun (n25 : Int) => (Value.int IntKind.u32 n25)) l))[(0 + ((Int.toNat n10) * (1 : Nat)))]? = ((List.map (fun (n26 : Int) => (Value.int IntKind.u32 n26)) l))[(0 + ((Int.toNat n10) * (1 : Nat)))]?) ∧
         (((rd h3 (Addr.add (Addr.mk 1 0 Option.none) ((Int.toNat n10) * (1 : Nat)))) = (rd h2 (Addr.add (Addr.mk 1 0 Option.none) ((Int.toNat n10) * (1 : Nat))))) ∧
         ((((List.map (fun (n27 : Int) => (Value.int IntKind.u32 n27)) l2))[(0 + (6 * (1 : Nat)))]? = ((List.map (fun (n28 : Int) => (Value.int IntKind.u32 n28)) l2))[(0 + (6 * (1 : Nat)))]?) ∧
         ((((List.map (fun (n29 : Int) => (Value.int IntKind.u32 n29)) l2))[(0 + (5 * (1 : Nat)))]? = ((List.map (fun (n30 : Int) => (Value.int IntKind.u32 n30)) l2))[(0 + (5 * (1 : Nat)))]?) ∧
         ((((List.map (fun (n31 : Int) => (Value.int IntKind.u32 n31)) l2))[(0 + (7 * (1 : Nat)))]? = ((List.map (fun (n32 : Int) => (Value.int IntKind.u32 n32)) l2))[(0 + (7 * (1 : Nat)))]?) ∧
         (Spec Tryz.prog 414 [(Value.int IntKind.u32 n11), (Value.int IntKind.u64 (11 : Int))] h3 (fun v2 h4 =>
         (∃ n33 : Int,
         ((v2 = (Value.int IntKind.u32 n33)) ∧
         ((((List.map (fun (n34 : Int) => (Value.int IntKind.u32 n34)) l))[(0 + ((Int.toNat n10) * (1 : Nat)))]? = ((List.map (fun (n35 : Int) => (Value.int IntKind.u32 n35)) l))[(0 + ((Int.toNat n10) * (1 : Nat)))]?) ∧
         (((rd h4 (Addr.add (Addr.mk 1 0 Option.none) ((Int.toNat n10) * (1 : Nat)))) = (rd h3 (Addr.add (Addr.mk 1 0 Option.none) ((Int.toNat n10) * (1 : Nat))))) ∧
         ((((List.map (fun (n36 : Int) => (Value.int IntKind.u32 n36)) l2))[(0 + (6 * (1 : Nat)))]? = ((List.map (fun (n37 : Int) => (Value.int IntKind.u32 n37)) l2))[(0 + (6 * (1 : Nat)))]?) ∧
         ((((List.map (fun (n38 : Int) => (Value.int IntKind.u32 n38)) l2))[(0 + (5 * (1 : Nat)))]? = ((List.map (fun (n39 : Int) => (Value.int IntKind.u32 n39)) l2))[(0 + (5 * (1 : Nat)))]?) ∧
         ((((List.map (fun (n40 : Int) => (Value.int IntKind.u32 n40)) l2))[(0 + (7 * (1 : Nat)))]? = ((List.map (fun (n41 : Int) => (Value.int IntKind.u32 n41)) l2))[(0 + (7 * (1 : Nat)))]?) ∧
         (Spec Tryz.prog 414 [(Value.int IntKind.u32 n11), (Value.int IntKind.u64 (25 : Int))] h4 (fun v3 h5 =>
         (∃ n42 : Int,
         ((v3 = (Value.int IntKind.u32 n42)) ∧
         ((((List.map (fun (n43 : Int) => (Value.int IntKind.u32 n43)) l))[(0 + ((Int.toNat n10) * (1 : Nat)))]? = ((List.map (fun (n44 : Int) => (Value.int IntKind.u32 n44)) l))[(0 + ((Int.toNat n10) * (1 : Nat)))]?) ∧
         (((rd h5 (Addr.add (Addr.mk 1 0 Option.none) ((Int.toNat n10) * (1 : Nat)))) = (rd h4 (Addr.add (Addr.mk 1 0 Option.none) ((Int.toNat n10) * (1 : Nat))))) ∧
         ((((List.map (fun (n45 : Int) => (Value.int IntKind.u32 n45)) l2))[(0 + (6 * (1 : Nat)))]? = ((List.map (fun (n46 : Int) => (Value.int IntKind.u32 n46)) l2))[(0 + (6 * (1 : Nat)))]?) ∧
         ((((List.map (fun (n47 : Int) => (Value.int IntKind.u32 n47)) l2))[(0 + (5 * (1 : Nat)))]? = ((List.map (fun (n48 : Int) => (Value.int IntKind.u32 n48)) l2))[(0 + (5 * (1 : Nat)))]?) ∧
         ((((List.map (fun (n49 : Int) => (Value.int IntKind.u32 n49)) l2))[(0 + (7 * (1 : Nat)))]? = ((List.map (fun (n50 : Int) => (Value.int IntKind.u32 n50)) l2))[(0 + (7 * (1 : Nat)))]?) ∧
         ((((0 : Int) ≤ (1 : Int)) ∧
         ((1 : Int) < (8 : Int))) ∧
         (∃ n51 : Int,
         ((((List.map (fun (n52 : Int) => (Value.int IntKind.u32 n52)) l2))[(0 + (1 * (1 : Nat)))]? = (Option.some (Value.int IntKind.u32 n51))) ∧
         ((((0 : Int) ≤ (2 : Int)) ∧
         ((2 : Int) < (8 : Int))) ∧
         (∃ n53 : Int,
         ((((List.map (fun (n54 : Int) => (Value.int IntKind.u32 n54)) l2))[(0 + (2 * (1 : Nat)))]? = (Option.some (Value.int IntKind.u32 n53))) ∧
         ((((0 : Int) ≤ (1 : Int)) ∧
         ((1 : Int) < (8 : Int))) ∧
         (∃ n55 : Int,
         ((((List.map (fun (n56 : Int) => (Value.int IntKind.u32 n56)) l2))[(0 + (1 * (1 : Nat)))]? = (Option.some (Value.int IntKind.u32 n55))) ∧
         ((((0 : Int) ≤ (2 : Int)) ∧
         ((2 : Int) < (8 : Int))) ∧
         (∃ n57 : Int,
         ((((List.map (fun (n58 : Int) => (Value.int IntKind.u32 n58)) l2))[(0 + (2 * (1 : Nat)))]? = (Option.some (Value.int IntKind.u32 n57))) ∧
         (Spec Tryz.prog 414 [(Value.int IntKind.u32 n13), (Value.int IntKind.u64 (2 : Int))] h5 (fun v4 h6 =>
         (∃ n59 : Int,
         ((v4 = (Value.int IntKind.u32 n59)) ∧
         ((((List.map (fun (n60 : Int) => (Value.int IntKind.u32 n60)) l2))[(0 + (2 * (1 : Nat)))]? = ((List.map (fun (n61 : Int) => (Value.int IntKind.u32 n61)) l2))[(0 + (2 * (1 : Nat)))]?) ∧
         ((((List.map (fun (n62 : Int) => (Value.int IntKind.u32 n62)) l2))[(0 + (1 * (1 : Nat)))]? = ((List.map (fun (n63 : Int) => (Value.int IntKind.u32 n63)) l2))[(0 + (1 * (1 : Nat)))]?) ∧
         ((((List.map (fun (n64 : Int) => (Value.int IntKind.u32 n64)) l2))[(0 + (2 * (1 : Nat)))]? = ((List.map (fun (n65 : Int) => (Value.int IntKind.u32 n65)) l2))[(0 + (2 * (1 : Nat)))]?) ∧
         ((((List.map (fun (n66 : Int) => (Value.int IntKind.u32 n66)) l2))[(0 + (1 * (1 : Nat)))]? = ((List.map (fun (n67 : Int) => (Value.int IntKind.u32 n67)) l2))[(0 + (1 * (1 : Nat)))]?) ∧
         (Spec Tryz.prog 414 [(Value.int IntKind.u32 n13), (Value.int IntKind.u64 (13 : Int))] h6 (fun v5 h7 =>
         (∃ n68 : Int,
         ((v5 = (Value.int IntKind.u32 n68)) ∧
         ((((List.map (fun (n69 : Int) => (Value.int IntKind.u32 n69)) l2))[(0 + (2 * (1 : Nat)))]? = ((List.map (fun (n70 : Int) => (Value.int IntKind.u32 n70)) l2))[(0 + (2 * (1 : Nat)))]?) ∧
         ((((List.map (fun (n71 : Int) => (Value.int IntKind.u32 n71)) l2))[(0 + (1 * (1 : Nat)))]? = ((List.map (fun (n72 : Int) => (Value.int IntKind.u32 n72)) l2))[(0 + (1 * (1 : Nat)))]?) ∧
         ((((List.map (fun (n73 : Int) => (Value.int IntKind.u32 n73)) l2))[(0 + (2 * (1 : Nat)))]? = ((List.map (fun (n74 : Int) => (Value.int IntKind.u32 n74)) l2))[(0 + (2 * (1 : Nat)))]?) ∧
         ((((List.map (fun (n75 : Int) => (Value.int IntKind.u32 n75)) l2))[(0 + (1 * (1 : Nat)))]? = ((List.map (fun (n76 : Int) => (Value.int IntKind.u32 n76)) l2))[(0 + (1 * (1 : Nat)))]?) ∧
         (Spec Tryz.prog 414 [(Value.int IntKind.u32 n13), (Value.int IntKind.u64 (22 : Int))] h7 (fun v6 h8 =>
         (∃ n77 : Int,
         ((v6 = (Value.int IntKind.u32 n77)) ∧
         ((((List.map (fun (n78 : Int) => (Value.int IntKind.u32 n78)) l2))[(0 + (2 * (1 : Nat)))]? = ((List.map (fun (n79 : Int) => (Value.int IntKind.u32 n79)) l2))[(0 + (2 * (1 : Nat)))]?) ∧
         ((((List.map (fun (n80 : Int) => (Value.int IntKind.u32 n80)) l2))[(0 + (1 * (1 : Nat)))]? = ((List.map (fun (n81 : Int) => (Value.int IntKind.u32 n81)) l2))[(0 + (1 * (1 : Nat)))]?) ∧
         ((((List.map (fun (n82 : Int) => (Value.int IntKind.u32 n82)) l2))[(0 + (2 * (1 : Nat)))]? = ((List.map (fun (n83 : Int) => (Value.int IntKind.u32 n83)) l2))[(0 + (2 * (1 : Nat)))]?) ∧
         ((((List.map (fun (n84 : Int) => (Value.int IntKind.u32 n84)) l2))[(0 + (1 * (1 : Nat)))]? = ((List.map (fun (n85 : Int) => (Value.int IntKind.u32 n85)) l2))[(0 + (1 * (1 : Nat)))]?) ∧
         ((((0 : Int) ≤ (1 : Int)) ∧
         ((1 : Int) < (8 : Int))) ∧
         (∃ n86 : Int,
         ((((List.map (fun (n87 : Int) => (Value.int IntKind.u32 n87)) l2))[(0 + (1 * (1 : Nat)))]? = (Option.some (Value.int IntKind.u32 n86))) ∧
         ((((0 : Int) ≤ (2 : Int)) ∧
         ((2 : Int) < (8 : Int))) ∧
         (∃ n88 : Int,
         ((((List.map (fun (n89 : Int) => (Value.int IntKind.u32 n89)) l2))[(0 + (2 * (1 : Nat)))]? = (Option.some (Value.int IntKind.u32 n88))) ∧
         ((((0 : Int) ≤ (3 : Int)) ∧
         ((3 : Int) < (8 : Int))) ∧
         (∃ n90 : Int,
         ((((List.map (fun (n91 : Int) => (Value.int IntKind.u32 n91)) l2))[(0 + (3 * (1 : Nat)))]? = (Option.some (Value.int IntKind.u32 n90))) ∧
         ((((0 : Int) ≤ (5 : Int)) ∧
         ((5 : Int) < (8 : Int))) ∧
         (∃ n92 : Int,
         ((((List.map (fun (n93 : Int) => (Value.int IntKind.u32 n93)) l2))[(0 + (5 * (1 : Nat)))]? = (Option.some (Value.int IntKind.u32 n92))) ∧
         ((((0 : Int) ≤ (6 : Int)) ∧
         ((6 : Int) < (8 : Int))) ∧
         (∃ n94 : Int,
         ((((List.map (fun (n95 : Int) => (Value.int IntKind.u32 n95)) l2))[(0 + (6 * (1 : Nat)))]? = (Option.some (Value.int IntKind.u32 n94))) ∧
         (((List.replicate 8 (Value.int IntKind.u32 (0 : Int))) = (List.replicate 8 (Value.int IntKind.u32 (0 : Int)))) ∧
         ((((List.length [(Value.int IntKind.u32 (IntKind.wrap IntKind.u32 ((IntKind.wrap IntKind.u32 ((IntKind.wrap IntKind.u32 ((IntKind.wrap IntKind.u32 ((IntKind.wrap IntKind.u32 (n15 + (bitsV BinOp.xor IntKind.u32 (bitsV BinOp.xor IntKind.u32 n24 n33) n42))) + (bitsV BinOp.xor IntKind.u32 (bitsV BinOp.and IntKind.u32 n11 n17) (bitsV BinOp.and IntKind.u32 (bitsV BinOp.xor IntKind.u32 (4294967295 : Int) n11) n19)))) + n21)) + n22)) + (IntKind.wrap IntKind.u32 ((bitsV BinOp.xor IntKind.u32 (bitsV BinOp.xor IntKind.u32 n59 n68) n77) + (bitsV BinOp.xor IntKind.u32 (bitsV BinOp.xor IntKind.u32 (bitsV BinOp.and IntKind.u32 n13 n51) (bitsV BinOp.and IntKind.u32 n13 n53)) (bitsV BinOp.and IntKind.u32 n55 n57))))))), (Value.int IntKind.u32 n13), (Value.int IntKind.u32 n86), (Value.int IntKind.u32 n88), (Value.int IntKind.u32 (IntKind.wrap IntKind.u32 (n90 + (IntKind.wrap IntKind.u32 ((IntKind.wrap IntKind.u32 ((IntKind.wrap IntKind.u32 ((IntKind.wrap IntKind.u32 (n15 + (bitsV BinOp.xor IntKind.u32 (bitsV BinOp.xor IntKind.u32 n24 n33) n42))) + (bitsV BinOp.xor IntKind.u32 (bitsV BinOp.and IntKind.u32 n11 n17) (bitsV BinOp.and IntKind.u32 (bitsV BinOp.xor IntKind.u32 (4294967295 : Int) n11) n19)))) + n21)) + n22))))), (Value.int IntKind.u32 n11), (Value.int IntKind.u32 n92), (Value.int IntKind.u32 n94)]) = (8 : Nat)) ∧
         ((List.length [(Value.int IntKind.u32 (IntKind.wrap IntKind.u32 ((IntKind.wrap IntKind.u32 ((IntKind.wrap IntKind.u32 ((IntKind.wrap IntKind.u32 ((IntKind.wrap IntKind.u32 (n15 + (bitsV BinOp.xor IntKind.u32 (bitsV BinOp.xor IntKind.u32 n24 n33) n42))) + (bitsV BinOp.xor IntKind.u32 (bitsV BinOp.and IntKind.u32 n11 n17) (bitsV BinOp.and IntKind.u32 (bitsV BinOp.xor IntKind.u32 (4294967295 : Int) n11) n19)))) + n21)) + n22)) + (IntKind.wrap IntKind.u32 ((bitsV BinOp.xor IntKind.u32 (bitsV BinOp.xor IntKind.u32 n59 n68) n77) + (bitsV BinOp.xor IntKind.u32 (bitsV BinOp.xor IntKind.u32 (bitsV BinOp.and IntKind.u32 n13 n51) (bitsV BinOp.and IntKind.u32 n13 n53)) (bitsV BinOp.and IntKind.u32 n55 n57))))))), (Value.int IntKind.u32 n13), (Value.int IntKind.u32 n86), (Value.int IntKind.u32 n88), (Value.int IntKind.u32 (IntKind.wrap IntKind.u32 (n90 + (IntKind.wrap IntKind.u32 ((IntKind.wrap IntKind.u32 ((IntKind.wrap IntKind.u32 ((IntKind.wrap IntKind.u32 (n15 + (bitsV BinOp.xor IntKind.u32 (bitsV BinOp.xor IntKind.u32 n24 n33) n42))) + (bitsV BinOp.xor IntKind.u32 (bitsV BinOp.and IntKind.u32 n11 n17) (bitsV BinOp.and IntKind.u32 (bitsV BinOp.xor IntKind.u32 (4294967295 : Int) n11) n19)))) + n21)) + n22))))), (Value.int IntKind.u32 n11), (Value.int IntKind.u32 n92), (Value.int IntKind.u32 n94)]) = (List.length (List.map (fun (n96 : Int) => (Value.int IntKind.u32 n96)) l2)))) ∧
         (∃ l3 : (List Int),
         (([(Value.int IntKind.u32 (IntKind.wrap IntKind.u32 ((IntKind.wrap IntKind.u32 ((IntKind.wrap IntKind.u32 ((IntKind.wrap IntKind.u32 ((IntKind.wrap IntKind.u32 (n15 + (bitsV BinOp.xor IntKind.u32 (bitsV BinOp.xor IntKind.u32 n24 n33) n42))) + (bitsV BinOp.xor IntKind.u32 (bitsV BinOp.and IntKind.u32 n11 n17) (bitsV BinOp.and IntKind.u32 (bitsV BinOp.xor IntKind.u32 (4294967295 : Int) n11) n19)))) + n21)) + n22)) + (IntKind.wrap IntKind.u32 ((bitsV BinOp.xor IntKind.u32 (bitsV BinOp.xor IntKind.u32 n59 n68) n77) + (bitsV BinOp.xor IntKind.u32 (bitsV BinOp.xor IntKind.u32 (bitsV BinOp.and IntKind.u32 n13 n51) (bitsV BinOp.and IntKind.u32 n13 n53)) (bitsV BinOp.and IntKind.u32 n55 n57))))))), (Value.int IntKind.u32 n13), (Value.int IntKind.u32 n86), (Value.int IntKind.u32 n88), (Value.int IntKind.u32 (IntKind.wrap IntKind.u32 (n90 + (IntKind.wrap IntKind.u32 ((IntKind.wrap IntKind.u32 ((IntKind.wrap IntKind.u32 ((IntKind.wrap IntKind.u32 (n15 + (bitsV BinOp.xor IntKind.u32 (bitsV BinOp.xor IntKind.u32 n24 n33) n42))) + (bitsV BinOp.xor IntKind.u32 (bitsV BinOp.and IntKind.u32 n11 n17) (bitsV BinOp.and IntKind.u32 (bitsV BinOp.xor IntKind.u32 (4294967295 : Int) n11) n19)))) + n21)) + n22))))), (Value.int IntKind.u32 n11), (Value.int IntKind.u32 n92), (Value.int IntKind.u32 n94)] = (List.map (fun (n97 : Int) => (Value.int IntKind.u32 n97)) l3)) ∧
         (((k (IntKind.wrap IntKind.i64 (n10 + (1 : Int))) l3 h8)).fst ∧
         (((k (IntKind.wrap IntKind.i64 (n10 + (1 : Int))) l3 h8)).snd < ((k n10 l2 h2)).snd)))))))))))))))))))))))))))))))))))))))))))))))))))))))))))))))))))))))))))))))))))))))))))))))))))))))))) ∧
    (((decide (n10 < (64 : Int))) = Bool.false) →
    (∃ k1 : (Int → ((List Int) → (Heap → (Prod Prop Nat)))),
     ((∃ l4 : (List Int),
     (((List.map (fun (n98 : Int) => (Value.int IntKind.u32 n98)) l2) = (List.map (fun (n99 : Int) => (Value.int IntKind.u32 n99)) l4)) ∧
     ((k1 (0 : Int) l4 h2)).fst)) ∧
     (∀ n100 : Int,
     (∀ l5 : (List Int),
     (∀ h9 : Heap,
      (((k1 n100 l5 h9)).fst →
      ((((decide (n100 < (8 : Int))) = Bool.true) →
      ((((0 : Int) ≤ n100) ∧
       (n100 < (8 : Int))) ∧
       (∃ n101 : Int,
       ((((List.map (fun (n102 : Int) => (Value.int IntKind.u32 n102)) l5))[(0 + ((Int.toNat n100) * (1 : Nat)))]? = (Option.some (Value.int IntKind.u32 n101))) ∧
       ((((0 : Int) ≤ n100) ∧
        (n100 < (8 : Int))) ∧
       (∃ n103 : Int,
        ((((List.map (fun (n104 : Int) => (Value.int IntKind.u32 n104)) h_))[(0 + ((Int.toNat n100) * (1 : Nat)))]? = (Option.some (Value.int IntKind.u32 n103))) ∧
        ((((0 : Int) ≤ n100) ∧
        (n100 < (8 : Int))) ∧
        (((0 + ((Int.toNat n100) * (1 : Nat))) < (List.length (List.map (fun (n105 : Int) => (Value.int IntKind.u32 n105)) l5))) ∧
        (∃ l6 : (List Int),
         (((List.set (List.map (fun (n106 : Int) => (Value.int IntKind.u32 n106)) l5) (0 + ((Int.toNat n100) * (1 : Nat))) (Value.int IntKind.u32 (IntKind.wrap IntKind.u32 (n101 + n103)))) = (List.map (fun (n107 : Int) => (Value.int IntKind.u32 n107)) l6)) ∧
         (((k1 (IntKind.wrap IntKind.i64 (n100 + (1 : Int))) l6 h9)).fst ∧
         (((k1 (IntKind.wrap IntKind.i64 (n100 + (1 : Int))) l6 h9)).snd < ((k1 n100 l5 h9)).snd))))))))))))) ∧
      (((decide (n100 < (8 : Int))) = Bool.false) →
      (((List.length (List.map (fun (n108 : Int) => (Value.int IntKind.u32 n108)) l5)) = (8 : Nat)) ∧
       ((((List.length (List.map (fun (n109 : Int) => (Value.int IntKind.u32 n109)) l5)) = (8 : Nat)) ∧
       ((List.length (List.map (fun (n110 : Int) => (Value.int IntKind.u32 n110)) l5)) = 8)) ∧
       (((List.length (List.map (fun (n111 : Int) => (Value.int IntKind.u32 n111)) l5)) = (8 : Nat)) ∧
       (Q (Value.agg ⟨(List.map (fun (n112 : Int) => (Value.int IntKind.u32 n112)) l5)⟩) h9))))))))))))))))))))))))))))
theorem vc408 (h_ : List Int) (b : List Int) (h : Heap) (Q : Value → Heap → Prop) : evF Tryz.prog τ tok 408 an408 [.agg ⟨(fun l => l.map (fun (x : Int) => (.int .u32 x : Value))) h_⟩, .agg ⟨(fun l => l.map (fun (x : Int) => (.int .u8 x : Value))) b⟩] h Q = VC408 h_ b h Q := by kernel_rfl
theorem ok408 {h_ : List Int} {b : List Int} {h : Heap} {Q : Value → Heap → Prop} (hv : VC408 h_ b h Q) : Spec Tryz.prog 408 [.agg ⟨(fun l => l.map (fun (x : Int) => (.int .u32 x : Value))) h_⟩, .agg ⟨(fun l => l.map (fun (x : Int) => (.int .u8 x : Value))) b⟩] h Q := evF_sound (P := Tryz.prog) (τ := τ) (ok := tok) (an := an408) (fun _ => drawn mixed) (by rw [vc408]; exact hv)

/- pharos/sha.told -/
def an397 : An := (.nd none [] [] .leaf (.nd none [] [] .leaf (.nd none [] [] (.nd none [] [] .leaf (.nd none [] [] (.nd none [.slot 7 (.int .i64), .loc 1 (.st (List Int) ((fun l => l.map (fun (x : Int) => (.int .u8 x : Value)))) 0)] [] .leaf .leaf) .leaf)) .leaf)))
def VC397 (h_ : List Int) (h : Heap) (Q : Value → Heap → Prop) : Prop :=
 (((List.length (List.map (fun (n : Int) => (Value.int IntKind.u32 n)) h_)) = (8 : Nat)) ∧
 (∃ k : (Int → ((List Int) → (Heap → (Prod Prop Nat)))),
 ((∃ l : (List Int),
  (((List.replicate 32 (Value.int IntKind.u8 (0 : Int))) = (List.map (fun (n1 : Int) => (Value.int IntKind.u8 n1)) l)) ∧
  ((k (0 : Int) l h)).fst)) ∧
 (∀ n2 : Int,
  (∀ l1 : (List Int),
  (∀ h1 : Heap,
  (((k n2 l1 h1)).fst →
  ((((decide (n2 < (8 : Int))) = Bool.true) →
   ((((0 : Int) ≤ n2) ∧
   (n2 < (8 : Int))) ∧
   (∃ n3 : Int,
   ((((List.map (fun (n4 : Int) => (Value.int IntKind.u32 n4)) h_))[((Int.toNat n2) * (1 : Nat))]? = (Option.some (Value.int IntKind.u32 n3))) ∧
    ((((0 : Int) ≤ (IntKind.wrap IntKind.i64 ((4 : Int) * n2))) ∧
    ((IntKind.wrap IntKind.i64 ((4 : Int) * n2)) < (32 : Int))) ∧
    (((0 + ((Int.toNat (IntKind.wrap IntKind.i64 ((4 : Int) * n2))) * (1 : Nat))) < (List.length (List.map (fun (n5 : Int) => (Value.int IntKind.u8 n5)) l1))) ∧
    ((((0 : Int) ≤ (IntKind.wrap IntKind.i64 ((IntKind.wrap IntKind.i64 ((4 : Int) * n2)) + (1 : Int)))) ∧
     ((IntKind.wrap IntKind.i64 ((IntKind.wrap IntKind.i64 ((4 : Int) * n2)) + (1 : Int))) < (32 : Int))) ∧
    (((0 + ((Int.toNat (IntKind.wrap IntKind.i64 ((IntKind.wrap IntKind.i64 ((4 : Int) * n2)) + (1 : Int)))) * (1 : Nat))) < (List.length (List.set (List.map (fun (n6 : Int) => (Value.int IntKind.u8 n6)) l1) (0 + ((Int.toNat (IntKind.wrap IntKind.i64 ((4 : Int) * n2))) * (1 : Nat))) (Value.int IntKind.u8 (IntKind.wrap IntKind.u8 (Int.fdiv n3 (16777216 : Int))))))) ∧
     ((((0 : Int) ≤ (IntKind.wrap IntKind.i64 ((IntKind.wrap IntKind.i64 ((4 : Int) * n2)) + (2 : Int)))) ∧
     ((IntKind.wrap IntKind.i64 ((IntKind.wrap IntKind.i64 ((4 : Int) * n2)) + (2 : Int))) < (32 : Int))) ∧
     (((0 + ((Int.toNat (IntKind.wrap IntKind.i64 ((IntKind.wrap IntKind.i64 ((4 : Int) * n2)) + (2 : Int)))) * (1 : Nat))) < (List.length (List.set (List.set (List.map (fun (n7 : Int) => (Value.int IntKind.u8 n7)) l1) (0 + ((Int.toNat (IntKind.wrap IntKind.i64 ((4 : Int) * n2))) * (1 : Nat))) (Value.int IntKind.u8 (IntKind.wrap IntKind.u8 (Int.fdiv n3 (16777216 : Int))))) (0 + ((Int.toNat (IntKind.wrap IntKind.i64 ((IntKind.wrap IntKind.i64 ((4 : Int) * n2)) + (1 : Int)))) * (1 : Nat))) (Value.int IntKind.u8 (IntKind.wrap IntKind.u8 (Int.fdiv n3 (65536 : Int))))))) ∧
     ((((0 : Int) ≤ (IntKind.wrap IntKind.i64 ((IntKind.wrap IntKind.i64 ((4 : Int) * n2)) + (3 : Int)))) ∧
      ((IntKind.wrap IntKind.i64 ((IntKind.wrap IntKind.i64 ((4 : Int) * n2)) + (3 : Int))) < (32 : Int))) ∧
     (((0 + ((Int.toNat (IntKind.wrap IntKind.i64 ((IntKind.wrap IntKind.i64 ((4 : Int) * n2)) + (3 : Int)))) * (1 : Nat))) < (List.length (List.set (List.set (List.set (List.map (fun (n8 : Int) => (Value.int IntKind.u8 n8)) l1) (0 + ((Int.toNat (IntKind.wrap IntKind.i64 ((4 : Int) * n2))) * (1 : Nat))) (Value.int IntKind.u8 (IntKind.wrap IntKind.u8 (Int.fdiv n3 (16777216 : Int))))) (0 + ((Int.toNat (IntKind.wrap IntKind.i64 ((IntKind.wrap IntKind.i64 ((4 : Int) * n2)) + (1 : Int)))) * (1 : Nat))) (Value.int IntKind.u8 (IntKind.wrap IntKind.u8 (Int.fdiv n3 (65536 : Int))))) (0 + ((Int.toNat (IntKind.wrap IntKind.i64 ((IntKind.wrap IntKind.i64 ((4 : Int) * n2)) + (2 : Int)))) * (1 : Nat))) (Value.int IntKind.u8 (IntKind.wrap IntKind.u8 (Int.fdiv n3 (256 : Int))))))) ∧
      (∃ l2 : (List Int),
      (((List.set (List.set (List.set (List.set (List.map (fun (n9 : Int) => (Value.int IntKind.u8 n9)) l1) (0 + ((Int.toNat (IntKind.wrap IntKind.i64 ((4 : Int) * n2))) * (1 : Nat))) (Value.int IntKind.u8 (IntKind.wrap IntKind.u8 (Int.fdiv n3 (16777216 : Int))))) (0 + ((Int.toNat (IntKind.wrap IntKind.i64 ((IntKind.wrap IntKind.i64 ((4 : Int) * n2)) + (1 : Int)))) * (1 : Nat))) (Value.int IntKind.u8 (IntKind.wrap IntKind.u8 (Int.fdiv n3 (65536 : Int))))) (0 + ((Int.toNat (IntKind.wrap IntKind.i64 ((IntKind.wrap IntKind.i64 ((4 : Int) * n2)) + (2 : Int)))) * (1 : Nat))) (Value.int IntKind.u8 (IntKind.wrap IntKind.u8 (Int.fdiv n3 (256 : Int))))) (0 + ((Int.toNat (IntKind.wrap IntKind.i64 ((IntKind.wrap IntKind.i64 ((4 : Int) * n2)) + (3 : Int)))) * (1 : Nat))) (Value.int IntKind.u8 (IntKind.wrap IntKind.u8 n3))) = (List.map (fun (n10 : Int) => (Value.int IntKind.u8 n10)) l2)) ∧
      (((k (IntKind.wrap IntKind.i64 (n2 + (1 : Int))) l2 h1)).fst ∧
      (((k (IntKind.wrap IntKind.i64 (n2 + (1 : Int))) l2 h1)).snd < ((k n2 l1 h1)).snd)))))))))))))))) ∧
   (((decide (n2 < (8 : Int))) = Bool.false) →
   (∀ b : Nat,
   (((h1 b) = Option.none) →
   (((0 ≤ 32) ∧
    ((32 ≤ 32) ∧
    (32 ≤ 32))) ∧
    (((Bool.false = Bool.true) →
    (Bool.false = Bool.true)) ∧
    (∃ l3 : (List UInt8),
    (((rdn (Heap.set h1 b (Obj.cells ⟨(List.map (fun (n11 : Int) => (Value.int IntKind.u8 n11)) l1)⟩ 485 (Prod.mk 0 0))) (Addr.mk b 0 Option.none) 32) = (Option.some (List.map byteV l3))) ∧
    (Q (S l3) (Heap.set h1 b (Obj.cells ⟨(List.map (fun (n12 : Int) => (Value.int IntKind.u8 n12)) l1)⟩ 485 (Prod.mk 0 0)))))))))))))))))))
theorem vc397 (h_ : List Int) (h : Heap) (Q : Value → Heap → Prop) : evF Tryz.prog τ tok 397 an397 [.agg ⟨(fun l => l.map (fun (x : Int) => (.int .u32 x : Value))) h_⟩] h Q = VC397 h_ h Q := by kernel_rfl
theorem ok397 {h_ : List Int} {h : Heap} {Q : Value → Heap → Prop} (hv : VC397 h_ h Q) : Spec Tryz.prog 397 [.agg ⟨(fun l => l.map (fun (x : Int) => (.int .u32 x : Value))) h_⟩] h Q := evF_sound (P := Tryz.prog) (τ := τ) (ok := tok) (an := an397) (fun _ => drawn mixed) (by rw [vc397]; exact hv)

/- pharos/sha.First -/
def an395 : An := .leaf
def VC395 (h : Heap) (Q : Value → Heap → Prop) : Prop :=
 (((List.replicate 8 (Value.int IntKind.u32 (0 : Int))) = (List.replicate 8 (Value.int IntKind.u32 (0 : Int)))) ∧
 (((8 = 8) ∧
 (8 = 8)) ∧
 ((8 = 8) ∧
 (Q (Value.agg ⟨[(Value.int IntKind.u32 (1779033703 : Int)), (Value.int IntKind.u32 (3144134277 : Int)), (Value.int IntKind.u32 (1013904242 : Int)), (Value.int IntKind.u32 (2773480762 : Int)), (Value.int IntKind.u32 (1359893119 : Int)), (Value.int IntKind.u32 (2600822924 : Int)), (Value.int IntKind.u32 (528734635 : Int)), (Value.int IntKind.u32 (1541459225 : Int))]⟩) h))))
theorem vc395 (h : Heap) (Q : Value → Heap → Prop) : evF Tryz.prog τ tok 395 an395 [] h Q = VC395  h Q := by kernel_rfl
theorem ok395 {h : Heap} {Q : Value → Heap → Prop} (hv : VC395  h Q) : Spec Tryz.prog 395 [] h Q := evF_sound (P := Tryz.prog) (τ := τ) (ok := tok) (an := an395) (fun _ => drawn mixed) (by rw [vc395]; exact hv)

/- pharos/sha.blocks -/
def an396 : An := (.nd none [] [] .leaf (.nd none [] [] (.nd none [] [] (.nd none [.slot 1 .slice, .loc 0 (.st (List Int) ((fun l => l.map (fun (x : Int) => (.int .u32 x : Value)))) 0)] [] (.nd none [] [] .leaf (.nd none [] [] (.nd none [] [] (.nd none [] [0, 1, 2, 3, 4, 5, 6] .leaf .leaf) .leaf) .leaf)) .leaf) .leaf) (.nd none [] [] (.nd none [] [0, 1, 2, 3, 4] .leaf .leaf) .leaf)))
def VC396 (words : List Int) (b : Sl) (h : Heap) (Q : Value → Heap → Prop) : Prop :=
 (∃ k : (Sl → ((List Int) → (Heap → (Prod Prop Nat)))),
 ((∃ l : (List Int),
 (((List.map (fun (n : Int) => (Value.int IntKind.u32 n)) words) = (List.map (fun (n1 : Int) => (Value.int IntKind.u32 n1)) l)) ∧
  ((k (Sl.mk (b).a (b).len (b).cap) l h)).fst)) ∧
 (∀ sl : Sl,
 (∀ l1 : (List Int),
  (∀ h1 : Heap,
  (((k sl l1 h1)).fst →
  ((((decide ((((sl).len : Nat) : Int) ≥ (64 : Int))) = Bool.true) →
   (((List.length (List.map (fun (n2 : Int) => (Value.int IntKind.u32 n2)) l1)) = (8 : Nat)) ∧
   (((0 : Int) ≤ (64 : Int)) ∧
   (((0 ≤ 64) ∧
    ((64 ≤ (sl).cap) ∧
    ((sl).cap ≤ (sl).cap))) ∧
   (((Bool.false = Bool.true) →
    (Bool.true = Bool.true)) ∧
    ((64 ≤ 64) ∧
    (∃ ad : Addr,
    (((Option.map (fun (ad1 : Addr) => (if ((sl).cap = 0) then ad1 else (Addr.add ad1 (0 * (1 : Nat))))) ((Sl.mk (sl).a (sl).len (sl).cap)).a) = (Option.some ad)) ∧
    (∃ l2 : (List Int),
     (((rdn h1 ad (64 : Nat)) = (Option.some (List.map (fun (n3 : Int) => (Value.int IntKind.u8 n3)) l2))) ∧
     (Spec Tryz.prog 408 [(Value.agg ⟨(List.map (fun (n4 : Int) => (Value.int IntKind.u32 n4)) l1)⟩), (Value.agg ⟨(List.map (fun (n5 : Int) => (Value.int IntKind.u8 n5)) l2)⟩)] h1 (fun v h2 =>
     (∃ l3 : (List Int),
     ((v = (Value.agg ⟨(List.map (fun (n6 : Int) => (Value.int IntKind.u32 n6)) l3)⟩)) ∧
      ((((List.length (List.map (fun (n7 : Int) => (Value.int IntKind.u32 n7)) l3)) = (8 : Nat)) ∧
      ((List.length (List.map (fun (n8 : Int) => (Value.int IntKind.u32 n8)) l3)) = (List.length (List.map (fun (n9 : Int) => (Value.int IntKind.u32 n9)) l1)))) ∧
      (((0 : Int) ≤ (64 : Int)) ∧
      (((64 ≤ (sl).len) ∧
       (((sl).len ≤ (sl).cap) ∧
       ((sl).cap ≤ (sl).cap))) ∧
      (((Bool.false = Bool.true) →
       (Bool.false = Bool.true)) ∧
       (∃ l4 : (List Int),
       (((List.map (fun (n10 : Int) => (Value.int IntKind.u32 n10)) l3) = (List.map (fun (n11 : Int) => (Value.int IntKind.u32 n11)) l4)) ∧
       (((k (Sl.mk (Option.map (fun (ad2 : Addr) => (if ((sl).cap = 64) then ad2 else (Addr.mk (ad2).block ((ad2).off + (64 * (1 : Nat))) Option.none))) ((Sl.mk (sl).a (sl).len (sl).cap)).a) ((sl).len - 64) ((sl).cap - 64)) l4 h2)).fst ∧
       (((k (Sl.mk (Option.map (fun (ad3 : Addr) => (if ((sl).cap = 64) then ad3 else (Addr.mk (ad3).block ((ad3).off + (64 * (1 : Nat))) Option.none))) ((Sl.mk (sl).a (sl).len (sl).cap)).a) ((sl).len - 64) ((sl).cap - 64)) l4 h2)).snd < ((k sl l1 h1)).snd)))))))))))))))))))))) ∧
  (((decide ((((sl).len : Nat) : Int) ≥ (64 : Int))) = Bool.false) →
   (((List.length (List.map (fun (n12 : Int) => (Value.int IntKind.u32 n12)) l1)) = (8 : Nat)) ∧
   (∃ l5 : (List Value),
   (∃ l6 : (List Value),
   (((Option.some []) = (Option.some l5)) ∧
    (((rowOf h1 (sl).a ((sl).len * (1 : Nat))) = (Option.some l6)) ∧
    ((∀ va : Value,
    ((Membership.mem l6 va) →
     ((one va) = Bool.true))) ∧
    ((((0 + (sl).len) * (1 : Nat)) ≤ 140737488355328) ∧
    (((0 + (sl).len) ≤ 9223372036854775807) ∧
     ((((0 + (sl).len) ≤ 0) →
     (∀ ad4 : Addr,
     ((Option.none = (Option.some ad4)) →
      ((Option.isSome (wr h1 (Addr.add ad4 (0 * (1 : Nat))) l6)) = Bool.true)))) ∧
     ((((Option.none : (Option Addr)) = Option.none) →
     (((0 + (sl).len) ≤ 0) →
      (l6 = []))) ∧
     (∀ sl1 : Sl,
     (∀ h3 : Heap,
      ((AppRes h1 (Sl.mk Option.none 0 0) (1 : Nat) 5 l5 l6 (sl).len sl1 h3) →
      (((Option.map (fun (l7 : (List Value)) => (Value.agg ⟨l7⟩)) (sub (List.map (fun (n13 : Int) => (Value.int IntKind.u32 n13)) l1) 0 (8 : Nat))) = (Option.map (fun (l8 : (List Value)) => (Value.agg ⟨l8⟩)) (sub (List.map (fun (n14 : Int) => (Value.int IntKind.u32 n14)) l1) 0 (8 : Nat)))) ∧
      ((((List.length (List.map (fun (n15 : Int) => (Value.int IntKind.u32 n15)) l1)) = (8 : Nat)) ∧
       ((List.length (List.map (fun (n16 : Int) => (Value.int IntKind.u32 n16)) l1)) = 8)) ∧
      (((List.length (List.map (fun (n17 : Int) => (Value.int IntKind.u32 n17)) l1)) = (8 : Nat)) ∧
       (Q (Value.tuple ⟨[(Value.agg ⟨(List.map (fun (n18 : Int) => (Value.int IntKind.u32 n18)) l1)⟩), (Value.slice (sl1).a (sl1).len (sl1).cap)]⟩) h3)))))))))))))))))))))))))
theorem vc396 (words : List Int) (b : Sl) (h : Heap) (Q : Value → Heap → Prop) : evF Tryz.prog τ tok 396 an396 [.agg ⟨(fun l => l.map (fun (x : Int) => (.int .u32 x : Value))) words⟩, .slice b.a b.len b.cap] h Q = VC396 words b h Q := by kernel_rfl
theorem ok396 {words : List Int} {b : Sl} {h : Heap} {Q : Value → Heap → Prop} (hv : VC396 words b h Q) : Spec Tryz.prog 396 [.agg ⟨(fun l => l.map (fun (x : Int) => (.int .u32 x : Value))) words⟩, .slice b.a b.len b.cap] h Q := evF_sound (P := Tryz.prog) (τ := τ) (ok := tok) (an := an396) (fun _ => drawn mixed) (by rw [vc396]; exact hv)

/- pharos/sha.New -/
def an360 : An := .leaf
def VC360 (h : Heap) (Q : Value → Heap → Prop) : Prop :=
 (Spec Tryz.prog 395 [] h (fun v h1 =>
 (∃ l : (List Int),
 ((v = (Value.agg ⟨(List.map (fun (n : Int) => (Value.int IntKind.u32 n)) l)⟩)) ∧
 (((List.length (List.map (fun (n1 : Int) => (Value.int IntKind.u32 n1)) l)) = 8) ∧
  (∀ b : Nat,
  (((h1 b) = Option.none) →
  (Q (Value.pointer (Option.some (Addr.mk b 0 Option.none))) (Heap.set h1 b (Obj.cells ⟨((List.map (fun (n2 : Int) => (Value.int IntKind.u32 n2)) l) ++ [(Value.slice Option.none 0 0), (Value.int IntKind.i64 (0 : Int))])⟩ 471 (Prod.mk 0 0)))))))))))
theorem vc360 (h : Heap) (Q : Value → Heap → Prop) : evF Tryz.prog τ tok 360 an360 [] h Q = VC360  h Q := by kernel_rfl
theorem ok360 {h : Heap} {Q : Value → Heap → Prop} (hv : VC360  h Q) : Spec Tryz.prog 360 [] h Q := evF_sound (P := Tryz.prog) (τ := τ) (ok := tok) (an := an360) (fun _ => drawn mixed) (by rw [vc360]; exact hv)

/- (*pharos/sha.Hash).Write -/
def an361 : An := (.nd none [] [] .leaf (.nd none [] [0, 1, 2, 3, 4, 5, 6, 7, 8, 9, 10, 11, 12, 13, 14, 15, 16, 17, 18, 19, 20, 21] .leaf .leaf))
def VC361 (h_ : Option Addr) (s : List UInt8) (h : Heap) (Q : Value → Heap → Prop) : Prop :=
 (∃ ad : Addr,
 ((h_ = (Option.some ad)) ∧
 (∃ n : Int,
 (((rd h (Addr.mk (ad).block ((ad).off + 9) Option.none)) = (Option.some (Value.int IntKind.i64 n))) ∧
  (∃ ad1 : Addr,
  ((h_ = (Option.some ad1)) ∧
  (∃ h1 : Heap,
  (((wr h (Addr.mk (ad1).block ((ad1).off + 9) Option.none) [(Value.int IntKind.i64 (IntKind.wrap IntKind.i64 (n + (((List.length s) : Nat) : Int))))]) = (Option.some h1)) ∧
   (∃ ad2 : Addr,
   ((h_ = (Option.some ad2)) ∧
   (∃ l : (List Int),
   (((rdn h1 (Addr.add ad2 0) (8 : Nat)) = (Option.some (List.map (fun (n1 : Int) => (Value.int IntKind.u32 n1)) l))) ∧
    (∃ ad3 : Addr,
    ((h_ = (Option.some ad3)) ∧
    (∃ sl : Sl,
    (((rd h1 (Addr.mk (ad3).block ((ad3).off + 8) Option.none)) = (Option.some (Value.slice (sl).a (sl).len (sl).cap))) ∧
     (∃ l1 : (List Value),
     (((rowOf h1 (sl).a (sl).len) = (Option.some l1)) ∧
     (((((sl).len + (List.length s)) * (1 : Nat)) ≤ 140737488355328) ∧
     ((((sl).len + (List.length s)) ≤ 9223372036854775807) ∧
      (((((sl).len + (List.length s)) ≤ (sl).cap) →
      (∀ ad4 : Addr,
      (((sl).a = (Option.some ad4)) →
       ((Option.isSome (wr h1 (Addr.add ad4 (sl).len) (List.map byteV s))) = Bool.true)))) ∧
      ((((sl).a = Option.none) →
      ((((sl).len + (List.length s)) ≤ (sl).cap) →
       ((List.map byteV s) = []))) ∧
      (∀ sl1 : Sl,
      (∀ h2 : Heap,
       ((AppRes h1 (Sl.mk (sl).a (sl).len (sl).cap) 1 5 l1 (List.map byteV s) (List.length s) sl1 h2) →
       (((Option.map (fun (l2 : (List Value)) => (Value.agg ⟨l2⟩)) (rdn h2 (Addr.add ad2 0) (8 : Nat))) = (Option.map (fun (l3 : (List Value)) => (Value.agg ⟨l3⟩)) (rdn h1 (Addr.add ad2 0) (8 : Nat)))) ∧
       (Spec Tryz.prog 396 [(Value.agg ⟨(List.map (fun (n2 : Int) => (Value.int IntKind.u32 n2)) l)⟩), (Value.slice (sl1).a (sl1).len (sl1).cap)] h2 (fun v h3 =>
       (∃ l4 : (List Int),
        (∃ sl2 : Sl,
        ((v = (Value.tuple ⟨[(Value.agg ⟨(List.map (fun (n3 : Int) => (Value.int IntKind.u32 n3)) l4)⟩), (Value.slice (sl2).a (sl2).len (sl2).cap)]⟩)) ∧
        (∃ ad5 : Addr,
        ((h_ = (Option.some ad5)) ∧
         (((List.length (List.map (fun (n4 : Int) => (Value.int IntKind.u32 n4)) l4)) = (8 : Nat)) ∧
         (∃ h4 : Heap,
         (((wr h3 (Addr.add ad5 0) (List.map (fun (n5 : Int) => (Value.int IntKind.u32 n5)) l4)) = (Option.some h4)) ∧
         (∃ ad6 : Addr,
         ((h_ = (Option.some ad6)) ∧
         (∃ h5 : Heap,
         (((wr h4 (Addr.mk (ad6).block ((ad6).off + 8) Option.none) [(Value.slice (sl2).a (sl2).len (sl2).cap)]) = (Option.some h5)) ∧
         (Q (Value.tuple ⟨[]⟩) h5)))))))))))))))))))))))))))))))))))))))))
theorem vc361 (h_ : Option Addr) (s : List UInt8) (h : Heap) (Q : Value → Heap → Prop) : evF Tryz.prog τ tok 361 an361 [.pointer h_, S s] h Q = VC361 h_ s h Q := by kernel_rfl
theorem ok361 {h_ : Option Addr} {s : List UInt8} {h : Heap} {Q : Value → Heap → Prop} (hv : VC361 h_ s h Q) : Spec Tryz.prog 361 [.pointer h_, S s] h Q := evF_sound (P := Tryz.prog) (τ := τ) (ok := tok) (an := an361) (fun _ => drawn mixed) (by rw [vc361]; exact hv)

/- (*pharos/sha.Hash).Sum -/
def an362 : An := (.nd none [] [] .leaf (.nd none [] [] .leaf (.nd none [] [] .leaf (.nd none [] [] (.nd none [] [] (.nd none [.slot 3 .slice] [] .leaf .leaf) .leaf) (.nd none [] [] .leaf (.nd none [] [] (.nd none [] [] .leaf (.nd none [] [] (.nd none [.slot 3 .slice, .slot 29 (.int .i64)] [] .leaf .leaf) .leaf)) .leaf))))))
def VC362 (h_ : Option Addr) (h : Heap) (Q : Value → Heap → Prop) : Prop :=
 (∃ ad : Addr,
 ((h_ = (Option.some ad)) ∧
 (∃ sl : Sl,
 (((rd h (Addr.mk (ad).block ((ad).off + 8) Option.none)) = (Option.some (Value.slice (sl).a (sl).len (sl).cap))) ∧
  (∃ l : (List Value),
  (∃ l1 : (List Value),
  (((Option.some []) = (Option.some l)) ∧
  (((rowOf h (sl).a ((sl).len * (1 : Nat))) = (Option.some l1)) ∧
   ((∀ va : Value,
   ((Membership.mem l1 va) →
   ((one va) = Bool.true))) ∧
   ((((0 + (sl).len) * (1 : Nat)) ≤ 140737488355328) ∧
   (((0 + (sl).len) ≤ 9223372036854775807) ∧
   ((((0 + (sl).len) ≤ 0) →
    (∀ ad1 : Addr,
    ((Option.none = (Option.some ad1)) →
    ((Option.isSome (wr h (Addr.add ad1 (0 * (1 : Nat))) l1)) = Bool.true)))) ∧
    ((((Option.none : (Option Addr)) = Option.none) →
    (((0 + (sl).len) ≤ 0) →
    (l1 = []))) ∧
    (∀ sl1 : Sl,
    (∀ h1 : Heap,
    ((AppRes h (Sl.mk Option.none 0 0) (1 : Nat) 5 l l1 (sl).len sl1 h1) →
     ((1 = (1 * (1 : Nat))) ∧
     (∃ l2 : (List Value),
     (((rowOf h1 (sl1).a ((sl1).len * (1 : Nat))) = (Option.some l2)) ∧
     (((((sl1).len + 1) * (1 : Nat)) ≤ 140737488355328) ∧
      ((((sl1).len + 1) ≤ 9223372036854775807) ∧
      (((((sl1).len + 1) ≤ (sl1).cap) →
      (∀ ad2 : Addr,
       (((sl1).a = (Option.some ad2)) →
       ((Option.isSome (wr h1 (Addr.add ad2 ((sl1).len * (1 : Nat))) [(Value.int IntKind.u8 (128 : Int))])) = Bool.true)))) ∧
      ((((sl1).a = Option.none) →
       ((((sl1).len + 1) ≤ (sl1).cap) →
       ([(Value.int IntKind.u8 (128 : Int))] = []))) ∧
      (∀ sl2 : Sl,
       (∀ h2 : Heap,
       ((AppRes h1 (Sl.mk (sl1).a (sl1).len (sl1).cap) (1 : Nat) 5 l2 [(Value.int IntKind.u8 (128 : Int))] 1 sl2 h2) →
       (∃ k : (Sl → (Heap → (Prod Prop Nat))),
       (((k (Sl.mk (sl2).a (sl2).len (sl2).cap) h2)).fst ∧
        (∀ sl3 : Sl,
        (∀ h3 : Heap,
        (((k sl3 h3)).fst →
        (((64 : Int) ≠ (0 : Int)) ∧
         (((((Int.tmod (((sl3).len : Nat) : Int) (64 : Int)) != (56 : Int)) = Bool.true) →
         ((1 = (1 * (1 : Nat))) ∧
         (∃ l3 : (List Value),
         (((rowOf h3 (sl3).a ((sl3).len * (1 : Nat))) = (Option.some l3)) ∧
         (((((sl3).len + 1) * (1 : Nat)) ≤ 140737488355328) ∧
         ((((sl3).len + 1) ≤ 9223372036854775807) ∧
         (((((sl3).len + 1) ≤ (sl3).cap) →
         (∀ ad3 : Addr,
         (((sl3).a = (Option.some ad3)) →
         ((Option.isSome (wr h3 (Addr.add ad3 ((sl3).len * (1 : Nat))) [(Value.int IntKind.u8 (0 : Int))])) = Bool.true)))) ∧
         ((((sl3).a = Option.none) →
         ((((sl3).len + 1) ≤ (sl3).cap) →
         ([(Value.int IntKind.u8 (0 : Int))] = []))) ∧
         (∀ sl4 : Sl,
         (∀ h4 : Heap,
         ((AppRes h3 (Sl.mk (sl3).a (sl3).len (sl3).cap) (1 : Nat) 5 l3 [(Value.int IntKind.u8 (0 : Int))] 1 sl4 h4) →
         (((k (Sl.mk (sl4).a (sl4).len (sl4).cap) h4)).fst ∧
         (((k (Sl.mk (sl4).a (sl4).len (sl4).cap) h4)).snd < ((k sl3 h3)).snd))))))))))))) ∧
         ((((Int.tmod (((sl3).len : Nat) : Int) (64 : Int)) != (56 : Int)) = Bool.false) →
         (∃ ad4 : Addr,
         ((h_ = (Option.some ad4)) ∧
         (∃ n : Int,
         (((rd h3 (Addr.mk (ad4).block ((ad4).off + 9) Option.none)) = (Option.some (Value.int IntKind.i64 n))) ∧
         (∃ k1 : (Sl → (Int → (Heap → (Prod Prop Nat)))),
         (((k1 (Sl.mk (sl3).a (sl3).len (sl3).cap) (0 : Int) h3)).fst ∧
         (∀ sl5 : Sl,
         (∀ n1 : Int,
         (∀ h5 : Heap,
         (((k1 sl5 n1 h5)).fst →
         ((((decide (n1 < (8 : Int))) = Bool.true) →
         (((0 : Int) ≤ (IntKind.wrap IntKind.i64 ((56 : Int) - (IntKind.wrap IntKind.i64 ((8 : Int) * n1))))) ∧
         (((List.length [(Value.int IntKind.u8 (IntKind.wrap IntKind.u8 (Int.fdiv (IntKind.wrap IntKind.u64 ((IntKind.wrap IntKind.u64 n) * (8 : Int))) ((2 : Int) ^ (Min.min (Int.toNat (IntKind.wrap IntKind.i64 ((56 : Int) - (IntKind.wrap IntKind.i64 ((8 : Int) * n1))))) 64)))))]) = (1 * (1 : Nat))) ∧
         (∃ l4 : (List Value),
         (((rowOf h5 (sl5).a ((sl5).len * (1 : Nat))) = (Option.some l4)) ∧
         (((((sl5).len + 1) * (1 : Nat)) ≤ 140737488355328) ∧
         ((((sl5).len + 1) ≤ 9223372036854775807) ∧
         (((((sl5).len + 1) ≤ (sl5).cap) →
         (∀ ad5 : Addr,
         (((sl5).a = (Option.some ad5)) →
         ((Option.isSome (wr h5 (Addr.add ad5 ((sl5).len * (1 : Nat))) [(Value.int IntKind.u8 (IntKind.wrap IntKind.u8 (Int.fdiv (IntKind.wrap IntKind.u64 ((IntKind.wrap IntKind.u64 n) * (8 : Int))) ((2 : Int) ^ (Min.min (Int.toNat (IntKind.wrap IntKind.i64 ((56 : Int) - (IntKind.wrap IntKind.i64 ((8 : Int) * n1))))) 64)))))])) = Bool.true)))) ∧
         ((((sl5).a = Option.none) →
         ((((sl5).len + 1) ≤ (sl5).cap) →
         ([(Value.int IntKind.u8 (IntKind.wrap IntKind.u8 (Int.fdiv (IntKind.wrap IntKind.u64 ((IntKind.wrap IntKind.u64 n) * (8 : Int))) ((2 : Int) ^ (Min.min (Int.toNat (IntKind.wrap IntKind.i64 ((56 : Int) - (IntKind.wrap IntKind.i64 ((8 : Int) * n1))))) 64)))))] = []))) ∧
         (∀ sl6 : Sl,
         (∀ h6 : Heap,
         ((AppRes h5 (Sl.mk (sl5).a (sl5).len (sl5).cap) (1 : Nat) 5 l4 [(Value.int IntKind.u8 (IntKind.wrap IntKind.u8 (Int.fdiv (IntKind.wrap IntKind.u64 ((IntKind.wrap IntKind.u64 n) * (8 : Int))) ((2 : Int) ^ (Min.min (Int.toNat (IntKind.wrap IntKind.i64 ((56 : Int) - (IntKind.wrap IntKind.i64 ((8 : Int) * n1))))) 64)))))] 1 sl6 h6) →
         (((k1 (Sl.mk (sl6).a (sl6).len (sl6).cap) (IntKind.wrap IntKind.i64 (n1 + (1 : Int))) h6)).fst ∧
         (((k1 (Sl.mk (sl6).a (sl6).len (sl6).cap) (IntKind.wrap IntKind.i64 (n1 + (1 : Int))) h6)).snd < ((k1 sl5 n1 h5)).snd)))))))))))))) ∧
         (((decide (n1 < (8 : Int))) = Bool.false) →
         (∃ ad6 : Addr,
         ((h_ = (Option.some ad6)) ∧
         (∃ l5 : (List Int),
         (((rdn h5 (Addr.add ad6 0) (8 : Nat)) = (Option.some (List.map (fun (n2 : Int) => (Value.int IntKind.u32 n2)) l5))) ∧
         (Spec Tryz.prog 396 [(Value.agg ⟨(List.map (fun (n3 : Int) => (Value.int IntKind.u32 n3)) l5)⟩), (Value.slice (sl5).a (sl5).len (sl5).cap)] h5 (fun v h7 =>
         (∃ l6 : (List Int),
         (∃ sl7 : Sl,
         ((v = (Value.tuple ⟨[(Value.agg ⟨(List.map (fun (n4 : Int) => (Value.int IntKind.u32 n4)) l6)⟩), (Value.slice (sl7).a (sl7).len (sl7).cap)]⟩)) ∧
         ((((List.length (List.map (fun (n5 : Int) => (Value.int IntKind.u32 n5)) l6)) = (8 : Nat)) ∧
         ((List.length (List.map (fun (n6 : Int) => (Value.int IntKind.u32 n6)) l6)) = 8)) ∧
         (((List.length (List.map (fun (n7 : Int) => (Value.int IntKind.u32 n7)) l6)) = (8 : Nat)) ∧
         (Spec Tryz.prog 397 [(Value.agg ⟨(List.map (fun (n8 : Int) => (Value.int IntKind.u32 n8)) l6)⟩)] h7 (fun v1 h8 =>
         (∃ l7 : (List UInt8),
         ((v1 = (S l7)) ∧
         (Q (S l7) h8))))))))))))))))))))))))))))))))))))))))))))))))))))))))))))))
theorem vc362 (h_ : Option Addr) (h : Heap) (Q : Value → Heap → Prop) : evF Tryz.prog τ tok 362 an362 [.pointer h_] h Q = VC362 h_ h Q := by kernel_rfl
theorem ok362 {h_ : Option Addr} {h : Heap} {Q : Value → Heap → Prop} (hv : VC362 h_ h Q) : Spec Tryz.prog 362 [.pointer h_] h Q := evF_sound (P := Tryz.prog) (τ := τ) (ok := tok) (an := an362) (fun _ => drawn mixed) (by rw [vc362]; exact hv)

/- pharos/sha.Sum -/
def an303 : An := .leaf
def VC303 (s : List UInt8) (h : Heap) (Q : Value → Heap → Prop) : Prop :=
 (Spec Tryz.prog 360 [] h (fun v h1 =>
 (∃ p : (Option Addr),
 ((v = (Value.pointer p)) ∧
 (Spec Tryz.prog 361 [(Value.pointer p), (S s)] h1 (fun v1 h2 =>
  ((v1 = (Value.tuple ⟨[]⟩)) ∧
  (Spec Tryz.prog 362 [(Value.pointer p)] h2 (fun v2 h3 =>
  (∃ l : (List UInt8),
  ((v2 = (S l)) ∧
   (Q (S l) h3))))))))))))
theorem vc303 (s : List UInt8) (h : Heap) (Q : Value → Heap → Prop) : evF Tryz.prog τ tok 303 an303 [S s] h Q = VC303 s h Q := by kernel_rfl
theorem ok303 {s : List UInt8} {h : Heap} {Q : Value → Heap → Prop} (hv : VC303 s h Q) : Spec Tryz.prog 303 [S s] h Q := evF_sound (P := Tryz.prog) (τ := τ) (ok := tok) (an := an303) (fun _ => drawn mixed) (by rw [vc303]; exact hv)

/- pharos/digest.Sum -/
def an220 : An := (.nd none [] [] .leaf (.nd none [] [] (.nd none [] [] (.nd (some [.slot 11 .bool]) [] [] .leaf .leaf) .leaf) .leaf))
def VC220 (tag : Int) (s : List UInt8) (h : Heap) (Q : Value → Heap → Prop) : Prop :=
 (∀ J : (Bool → (Heap → Prop)),
 (((∀ b : Bool,
 (∀ h1 : Heap,
  (((((b = Bool.true) →
  (Q (Value.tuple ⟨[(S []), (Value.int IntKind.i64 (1 : Int))]⟩) h1)) ∧
  ((b = Bool.false) →
  (∃ l : (List UInt8),
   (((Option.some [(Value.int IntKind.u8 (IntKind.wrap IntKind.u8 tag))]) = (Option.some (List.map byteV l))) ∧
   ((((List.length l) + (List.length s)) ≤ 9223372036854775807) ∧
   (Spec Tryz.prog 303 [(S (l ++ s))] h1 (fun v h2 =>
   (∃ l1 : (List UInt8),
    ((v = (S l1)) ∧
    (Q (Value.tuple ⟨[(S l1), (Value.int IntKind.i64 (0 : Int))]⟩) h2))))))))))) →
  (J b h1))))) →
 ((((decide (tag < (1 : Int))) = Bool.false) →
  (J (decide (tag > (255 : Int))) h)) ∧
 (((decide (tag < (1 : Int))) = Bool.true) →
  (J Bool.true h)))))
theorem vc220 (tag : Int) (s : List UInt8) (h : Heap) (Q : Value → Heap → Prop) : evF Tryz.prog τ tok 220 an220 [.int .i64 tag, S s] h Q = VC220 tag s h Q := by kernel_rfl
theorem ok220 {tag : Int} {s : List UInt8} {h : Heap} {Q : Value → Heap → Prop} (hv : VC220 tag s h Q) : Spec Tryz.prog 220 [.int .i64 tag, S s] h Q := evF_sound (P := Tryz.prog) (τ := τ) (ok := tok) (an := an220) (fun _ => drawn mixed) (by rw [vc220]; exact hv)

end Go.Vw
namespace Go.Vw
open Go Go.Proofs

abbrev u32 (x : Int) : Value := .int .u32 x
abbrev u8 (x : Int) : Value := .int .u8 x
/-- The table of constants. -/
def shaK : List Int := [1116352408, 1899447441, 3049323471, 3921009573, 961987163, 1508970993, 2453635748, 2870763221, 3624381080, 310598401, 607225278, 1426881987, 1925078388, 2162078206, 2614888103, 3248222580, 3835390401, 4022224774, 264347078, 604807628, 770255983, 1249150122, 1555081692, 1996064986, 2554220882, 2821834349, 2952996808, 3210313671, 3336571891, 3584528711, 113926993, 338241895, 666307205, 773529912, 1294757372, 1396182291, 1695183700, 1986661051, 2177026350, 2456956037, 2730485921, 2820302411, 3259730800, 3345764771, 3516065817, 3600352804, 4094571909, 275423344, 430227734, 506948616, 659060556, 883997877, 958139571, 1322822218, 1537002063, 1747873779, 1955562222, 2024104815, 2227730452, 2361852424, 2428436474, 2756734187, 3204031479, 3329325298]
theorem shaK_len : shaK.length = 64 := rfl
/-- The table lies in its block. -/
def KH (h : Heap) : Prop := ∃ e fr, h 1 = some (.cells ⟨shaK.map fun x => .int .u32 x⟩ e fr)
theorem KH.le {h g : Heap} (k : KH h) (hl : h.le g) : KH g := by
  obtain ⟨e, fr, hk⟩ := k
  exact ⟨e, fr, hl _ _ hk⟩

theorem mg {α : Type} {f : Int → α} {l : List Int} {i : Nat} (h : i < l.length) : (l.map f)[i]? = some (f (l.getD i 0)) := by
  rw [List.getElem?_map, List.getElem?_eq_getElem h]
  simp [List.getD, List.getElem?_eq_getElem h]
theorem mg1 {α : Type} {f : Int → α} {l : List Int} {i : Nat} (h : i < l.length) : (l.map f)[0 + i * 1]? = some (f (l.getD i 0)) := by
  rw [Nat.mul_one, Nat.zero_add]; exact mg h
theorem ms1 {α : Type} {f : Int → α} {l : List Int} {i : Nat} {x : Int} : (l.map f).set (0 + i * 1) (f x) = (l.set i x).map f := by
  rw [Nat.mul_one, Nat.zero_add, List.map_set]
theorem KH.get {h : Heap} (k : KH h) {i : Nat} (hi : i < 64) : rd h (Addr.add ⟨1, 0, none⟩ (i * 1)) = some (.int .u32 (shaK.getD i 0)) := by
  obtain ⟨e, fr, hk⟩ := k
  rw [add_mk, rd_of hk]
  exact mg1 (by rw [shaK_len]; exact hi)

def rotI (x : Int) (n : Nat) : Int := bitsV .or .u32 (Int.fdiv x (2 ^ n)) (IntKind.wrap .u32 (x * 2 ^ (32 - n)))
theorem wrapU64 {n : Int} (h1 : 0 ≤ n) (h2 : n < 18446744073709551616) : IntKind.wrap .u64 n = n := by
  simp only [IntKind.wrap, IntKind.signed, IntKind.bits]
  simp
  omega
theorem rot_ok {x : Int} {n : Int} (h0 : 0 ≤ n) (h1 : n ≤ 32) {h : Heap} : Spec Tryz.prog 414 [.int .u32 x, .int .u64 n] h (fun v h' => h' = h ∧ v = .int .u32 (rotI x n.toNat)) := by
  apply ok414
  unfold VC414
  rw [wrapU64 (n := 32 - n) (by omega) (by omega)]
  refine ⟨h0, by omega, rfl, ?_⟩
  have e1 : min n.toNat 32 = n.toNat := by omega
  have e2 : min (32 - n).toNat 32 = 32 - n.toNat := by omega
  rw [e1, e2]
  rfl

theorem rot_ok' {x n : Int} (m : Nat) (hn : n = m) (h1 : m ≤ 32) {h : Heap} : Spec Tryz.prog 414 [.int .u32 x, .int .u64 n] h (fun v h' => h' = h ∧ v = .int .u32 (rotI x m)) := by
  subst hn
  have := rot_ok (x := x) (n := (m : Int)) (h := h) (by omega) (by omega)
  rw [Int.toNat_natCast] at this
  exact this

def w16 (b : List Int) (i : Nat) : Int :=
  bitsV .or .u32 (bitsV .or .u32 (bitsV .or .u32 (IntKind.wrap .u32 (IntKind.wrap .u32 (b.getD (4 * i) 0) * 16777216)) (IntKind.wrap .u32 (IntKind.wrap .u32 (b.getD (4 * i + 1) 0) * 65536)))
    (IntKind.wrap .u32 (IntKind.wrap .u32 (b.getD (4 * i + 2) 0) * 256))) (IntKind.wrap .u32 (b.getD (4 * i + 3) 0))
def sprA (b : List Int) (n : Nat) : List Int := (List.range n).foldl (fun l i => l.set i (w16 b i)) (List.replicate 64 0)
def wnew (l : List Int) (i : Nat) : Int :=
  IntKind.wrap .u32 (IntKind.wrap .u32 (IntKind.wrap .u32 (l.getD (i - 16) 0 + bitsV .xor .u32 (bitsV .xor .u32 (rotI (l.getD (i - 15) 0) 7) (rotI (l.getD (i - 15) 0) 18)) (Int.fdiv (l.getD (i - 15) 0) 8)) + l.getD (i - 7) 0) +
    bitsV .xor .u32 (bitsV .xor .u32 (rotI (l.getD (i - 2) 0) 17) (rotI (l.getD (i - 2) 0) 19)) (Int.fdiv (l.getD (i - 2) 0) 1024))
def sprB (b : List Int) (n : Nat) : List Int := (List.range n).foldl (fun l i => l.set (16 + i) (wnew l (16 + i))) (sprA b 16)
def spr (b : List Int) : List Int := sprB b 48
theorem sprA_succ (b : List Int) (n : Nat) : sprA b (n + 1) = (sprA b n).set n (w16 b n) := by
  simp [sprA, List.range_succ]
theorem sprB_succ (b : List Int) (n : Nat) : sprB b (n + 1) = (sprB b n).set (16 + n) (wnew (sprB b n) (16 + n)) := by
  simp [sprB, List.range_succ]
theorem sprB_zero (b : List Int) : sprA b 16 = sprB b 0 := by simp [sprB]
theorem sprA_len (b : List Int) : ∀ n, (sprA b n).length = 64
  | 0 => by simp [sprA]
  | n + 1 => by rw [sprA_succ, List.length_set, sprA_len b n]
theorem sprB_len (b : List Int) : ∀ n, (sprB b n).length = 64
  | 0 => by simp [sprB, sprA_len]
  | n + 1 => by rw [sprB_succ, List.length_set, sprB_len b n]

theorem spread_ok {b : List Int} (hb : b.length = 64) {h : Heap} : Spec Tryz.prog 413 [.agg ⟨b.map fun x => .int .u8 x⟩] h (fun v h' => h' = h ∧ v = .agg ⟨(spr b).map fun x => .int .u32 x⟩) := by
  apply ok413
  unfold VC413
  refine ⟨fun n l h1 => (h1 = h ∧ 0 ≤ n ∧ n ≤ 16 ∧ l = sprA b n.toNat, 16 - n.toNat), ⟨List.replicate 64 0, rfl, rfl, by omega, by omega, rfl⟩, ?_⟩
  rintro n l h1 ⟨rfl, h0, h16, rfl⟩
  obtain ⟨i, rfl⟩ : ∃ i : Nat, n = i := ⟨n.toNat, by omega⟩
  rw [Int.toNat_natCast]
  refine ⟨fun hlt => ?_, fun hge => ?_⟩
  · have hi : i < 16 := by simp at hlt; omega
    have e0 : IntKind.wrap .i64 ((4 : Int) * (i : Int)) = ((4 * i : Nat) : Int) := by rw [wrap64 (by omega) (by omega)]; omega
    have e1 : IntKind.wrap .i64 (((4 * i : Nat) : Int) + 1) = ((4 * i + 1 : Nat) : Int) := by rw [wrap64 (by omega) (by omega)]; omega
    have e2 : IntKind.wrap .i64 (((4 * i : Nat) : Int) + 2) = ((4 * i + 2 : Nat) : Int) := by rw [wrap64 (by omega) (by omega)]; omega
    have e3 : IntKind.wrap .i64 (((4 * i : Nat) : Int) + 3) = ((4 * i + 3 : Nat) : Int) := by rw [wrap64 (by omega) (by omega)]; omega
    have e4 : IntKind.wrap .i64 ((i : Int) + 1) = ((i + 1 : Nat) : Int) := by rw [wrap64 (by omega) (by omega)]; omega
    rw [e0, e1, e2, e3, e4]
    simp only [Int.toNat_natCast]
    have hA := sprA_len b i
    refine ⟨⟨by omega, by omega⟩, _, mg1 (by omega), ⟨by omega, by omega⟩, _, mg1 (by omega), ⟨by omega, by omega⟩, _, mg1 (by omega), ⟨by omega, by omega⟩, _, mg1 (by omega), ⟨by omega, by omega⟩, by rw [List.length_map]; omega, _, ms1 (f := fun x => Value.int .u32 x), ?_, by omega⟩
    exact ⟨trivial, by omega, by omega, by rw [sprA_succ]; rfl⟩
  · have hi : i = 16 := by simp at hge; omega
    subst hi
    refine ⟨fun n l h2 => (h2 = h1 ∧ 16 ≤ n ∧ n ≤ 64 ∧ l = sprB b (n.toNat - 16), 64 - n.toNat), ⟨sprA b 16, rfl, rfl, by decide, by decide, sprB_zero b⟩, ?_⟩
    rintro n l h2 ⟨rfl, h0, h64, rfl⟩
    obtain ⟨i, rfl⟩ : ∃ i : Nat, n = (16 + i : Nat) := ⟨n.toNat - 16, by omega⟩
    rw [Int.toNat_natCast, show 16 + i - 16 = i by omega]
    have hB := sprB_len b i
    refine ⟨fun hlt => ?_, fun hge => ?_⟩
    · have hi : i < 48 := by simp at hlt; omega
      have e0 : IntKind.wrap .i64 (((16 + i : Nat) : Int) - 15) = ((16 + i - 15 : Nat) : Int) := by rw [wrap64 (by omega) (by omega)]; omega
      have e1 : IntKind.wrap .i64 (((16 + i : Nat) : Int) - 2) = ((16 + i - 2 : Nat) : Int) := by rw [wrap64 (by omega) (by omega)]; omega
      have e2 : IntKind.wrap .i64 (((16 + i : Nat) : Int) - 16) = ((16 + i - 16 : Nat) : Int) := by rw [wrap64 (by omega) (by omega)]; omega
      have e3 : IntKind.wrap .i64 (((16 + i : Nat) : Int) - 7) = ((16 + i - 7 : Nat) : Int) := by rw [wrap64 (by omega) (by omega)]; omega
      have e4 : IntKind.wrap .i64 (((16 + i : Nat) : Int) + 1) = ((16 + (i + 1) : Nat) : Int) := by rw [wrap64 (by omega) (by omega)]; omega
      rw [e0, e1, e2, e3, e4]
      simp only [Int.toNat_natCast]
      refine ⟨⟨by omega, by omega⟩, _, mg1 (by omega), ⟨by omega, by omega⟩, _, mg1 (by omega), ⟨by omega, by omega⟩, _, mg1 (by omega), ⟨by omega, by omega⟩, _, mg1 (by omega), ?_⟩
      refine (rot_ok (by omega) (by omega)).mono ?_
      rintro v h3 ⟨rfl, rfl⟩
      refine ⟨_, rfl, (by first | rfl | trivial | exact fun _ => trivial), (by first | rfl | trivial | exact fun _ => trivial), (rot_ok (by omega) (by omega)).mono ?_⟩
      rintro v h3 ⟨rfl, rfl⟩
      refine ⟨_, rfl, (by first | rfl | trivial | exact fun _ => trivial), (by first | rfl | trivial | exact fun _ => trivial), (rot_ok (by omega) (by omega)).mono ?_⟩
      rintro v h3 ⟨rfl, rfl⟩
      refine ⟨_, rfl, (by first | rfl | trivial | exact fun _ => trivial), (by first | rfl | trivial | exact fun _ => trivial), (rot_ok (by omega) (by omega)).mono ?_⟩
      rintro v h3 ⟨rfl, rfl⟩
      refine ⟨_, rfl, (by first | rfl | trivial | exact fun _ => trivial), (by first | rfl | trivial | exact fun _ => trivial), ⟨by omega, by omega⟩, by rw [List.length_map]; omega, _, ms1 (f := fun x => Value.int .u32 x), ?_, by omega⟩
      exact ⟨(by first | rfl | trivial | exact fun _ => trivial), by omega, by omega, by rw [show 16 + (i + 1) - 16 = i + 1 by omega, sprB_succ]; rfl⟩
    · have hi : i = 48 := by simp at hge; omega
      subst hi
      refine ⟨by rw [List.length_map, hB], ⟨by rw [List.length_map, hB], by rw [List.length_map, hB]⟩, by rw [List.length_map, hB], rfl, rfl⟩
end Go.Vw
