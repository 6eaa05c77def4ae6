/-
  What the functions of 'node' come to: a node out of bytes. Conditions of functions, printed by a tool of mine (vcs.py). Tries in memory: knots; what 'trie.tied', 'leaf', 'branch', 'joined' come to. Tries in memory: 'trie.tied', 'leaf', 'branch', 'joined'.
-/
import Derived.Test.YtomcnpeeelhpcaaGreatDoorPae
import Derived.Test.YtomcnpeeelhpcaaGreatDoorVwBase0
namespace Go.Vw
open Go Go.Proofs

theorem take_len (r : RdS) (n : Nat) : (r.take n).1.1.length ≤ n := by
  unfold RdS.take; split <;> simp; omega
theorem Bytes_len (r : RdS) (n : Nat) : (r.Bytes n).1.length ≤ n := by
  unfold RdS.Bytes
  split
  · simp
  · have := take_len r n
    rcases hr : r.take n with ⟨⟨l, b⟩, r1⟩
    rw [hr] at this
    cases b <;> exact this
theorem text_len (r : RdS) (most : Nat) : (r.text most).1.1.length ≤ most := by
  unfold RdS.text
  rcases r.number with ⟨⟨n, c⟩, r1⟩
  dsimp only
  split
  · simp
  · split
    · simp
    · rename_i hm
      have := take_len r1 n.toNat
      rcases hr : r1.take n.toNat with ⟨⟨l, b⟩, r2⟩
      rw [hr] at this
      dsimp only at this
      cases b
      · simp
      · dsimp only; omega
theorem Text_len (r : RdS) (most : Nat) : (r.Text most).1.length ≤ most := by
  unfold RdS.Text
  have := text_len r most
  rcases hr : r.text most with ⟨⟨l, c⟩, r1⟩
  rw [hr] at this
  dsimp only at this ⊢
  split
  · simp
  · exact this
theorem kidsR_len {bits : Nat} : ∀ (l : List Nat) (r : RdS), ∀ s ∈ (kidsR bits l r).1, s.length ≤ 32
  | [], r, s, hs => by cases hs
  | i :: l, r, s, hs => by
    by_cases h : bitAt bits (15 - i) = true
    · rw [kidsR_pos h] at hs
      rcases List.mem_cons.1 hs with rfl | hs
      · exact Bytes_len r 32
      · exact kidsR_len l _ s hs
    · rw [kidsR_neg h] at hs
      rcases List.mem_cons.1 hs with rfl | hs
      · simp
      · exact kidsR_len l _ s hs
theorem empties_len : empties.length = 16 := rfl
theorem empties_mem {s : Bs} (h : s ∈ empties) : s = [] := (List.mem_replicate.1 h).2
theorem unp_len (s : Bs) : (unp s).1.length ≤ 2 * s.length := by
  unfold unp
  split
  · simp
  · rename_i b r
    have := nib_len r
    split
    · simp
    · dsimp only
      split <;> simp only [List.length_cons] <;> omega
theorem branchR_ok {r : RdS} (ho : r.ok) : NodeOk (branchR r).1 ∧ (branchR r).2.ok ∧ (branchR r).1.Kind = 3 := by
  unfold branchR
  have hb := Bytes_good ho 2
  split
  · rename_i b0 b1 t r1 hr
    rw [hr] at hb
    have hk := kidsR_good (bits := b0.toNat * 256 + b1.toNat) (List.range 16) r1 hb.1
    have hkl := kidsR_len (bits := b0.toNat * 256 + b1.toNat) (List.range 16) r1
    have ht := Text_good hk.1 32
    have htl := Text_len (kidsR (b0.toNat * 256 + b1.toNat) (List.range 16) r1).2 32
    refine ⟨⟨?_, by simp, ?_, ?_⟩, ht.1, rfl⟩
    · exact hk.2.2.1
    · exact Nat.le_trans htl (by decide)
    · intro s hs
      exact Nat.le_trans (hkl s hs) (by decide)
  · rename_i x r1 _ hr
    rw [hr] at hb
    refine ⟨⟨rfl, by simp, by simp, fun s hs => ?_⟩, hb.1, rfl⟩
    rw [empties_mem hs]; simp
theorem otherR_ok {kind : Int} {r : RdS} (ho : r.ok) : NodeOk (otherR kind r).1.1 ∧ (otherR kind r).2.ok ∧ (otherR kind r).1.1.Kind = kind := by
  unfold otherR
  have h1 := Text_good ho 16
  have h1l := Text_len r 16
  have hu := unp_len (r.Text 16).1
  rcases hr : r.Text 16 with ⟨s, r1⟩
  rw [hr] at h1
  rw [show ((16 : Nat) : Int) = 16 from rfl, hr] at h1l
  rw [hr] at hu
  dsimp only at h1 h1l hu ⊢
  split
  · have h2 := Text_good h1.1 32
    have h2l := Text_len r1 32
    refine ⟨⟨rfl, ?_, ?_, fun s hs => ?_⟩, h2.1, rfl⟩
    · dsimp only; omega
    · exact Nat.le_trans h2l (by decide)
    · rw [empties_mem hs]; simp
  · have h2 := Bytes_good h1.1 32
    have h2l := Bytes_len r1 32
    refine ⟨⟨rfl, ?_, by simp, fun s hs => ?_⟩, h2.1, rfl⟩
    · dsimp only; omega
    · rcases List.mem_cons.1 hs with rfl | hs
      · exact Nat.le_trans h2l (by decide)
      · rw [(List.mem_replicate.1 hs).2]; simp

theorem other_ok {h : Heap} {a b : Nat} {e e' : TypeId} {r : RdS} {kind : Int} (hab : a ≠ b) (ha : h a = some (rdO e r)) (hb : h b = some (nodeO e' ⟨kind, [], [], empties⟩)) (ho : r.ok) :
    Spec Tryz.prog 385 [.pointer (some ⟨a, 0, none⟩), .pointer (some ⟨b, 0, none⟩)] h (fun v h' => h' = (h.set a (rdO e (otherR kind r).2)).set b (nodeO e' (otherR kind r).1.1) ∧ v = .bool (otherR kind r).1.2) := by
  apply ok385
  unfold VC385
  refine (rText_ok ha ho 16).mono ?_
  rintro v h1 ⟨rfl, rfl⟩
  have h1 := Text_good ho 16
  have h1l := Text_len r 16
  unfold otherR
  rcases hr : r.Text 16 with ⟨s, r1⟩
  rw [hr] at h1
  rw [show ((16 : Nat) : Int) = 16 from rfl, hr] at h1l
  dsimp only at h1 h1l ⊢
  refine ⟨s, rfl, (unpack_ok (by omega)).mono ?_⟩
  rintro v h2 ⟨rfl, rfl⟩
  rcases hu : unp s with ⟨p, leaf, c⟩
  dsimp only
  have hb1 : (h.set a (rdO e r1)) b = some (nodeO e' ⟨kind, [], [], empties⟩) := by rw [Heap.set_other _ _ (fun e => hab e.symm)]; exact hb
  have hb2 : ((h.set a (rdO e r1)).set b (nodeO e' ⟨kind, p, [], empties⟩)) b = some (nodeO e' ⟨kind, p, [], empties⟩) := Heap.set_same _ _ _
  have ha2 : ((h.set a (rdO e r1)).set b (nodeO e' ⟨kind, p, [], empties⟩)) a = some (rdO e r1) := by rw [Heap.set_other _ _ hab, Heap.set_same]
  refine ⟨p, leaf, c, rfl, _, rfl, _, nodeO_wpath hb1 p, _, rfl, kind, by rw [add_zero']; exact nodeO_kind hb2, fun J hJ => ?_⟩
  have done : ∀ (n : GApiNode) (r2 : RdS), n.Kind = kind → (∀ Q : Value → Heap → Prop, True) → (∀ (b1 : Bool), b1 = (c == 0 && (leaf == (kind == 1))) →
      (n, b1, r2) = (if kind = 1 then (⟨kind, p, (r1.Text 32).1, empties⟩, c == 0 && leaf, (r1.Text 32).2) else (⟨kind, p, [], (r1.Bytes 32).1 :: List.replicate 15 []⟩, c == 0 && !leaf, (r1.Bytes 32).2) : GApiNode × Bool × RdS)) →
      J ((h.set a (rdO e r2)).set b (nodeO e' n)) := by
    intro n r2 hnk _ heq
    refine hJ _ fun J1 hJ1 => ?_
    have hbn : ((h.set a (rdO e r2)).set b (nodeO e' n)) b = some (nodeO e' n) := Heap.set_same _ _ _
    have fin : ∀ b1, b1 = (c == 0 && (leaf == (kind == 1))) → J1 b1 ((h.set a (rdO e r2)).set b (nodeO e' n)) := by
      intro b1 hb1
      refine hJ1 _ _ ?_
      have := heq b1 hb1
      by_cases hk : kind = 1
      · rw [if_pos hk] at this
        rw [if_pos hk]
        injection this with t1 t2
        injection t2 with t2 t3
        rw [← t1, ← t2, ← t3]
        exact ⟨rfl, rfl⟩
      · rw [if_neg hk] at this
        rw [if_neg hk]
        injection this with t1 t2
        injection t2 with t2 t3
        rw [← t1, ← t2, ← t3]
        exact ⟨rfl, rfl⟩
    refine ⟨fun hc => ⟨_, rfl, n.Kind, by rw [add_zero']; exact nodeO_kind hbn, fin _ ?_⟩, fun hc => fin _ ?_⟩
    · rw [hc, hnk]; rfl
    · rw [hc]; rfl
  refine ⟨fun hk => ?_, fun hk => ?_⟩
  · have hk : kind = 1 := by simpa using hk
    refine (rText_ok ha2 h1.1 32).mono ?_
    rintro v h3 ⟨rfl, rfl⟩
    rw [set_comm (fun e => hab e.symm), Heap.set_set]
    refine ⟨_, rfl, _, rfl, _, nodeO_wval (Heap.set_same _ _ _) _, ?_⟩
    rw [Heap.set_set]
    refine done _ _ rfl (fun _ => trivial) fun b1 hb1 => ?_
    rw [if_pos hk, hb1]
    subst hk
    cases leaf <;> rfl
  · have hk : ¬ kind = 1 := by simpa using hk
    have hkb : (kind == 1) = false := by simpa using hk
    refine ⟨_, rfl, (rBytes_ok (n := 32) ha2 h1.1 (by decide)).mono ?_⟩
    rintro v h3 ⟨rfl, rfl⟩
    rw [set_comm (fun e => hab e.symm), Heap.set_set]
    refine ⟨_, rfl, ⟨by decide, by decide⟩, _, nodeO_wkid (i := 0) (Heap.set_same _ _ _) (show 0 < empties.length by decide) _, ?_⟩
    rw [Heap.set_set]
    refine done _ _ rfl (fun _ => trivial) fun b1 hb1 => ?_
    rw [if_neg hk, hb1, hkb]
    cases leaf <;> rfl

theorem decode_ok {s : Bs} (hs : s.length ≤ 1099511627776) {h : Heap} : Spec Tryz.prog 322 [S s] h (fun v h' => h' = h ∧ v = .tuple ⟨[.agg ⟨cGApiNode (decN s).1⟩, .int .i64 (decN s).2]⟩) := by
  apply Spec.forget
  apply ok322
  unfold VC322
  refine read_ok.mono ?_
  rintro v h1 ⟨a, hna, rfl, rfl⟩
  have ho : (RdS.mk s 0 0).ok := ⟨hs, Nat.zero_le _⟩
  refine ⟨_, rfl, (rBytes_ok (n := 1) (Heap.set_same _ _ _) ho (by decide)).mono ?_⟩
  rintro v h2 ⟨rfl, rfl⟩
  rw [Heap.set_set]
  have hg := Bytes_good ho 1
  rcases hr : (RdS.mk s 0 0).Bytes 1 with ⟨l, r1⟩
  rw [hr] at hg
  dsimp only at hg ⊢
  refine ⟨l, rfl, fun J hJ => ?_⟩
  have hsplit : ∀ kind : Int, kind = kindOf l → J ⟨kind, [], [], empties⟩ (h.set a (rdO 368 r1)) := by
    intro kind hkind
    refine hJ _ _ fun b hnb J1 hJ1 => ?_
    have hab : a ≠ b := by
      rintro rfl
      rw [Heap.set_same] at hnb; cases hnb
    have hnb0 : h b = none := by rwa [Heap.set_other _ _ (fun e => hab e.symm)] at hnb
    have ha1 : ((h.set a (rdO 368 r1)).set b (nodeO 161 ⟨kind, [], [], empties⟩)) a = some (rdO 368 r1) := by rw [Heap.set_other _ _ hab, Heap.set_same]
    have fin : ∀ (n : GApiNode) (fine : Bool) (r2 : RdS), r2.ok → NodeOk n →
        decN s = (if r2.End.1 = 0 ∧ fine = true ∧ checkN n = true then (n, 0) else (zeroN, 80)) → J1 fine (((h.set a (rdO 368 r1)).set a (rdO 368 r2)).set b (nodeO 161 n)) := by
      intro n fine r2 ho2 hn hd
      rw [Heap.set_set]
      refine hJ1 _ _ fun J2 hJ2 => ?_
      have hend : Heap.le h (((h.set a (rdO 368 r2.End.2)).set b (nodeO 161 n))) := Heap.le_over (Heap.le_set _ hna) hnb0 _
      have ha2 : ((h.set a (rdO 368 r2)).set b (nodeO 161 n)) a = some (rdO 368 r2) := by rw [Heap.set_other _ _ hab, Heap.set_same]
      have hbad : ¬ (r2.End.1 = 0 ∧ fine = true ∧ checkN n = true) → J2 true ((h.set a (rdO 368 r2.End.2)).set b (nodeO 161 n)) := by
        intro hnot
        rw [if_neg hnot] at hd
        exact hJ2 _ _ ⟨fun _ => ⟨⟨rfl, rfl⟩, rfl, hend, by rw [hd]; rfl⟩, fun hh => by cases hh⟩
      refine (end_ok ha2 ho2).mono ?_
      rintro v h3 ⟨rfl, rfl⟩
      rw [set_comm (fun e => hab e.symm), Heap.set_set]
      refine ⟨_, rfl, fun hc => ⟨fun hf => ⟨n, rdn_all (Heap.set_same _ _ _) (node_len hn.1).symm, (check_ok hn).mono ?_⟩, fun hf => hbad ?_⟩, fun hc => hbad ?_⟩
      · rintro v h4 ⟨rfl, rfl⟩
        refine ⟨_, rfl, ?_⟩
        cases hcn : checkN n with
        | true =>
          have hc : r2.End.1 = 0 := by simpa [bne] using hc
          have hf : fine = true := by simpa using hf
          rw [if_pos ⟨hc, hf, hcn⟩] at hd
          refine hJ2 _ _ ⟨fun hh => by simp at hh, fun _ => ⟨n, rdn_all (Heap.set_same _ _ _) (node_len hn.1).symm, ⟨node_len hn.1, node_len hn.1⟩, node_len hn.1, hend, by rw [hd]⟩⟩
        | false => exact hbad (by simp [hcn])
      · have hf : fine = false := by simpa using hf
        simp [hf]
      · intro hh
        rw [hh.1] at hc
        simp at hc
    refine ⟨fun hk => ?_, fun hk => ?_⟩
    · have hk : kind = 3 := by simpa using hk
      subst hk
      refine (branch_ok hab ha1 (Heap.set_same _ _ _) hg.1).mono ?_
      rintro v h3 ⟨rfl, rfl⟩
      rw [set_comm (fun e => hab e.symm), Heap.set_set]
      have hbr := branchR_ok hg.1
      refine ⟨rfl, fin _ _ _ hbr.2.1 hbr.1 ?_⟩
      unfold decN
      rw [hr]
      dsimp only
      rw [← hkind, if_pos rfl]
    · have hk : ¬ kind = 3 := by simpa using hk
      refine (other_ok hab ha1 (Heap.set_same _ _ _) hg.1).mono ?_
      rintro v h3 ⟨rfl, rfl⟩
      rw [set_comm (fun e => hab e.symm), Heap.set_set]
      have hbr := otherR_ok (kind := kind) hg.1
      refine ⟨_, rfl, fin _ _ _ hbr.2.1 hbr.1 ?_⟩
      unfold decN
      rw [hr]
      dsimp only
      rw [← hkind, if_neg hk]
  refine ⟨fun hne => ?_, fun he => ?_⟩
  · cases l with
    | nil => simp at hne
    | cons x t =>
      have hx := x.toNat_lt
      refine ⟨x, by decide, rfl, ⟨x.toNat, [], [], empties⟩, ?_, hsplit _ rfl⟩
      rw [wrap64 (by omega) (by omega)]
      rfl
  · have he : l = [] := by simpa using he
    subst he
    exact ⟨⟨0, [], [], empties⟩, rfl, hsplit _ rfl⟩
end Go.Vw
namespace Go.Vw
open Go Go.Proofs

/- pharos/trie.tied -/
def an255 : An := (.nd none [] [] .leaf (.nd none [] [] .leaf (.nd none [] [] (.nd none [] [] .leaf (.nd none [] [] (.nd none [.slot 13 (.int .i64), .loc 2 (.st GTrieKnot cGTrieKnot 3)] [] (.nd none [] [] .leaf (.nd none [] [] .leaf (.nd none [] [] (.nd (some [.loc 2 (.st GTrieKnot cGTrieKnot 3)]) [] [] (.nd none [] [] .leaf (.nd none [] [] .leaf (.nd (some [.loc 2 (.st GTrieKnot cGTrieKnot 3)]) [] [] (.nd none [] [] (.nd none [] [0, 1, 2, 3, 4, 5, 6, 7, 8, 9, 10] .leaf .leaf) (.nd none [] [0, 1, 2, 3, 4, 5, 6, 7, 8, 9, 10, 11] .leaf .leaf)) .leaf))) .leaf) .leaf))) .leaf) .leaf)) (.nd none [] [] (.nd none [] [] .leaf (.nd (some [.loc 2 (.st GTrieKnot cGTrieKnot 3)]) [] [] .leaf .leaf)) .leaf))))
def VC255 (n : GApiNode) (kids : List (Option Addr)) (h : Heap) (Q : Value → Heap → Prop) : Prop :=
 (((List.length (cGApiNode n)) = (19 : Nat)) ∧
 (((List.length (List.map (fun (p : (Option Addr)) => (Value.pointer p)) kids)) = (16 : Nat)) ∧
 (((List.length (cGApiNode n)) = (19 : Nat)) ∧
 (((List.length (List.map (fun (p1 : (Option Addr)) => (Value.pointer p1)) kids)) = (16 : Nat)) ∧
  (((List.length (List.map (fun (p2 : (Option Addr)) => (Value.pointer p2)) kids)) = (16 : Nat)) ∧
  (∃ k : (Int → (GTrieKnot → (Heap → (Prod Prop Nat)))),
  ((∃ gt : GTrieKnot,
   ((((cGApiNode n) ++ ((List.map (fun (p3 : (Option Addr)) => (Value.pointer p3)) kids) ++ [(S []), (S []), (Value.int IntKind.i64 (0 : Int))])) = (cGTrieKnot gt)) ∧
   ((k (0 : Int) gt h)).fst)) ∧
  (∀ n1 : Int,
   (∀ gt1 : GTrieKnot,
   (∀ h1 : Heap,
   (((k n1 gt1 h1)).fst →
   ((((decide (n1 < (16 : Int))) = Bool.true) →
    (∀ J : (GTrieKnot → (Heap → Prop)),
    (((∀ gt2 : GTrieKnot,
     (∀ h2 : Heap,
     ((∃ gt3 : GTrieKnot, (((cGTrieKnot gt2) = (cGTrieKnot gt3)) ∧ (((k (IntKind.wrap IntKind.i64 (n1 + (1 : Int))) gt3 h2)).fst ∧ (((k (IntKind.wrap IntKind.i64 (n1 + (1 : Int))) gt3 h2)).snd < ((k n1 gt1 h1)).snd)))) →
     (J gt2 h2))))) →
    ((((0 : Int) ≤ n1) ∧
     (n1 < (16 : Int))) ∧
     (∃ p4 : (Option Addr),
     ((((List.map (fun (p5 : (Option Addr)) => (Value.pointer p5)) kids))[((Int.toNat n1) * (1 : Nat))]? = (Option.some (Value.pointer p4))) ∧
     (∀ J1 : (GTrieKnot → (Heap → Prop)),
     (((∀ gt4 : GTrieKnot,
      (∀ h3 : Heap,
      ((∃ gt5 : GTrieKnot, (((cGTrieKnot gt4) = (cGTrieKnot gt5)) ∧ (J gt5 h3))) →
      (J1 gt4 h3))))) →
      ((((!(Option.isNone p4)) = Bool.true) →
      (∃ ad : Addr,
      ((p4 = (Option.some ad)) ∧
       (∃ l : (List UInt8),
       (((rd h1 (Addr.mk (ad).block ((ad).off + 36) Option.none)) = (Option.some (S l))) ∧
       ((((0 : Int) ≤ n1) ∧
        (n1 < (16 : Int))) ∧
       (((3 + ((Int.toNat n1) * (1 : Nat))) < (List.length (cGTrieKnot gt1))) ∧
        (∃ n2 : Int,
        ((((List.set (cGTrieKnot gt1) (3 + ((Int.toNat n1) * (1 : Nat))) (S l)))[37]? = (Option.some (Value.int IntKind.i64 n2))) ∧
        (∃ ad1 : Addr,
        ((p4 = (Option.some ad1)) ∧
         (∃ n3 : Int,
         (((rd h1 (Addr.mk (ad1).block ((ad1).off + 37) Option.none)) = (Option.some (Value.int IntKind.i64 n3))) ∧
         ((37 < (List.length (List.set (cGTrieKnot gt1) (3 + ((Int.toNat n1) * (1 : Nat))) (S l)))) ∧
         (∃ gt6 : GTrieKnot,
         (((List.set (List.set (cGTrieKnot gt1) (3 + ((Int.toNat n1) * (1 : Nat))) (S l)) 37 (Value.int IntKind.i64 (IntKind.wrap IntKind.i64 (n2 + n3)))) = (cGTrieKnot gt6)) ∧
         (J1 gt6 h1))))))))))))))))) ∧
      (((!(Option.isNone p4)) = Bool.false) →
      (∃ gt7 : GTrieKnot,
      (((cGTrieKnot gt1) = (cGTrieKnot gt7)) ∧
       (J1 gt7 h1))))))))))))) ∧
    (((decide (n1 < (16 : Int))) = Bool.false) →
    (∀ J2 : (GTrieKnot → (Heap → Prop)),
    (((∀ gt8 : GTrieKnot,
     (∀ h4 : Heap,
     ((∃ ga : GApiNode, (((sub (cGTrieKnot gt8) 0 (19 : Nat)) = (Option.some (cGApiNode ga))) ∧ (Spec Tryz.prog 323 [(Value.agg ⟨(cGApiNode ga)⟩)] h4 (fun (va : Value) => (fun (he : Heap) => (∃ l1 : (List UInt8), (∃ n4 : Int, ((va = (Value.tuple ⟨[(S l1), (Value.int IntKind.i64 n4)]⟩)) ∧ ((35 < (List.length (cGTrieKnot gt8))) ∧ (∃ ga1 : GApiNode, (((sub (List.set (cGTrieKnot gt8) 35 (S l1)) 0 (19 : Nat)) = (Option.some (cGApiNode ga1))) ∧ (Spec Tryz.prog 324 [(Value.agg ⟨(cGApiNode ga1)⟩)] he (fun (va1 : Value) => (fun (he1 : Heap) => (∃ l2 : (List UInt8), ((va1 = (S l2)) ∧ ((36 < (List.length (List.set (cGTrieKnot gt8) 35 (S l1)))) ∧ (∀ b : Nat, (((he1 b) = Option.none) → (Q (Value.pointer (Option.some (Addr.mk b 0 Option.none))) (Heap.set he1 b (Obj.cells ⟨(List.set (List.set (cGTrieKnot gt8) 35 (S l1)) 36 (S l2))⟩ 164 (Prod.mk 0 0))))))))))))))))))))))) →
     (J2 gt8 h4))))) →
    ((((!((n).Value == [])) = Bool.true) →
     (∃ n5 : Int,
     ((((cGTrieKnot gt1))[37]? = (Option.some (Value.int IntKind.i64 n5))) ∧
     ((37 < (List.length (cGTrieKnot gt1))) ∧
      (∃ gt9 : GTrieKnot,
      (((List.set (cGTrieKnot gt1) 37 (Value.int IntKind.i64 (IntKind.wrap IntKind.i64 (n5 + (1 : Int))))) = (cGTrieKnot gt9)) ∧
      (J2 gt9 h1))))))) ∧
     (((!((n).Value == [])) = Bool.false) →
     (∃ gt10 : GTrieKnot,
     (((cGTrieKnot gt1) = (cGTrieKnot gt10)) ∧
     (J2 gt10 h1))))))))))))))))))))
theorem vc255 (n : GApiNode) (kids : List (Option Addr)) (h : Heap) (Q : Value → Heap → Prop) : evF Tryz.prog τ tok 255 an255 [.agg ⟨cGApiNode n⟩, .agg ⟨(fun l => l.map (fun (x : Option Addr) => (.pointer x : Value))) kids⟩] h Q = VC255 n kids h Q := by kernel_rfl
theorem ok255 {n : GApiNode} {kids : List (Option Addr)} {h : Heap} {Q : Value → Heap → Prop} (hv : VC255 n kids h Q) : Spec Tryz.prog 255 [.agg ⟨cGApiNode n⟩, .agg ⟨(fun l => l.map (fun (x : Option Addr) => (.pointer x : Value))) kids⟩] h Q := evF_sound (P := Tryz.prog) (τ := τ) (ok := tok) (an := an255) (fun _ => drawn mixed) (by rw [vc255]; exact hv)

/- pharos/trie.leaf -/
def an249 : An := .leaf
def VC249 (path : List UInt8) (value : List UInt8) (h : Heap) (Q : Value → Heap → Prop) : Prop :=
 (((List.replicate 16 (Value.pointer Option.none)) = (List.replicate 16 (Value.pointer Option.none))) ∧
 (Spec Tryz.prog 255 [(Value.agg ⟨[(Value.int IntKind.i64 (1 : Int)), (S path), (S value), (S []), (S []), (S []), (S []), (S []), (S []), (S []), (S []), (S []), (S []), (S []), (S []), (S []), (S []), (S []), (S [])]⟩), (Value.agg ⟨(List.replicate 16 (Value.pointer Option.none))⟩)] h (fun v h1 =>
 (∃ p : (Option Addr),
 ((v = (Value.pointer p)) ∧
  (Q (Value.pointer p) h1))))))
theorem vc249 (path : List UInt8) (value : List UInt8) (h : Heap) (Q : Value → Heap → Prop) : evF Tryz.prog τ tok 249 an249 [S path, S value] h Q = VC249 path value h Q := by kernel_rfl
theorem ok249 {path : List UInt8} {value : List UInt8} {h : Heap} {Q : Value → Heap → Prop} (hv : VC249 path value h Q) : Spec Tryz.prog 249 [S path, S value] h Q := evF_sound (P := Tryz.prog) (τ := τ) (ok := tok) (an := an249) (fun _ => drawn mixed) (by rw [vc249]; exact hv)

/- pharos/trie.joined -/
def an248 : An := (.nd none [] [] .leaf (.nd none [] [] (.nd (some [.slot 0 .str, .slot 1 .ptr]) [] [] (.nd none [] [] .leaf (.nd (some [.slot 0 .str, .slot 1 .ptr]) [] [] .leaf (.nd none [] [] .leaf (.nd (some [.slot 0 .str, .slot 1 .ptr]) [] [] (.nd none [] [] (.nd none [] [0, 1, 2, 3, 4, 5, 6, 7, 8, 9, 10, 11, 12, 13] .leaf .leaf) .leaf) (.nd none [] [] .leaf (.nd (some [.slot 0 .str, .slot 1 .ptr]) [] [] (.nd none [] [0, 1, 2, 3, 4, 5, 6, 7, 8, 9, 10, 11, 12, 13] .leaf .leaf) .leaf)))))) .leaf) .leaf))
def VC248 (path : List UInt8) (k : Option Addr) (h : Heap) (Q : Value → Heap → Prop) : Prop :=
 (∀ J : ((List UInt8) → ((Option Addr) → (Heap → Prop))),
 (((∀ l : (List UInt8),
 (∀ p : (Option Addr),
  (∀ h1 : Heap,
  (((((List.replicate 16 (Value.pointer Option.none)) = (List.replicate 16 (Value.pointer Option.none))) ∧
  (Spec Tryz.prog 255 [(Value.agg ⟨[(Value.int IntKind.i64 (2 : Int)), (S l), (S []), (S []), (S []), (S []), (S []), (S []), (S []), (S []), (S []), (S []), (S []), (S []), (S []), (S []), (S []), (S []), (S [])]⟩), (Value.agg ⟨[(Value.pointer p), (Value.pointer Option.none), (Value.pointer Option.none), (Value.pointer Option.none), (Value.pointer Option.none), (Value.pointer Option.none), (Value.pointer Option.none), (Value.pointer Option.none), (Value.pointer Option.none), (Value.pointer Option.none), (Value.pointer Option.none), (Value.pointer Option.none), (Value.pointer Option.none), (Value.pointer Option.none), (Value.pointer Option.none), (Value.pointer Option.none)]⟩)] h1 (fun v h2 =>
   (∃ p1 : (Option Addr),
   ((v = (Value.pointer p1)) ∧
   (Q (Value.pointer p1) h2))))))) →
  (J l p h1)))))) →
 (∀ J1 : ((List UInt8) → ((Option Addr) → (Heap → Prop))),
 (((∀ l1 : (List UInt8),
  (∀ p2 : (Option Addr),
  (∀ h3 : Heap,
  ((J l1 p2 h3) →
   (J1 l1 p2 h3)))))) →
  ((((path == []) = Bool.true) →
  (Q (Value.pointer k) h)) ∧
  (((path == []) = Bool.false) →
  (∃ ad : Addr,
  ((k = (Option.some ad)) ∧
   (∃ n : Int,
   (((rd h (Addr.add (Addr.add ad 0) 0)) = (Option.some (Value.int IntKind.i64 n))) ∧
   (∀ J2 : ((List UInt8) → ((Option Addr) → (Heap → Prop))),
   (((∀ l2 : (List UInt8),
    (∀ p3 : (Option Addr),
    (∀ h4 : Heap,
    ((J1 l2 p3 h4) →
     (J2 l2 p3 h4)))))) →
    ((((n == (1 : Int)) = Bool.true) →
    (∃ ad1 : Addr,
    ((k = (Option.some ad1)) ∧
     (∃ l3 : (List UInt8),
     (((rd h (Addr.mk ((Addr.add ad1 0)).block (((Addr.add ad1 0)).off + 1) Option.none)) = (Option.some (S l3))) ∧
     ((((List.length path) + (List.length l3)) ≤ 9223372036854775807) ∧
     (∃ ad2 : Addr,
      ((k = (Option.some ad2)) ∧
      (∃ l4 : (List UInt8),
      (((rd h (Addr.mk ((Addr.add ad2 0)).block (((Addr.add ad2 0)).off + 2) Option.none)) = (Option.some (S l4))) ∧
      (Spec Tryz.prog 249 [(S (path ++ l3)), (S l4)] h (fun v1 h5 =>
       (∃ p4 : (Option Addr),
       ((v1 = (Value.pointer p4)) ∧
       (Q (Value.pointer p4) h5))))))))))))))) ∧
    (((n == (1 : Int)) = Bool.false) →
    (∃ ad3 : Addr,
    ((k = (Option.some ad3)) ∧
     (∃ n1 : Int,
     (((rd h (Addr.add (Addr.add ad3 0) 0)) = (Option.some (Value.int IntKind.i64 n1))) ∧
     (∀ J3 : ((List UInt8) → ((Option Addr) → (Heap → Prop))),
     (((∀ l5 : (List UInt8),
      (∀ p5 : (Option Addr),
      (∀ h6 : Heap,
      ((J2 l5 p5 h6) →
       (J3 l5 p5 h6)))))) →
      ((((n1 == (2 : Int)) = Bool.true) →
      (∃ ad4 : Addr,
      ((k = (Option.some ad4)) ∧
       (∃ l6 : (List UInt8),
       (((rd h (Addr.mk ((Addr.add ad4 0)).block (((Addr.add ad4 0)).off + 1) Option.none)) = (Option.some (S l6))) ∧
       ((((List.length path) + (List.length l6)) ≤ 9223372036854775807) ∧
       (∃ ad5 : Addr,
        ((k = (Option.some ad5)) ∧
        ((((0 : Int) ≤ (0 : Int)) ∧
        ((0 : Int) < (16 : Int))) ∧
        (∃ p6 : (Option Addr),
        (((rd h (Addr.mk (ad5).block ((ad5).off + 19) Option.none)) = (Option.some (Value.pointer p6))) ∧
         (J3 (path ++ l6) p6 h)))))))))))) ∧
      (((n1 == (2 : Int)) = Bool.false) →
      (J3 path k h)))))))))))))))))))))))
theorem vc248 (path : List UInt8) (k : Option Addr) (h : Heap) (Q : Value → Heap → Prop) : evF Tryz.prog τ tok 248 an248 [S path, .pointer k] h Q = VC248 path k h Q := by kernel_rfl
theorem ok248 {path : List UInt8} {k : Option Addr} {h : Heap} {Q : Value → Heap → Prop} (hv : VC248 path k h Q) : Spec Tryz.prog 248 [S path, .pointer k] h Q := evF_sound (P := Tryz.prog) (τ := τ) (ok := tok) (an := an248) (fun _ => drawn mixed) (by rw [vc248]; exact hv)

/- pharos/trie.branch -/
def an250 : An := .leaf
def VC250 (value : List UInt8) (kids : List (Option Addr)) (h : Heap) (Q : Value → Heap → Prop) : Prop :=
 (((List.length (List.map (fun (p : (Option Addr)) => (Value.pointer p)) kids)) = (16 : Nat)) ∧
 (Spec Tryz.prog 255 [(Value.agg ⟨[(Value.int IntKind.i64 (3 : Int)), (S []), (S value), (S []), (S []), (S []), (S []), (S []), (S []), (S []), (S []), (S []), (S []), (S []), (S []), (S []), (S []), (S []), (S [])]⟩), (Value.agg ⟨(List.map (fun (p1 : (Option Addr)) => (Value.pointer p1)) kids)⟩)] h (fun v h1 =>
 (∃ p2 : (Option Addr),
 ((v = (Value.pointer p2)) ∧
  (Q (Value.pointer p2) h1))))))
theorem vc250 (value : List UInt8) (kids : List (Option Addr)) (h : Heap) (Q : Value → Heap → Prop) : evF Tryz.prog τ tok 250 an250 [S value, .agg ⟨(fun l => l.map (fun (x : Option Addr) => (.pointer x : Value))) kids⟩] h Q = VC250 value kids h Q := by kernel_rfl
theorem ok250 {value : List UInt8} {kids : List (Option Addr)} {h : Heap} {Q : Value → Heap → Prop} (hv : VC250 value kids h Q) : Spec Tryz.prog 250 [S value, .agg ⟨(fun l => l.map (fun (x : Option Addr) => (.pointer x : Value))) kids⟩] h Q := evF_sound (P := Tryz.prog) (τ := τ) (ok := tok) (an := an250) (fun _ => drawn mixed) (by rw [vc250]; exact hv)

/- (*pharos/trie.knot).get -/
def an170 : An := (.nd none [] [] .leaf (.nd none [] [] (.nd none [] [] (.nd none [.slot 0 .ptr, .slot 1 .str] [] (.nd none [] [] .leaf (.nd (some [.slot 0 .ptr, .slot 1 .str]) [] [] (.nd none [] [] .leaf (.nd none [] [] .leaf (.nd none [] [] .leaf (.nd none [] [] .leaf (.nd none [] [] (.nd none [] [0, 1, 2, 3, 4, 5, 6, 7] .leaf .leaf) .leaf))))) .leaf)) .leaf) .leaf) .leaf))
def VC170 (k : Option Addr) (path : List UInt8) (h : Heap) (Q : Value → Heap → Prop) : Prop :=
 (∃ k1 : ((Option Addr) → ((List UInt8) → (Heap → (Prod Prop Nat)))),
 (((k1 k path h)).fst ∧
 (∀ p : (Option Addr),
 (∀ l : (List UInt8),
  (∀ h1 : Heap,
  (((k1 p l h1)).fst →
  ((((!(Option.isNone p)) = Bool.true) →
   (∀ J : ((Option Addr) → ((List UInt8) → (Heap → Prop))),
   (((∀ p1 : (Option Addr),
   (∀ l1 : (List UInt8),
    (∀ h2 : Heap,
    (((((k1 p1 l1 h2)).fst ∧
    (((k1 p1 l1 h2)).snd < ((k1 p l h1)).snd))) →
    (J p1 l1 h2)))))) →
   (∃ ad : Addr,
   ((p = (Option.some ad)) ∧
    (∃ l2 : (List UInt8),
    (((rd h1 (Addr.mk ((Addr.add ad 0)).block (((Addr.add ad 0)).off + 1) Option.none)) = (Option.some (S l2))) ∧
    (Spec Tryz.prog 251 [(S l2), (S l)] h1 (fun v h3 =>
    (∃ n : Int,
     ((v = (Value.int IntKind.i64 n)) ∧
     (∃ ad1 : Addr,
     ((p = (Option.some ad1)) ∧
     (∃ l3 : (List UInt8),
      (((rd h3 (Addr.mk ((Addr.add ad1 0)).block (((Addr.add ad1 0)).off + 1) Option.none)) = (Option.some (S l3))) ∧
      ((((decide (n < (((List.length l3) : Nat) : Int))) = Bool.true) →
      (Q (S []) h3)) ∧
      (((decide (n < (((List.length l3) : Nat) : Int))) = Bool.false) →
      (((0 : Int) ≤ n) ∧
       ((((Int.toNat n) ≤ (List.length l)) ∧
       ((List.length l) ≤ (List.length l))) ∧
       (∃ ad2 : Addr,
       ((p = (Option.some ad2)) ∧
       (∃ n1 : Int,
        (((rd h3 (Addr.add (Addr.add ad2 0) 0)) = (Option.some (Value.int IntKind.i64 n1))) ∧
        ((((n1 == (2 : Int)) = Bool.true) →
        (∃ ad3 : Addr,
         ((p = (Option.some ad3)) ∧
         ((((0 : Int) ≤ (0 : Int)) ∧
         ((0 : Int) < (16 : Int))) ∧
         (∃ p2 : (Option Addr),
         (((rd h3 (Addr.mk (ad3).block ((ad3).off + 19) Option.none)) = (Option.some (Value.pointer p2))) ∧
         (J p2 (List.drop (Int.toNat n) (List.take (List.length l) l)) h3))))))) ∧
        (((n1 == (2 : Int)) = Bool.false) →
        (((((List.drop (Int.toNat n) (List.take (List.length l) l)) == []) = Bool.true) →
         (∃ ad4 : Addr,
         ((p = (Option.some ad4)) ∧
         (∃ l4 : (List UInt8),
         (((rd h3 (Addr.mk ((Addr.add ad4 0)).block (((Addr.add ad4 0)).off + 2) Option.none)) = (Option.some (S l4))) ∧
         (Q (S l4) h3)))))) ∧
         ((((List.drop (Int.toNat n) (List.take (List.length l) l)) == []) = Bool.false) →
         (∃ ui : UInt8,
         (((0 : Int) ≤ (0 : Int)) ∧
         ((((List.drop (Int.toNat n) (List.take (List.length l) l)))[0]? = (Option.some ui)) ∧
         (∃ ad5 : Addr,
         ((p = (Option.some ad5)) ∧
         ((((0 : Int) ≤ (((UInt8.toNat ui) : Nat) : Int)) ∧
         ((((UInt8.toNat ui) : Nat) : Int) < (16 : Int))) ∧
         (∃ p3 : (Option Addr),
         (((rd h3 (Addr.add (Addr.mk (ad5).block ((ad5).off + 19) Option.none) ((Int.toNat (((UInt8.toNat ui) : Nat) : Int)) * (1 : Nat)))) = (Option.some (Value.pointer p3))) ∧
         (((0 : Int) ≤ (1 : Int)) ∧
         (((1 ≤ (List.length (List.drop (Int.toNat n) (List.take (List.length l) l)))) ∧
         ((List.length (List.drop (Int.toNat n) (List.take (List.length l) l))) ≤ (List.length (List.drop (Int.toNat n) (List.take (List.length l) l))))) ∧
         (J p3 (List.drop 1 (List.take (List.length (List.drop (Int.toNat n) (List.take (List.length l) l))) (List.drop (Int.toNat n) (List.take (List.length l) l)))) h3)))))))))))))))))))))))))))))))))))))) ∧
  (((!(Option.isNone p)) = Bool.false) →
   (Q (S []) h1)))))))))
theorem vc170 (k : Option Addr) (path : List UInt8) (h : Heap) (Q : Value → Heap → Prop) : evF Tryz.prog τ tok 170 an170 [.pointer k, S path] h Q = VC170 k path h Q := by kernel_rfl
theorem ok170 {k : Option Addr} {path : List UInt8} {h : Heap} {Q : Value → Heap → Prop} (hv : VC170 k path h Q) : Spec Tryz.prog 170 [.pointer k, S path] h Q := evF_sound (P := Tryz.prog) (τ := τ) (ok := tok) (an := an170) (fun _ => drawn mixed) (by rw [vc170]; exact hv)

/- (*pharos/trie.knot).put -/
def an171 : An := (.nd none [] [] .leaf (.nd none [] [] .leaf (.nd none [] [] .leaf (.nd none [] [] .leaf (.nd none [] [] (.nd none [] [] (.nd none [] [] (.nd (some [.slot 30 .bool]) [] [] .leaf .leaf) (.nd none [] [] .leaf (.nd none [] [] .leaf (.nd none [] [] (.nd none [] [] .leaf (.nd none [] [] (.nd none [] [0, 1, 2, 3, 4, 5, 6, 7, 8, 9, 10, 11] .leaf .leaf) (.nd none [] [] (.nd none [] [0, 1, 2, 3, 4, 5, 6, 7] .leaf .leaf) .leaf))) (.nd none [] [] (.nd (some [.slot 76 .bool]) [] [] .leaf .leaf) (.nd none [] [] (.nd none [] [] (.nd none [] [0, 1, 2, 3, 4, 5, 6, 7, 8, 9, 10, 11, 12, 13, 14, 15, 16] .leaf .leaf) .leaf) (.nd none [] [] (.nd (some [.slot 102 .bool]) [] [] .leaf .leaf) .leaf))))))) .leaf) (.nd none [] [] (.nd none [] [0, 1, 2, 3, 4, 5, 6, 7, 8, 9, 10, 11] .leaf .leaf) .leaf))))))
def VC171 (k : Option Addr) (path : List UInt8) (value : List UInt8) (h : Heap) (Q : Value → Heap → Prop) : Prop :=
 ((((Option.isNone k) = Bool.true) →
 (Spec Tryz.prog 249 [(S path), (S value)] h (fun v h1 =>
 (∃ p : (Option Addr),
  ((v = (Value.pointer p)) ∧
  (Q (Value.pointer p) h1)))))) ∧
 (((Option.isNone k) = Bool.false) →
 (∃ ad : Addr,
 ((k = (Option.some ad)) ∧
  (∃ l : (List UInt8),
  (((rd h (Addr.mk ((Addr.add ad 0)).block (((Addr.add ad 0)).off + 1) Option.none)) = (Option.some (S l))) ∧
  (Spec Tryz.prog 251 [(S l), (S path)] h (fun v1 h2 =>
  (∃ n : Int,
   ((v1 = (Value.int IntKind.i64 n)) ∧
   (∃ ad1 : Addr,
   ((k = (Option.some ad1)) ∧
   (∃ l1 : (List UInt8),
    (((rd h2 (Addr.mk ((Addr.add ad1 0)).block (((Addr.add ad1 0)).off + 1) Option.none)) = (Option.some (S l1))) ∧
    (∀ J : (Bool → (Heap → Prop)),
    (((∀ b : Bool,
     (∀ h3 : Heap,
     (((((b = Bool.true) →
      (∃ ad2 : Addr,
      ((k = (Option.some ad2)) ∧
      (∃ l2 : (List (Option Addr)),
      (((rdn h3 (Addr.mk (ad2).block ((ad2).off + 19) Option.none) (16 : Nat)) = (Option.some (List.map (fun (p1 : (Option Addr)) => (Value.pointer p1)) l2))) ∧
       (Spec Tryz.prog 250 [(S value), (Value.agg ⟨(List.map (fun (p2 : (Option Addr)) => (Value.pointer p2)) l2)⟩)] h3 (fun v2 h4 =>
       (∃ p3 : (Option Addr),
       ((v2 = (Value.pointer p3)) ∧
       (Q (Value.pointer p3) h4)))))))))) ∧
     ((b = Bool.false) →
      (∃ ad3 : Addr,
      ((k = (Option.some ad3)) ∧
      (∃ n1 : Int,
      (((rd h3 (Addr.add (Addr.add ad3 0) 0)) = (Option.some (Value.int IntKind.i64 n1))) ∧
       ((((n1 == (3 : Int)) = Bool.true) →
       (∃ ad4 : Addr,
       ((k = (Option.some ad4)) ∧
        (∃ l3 : (List (Option Addr)),
        (((rdn h3 (Addr.mk (ad4).block ((ad4).off + 19) Option.none) (16 : Nat)) = (Option.some (List.map (fun (p4 : (Option Addr)) => (Value.pointer p4)) l3))) ∧
        ((((List.length (List.map (fun (p5 : (Option Addr)) => (Value.pointer p5)) l3)) = (16 : Nat)) ∧
         ((List.length (List.map (fun (p6 : (Option Addr)) => (Value.pointer p6)) l3)) = 16)) ∧
        (∃ ui : UInt8,
         (((0 : Int) ≤ (0 : Int)) ∧
         (((path)[0]? = (Option.some ui)) ∧
         (∃ ui1 : UInt8,
         (((0 : Int) ≤ (0 : Int)) ∧
         (((path)[0]? = (Option.some ui1)) ∧
         ((((0 : Int) ≤ (((UInt8.toNat ui1) : Nat) : Int)) ∧
         ((((UInt8.toNat ui1) : Nat) : Int) < (16 : Int))) ∧
         (∃ p7 : (Option Addr),
         ((((List.map (fun (p8 : (Option Addr)) => (Value.pointer p8)) l3))[(0 + ((Int.toNat (((UInt8.toNat ui1) : Nat) : Int)) * (1 : Nat)))]? = (Option.some (Value.pointer p7))) ∧
         (((0 : Int) ≤ (1 : Int)) ∧
         (((1 ≤ (List.length path)) ∧
         ((List.length path) ≤ (List.length path))) ∧
         (Spec Tryz.prog 171 [(Value.pointer p7), (S (List.drop 1 (List.take (List.length path) path))), (S value)] h3 (fun v3 h5 =>
         (∃ p9 : (Option Addr),
         ((v3 = (Value.pointer p9)) ∧
         ((((0 : Int) ≤ (((UInt8.toNat ui) : Nat) : Int)) ∧
         ((((UInt8.toNat ui) : Nat) : Int) < (16 : Int))) ∧
         (((0 + ((Int.toNat (((UInt8.toNat ui) : Nat) : Int)) * (1 : Nat))) < (List.length (List.map (fun (p10 : (Option Addr)) => (Value.pointer p10)) l3))) ∧
         (∃ ad5 : Addr,
         ((k = (Option.some ad5)) ∧
         (∃ l4 : (List UInt8),
         (((rd h5 (Addr.mk ((Addr.add ad5 0)).block (((Addr.add ad5 0)).off + 2) Option.none)) = (Option.some (S l4))) ∧
         (((List.length (List.set (List.map (fun (p11 : (Option Addr)) => (Value.pointer p11)) l3) (0 + ((Int.toNat (((UInt8.toNat ui) : Nat) : Int)) * (1 : Nat))) (Value.pointer p9))) = (16 : Nat)) ∧
         (Spec Tryz.prog 250 [(S l4), (Value.agg ⟨(List.set (List.map (fun (p12 : (Option Addr)) => (Value.pointer p12)) l3) (0 + ((Int.toNat (((UInt8.toNat ui) : Nat) : Int)) * (1 : Nat))) (Value.pointer p9))⟩)] h5 (fun v4 h6 =>
         (∃ p13 : (Option Addr),
         ((v4 = (Value.pointer p13)) ∧
         (Q (Value.pointer p13) h6))))))))))))))))))))))))))))))))) ∧
       (((n1 == (3 : Int)) = Bool.false) →
       (∀ J1 : (Bool → (Heap → Prop)),
       (((∀ b1 : Bool,
        (∀ h7 : Heap,
        (((((b1 = Bool.true) →
         (∃ ad6 : Addr,
         ((k = (Option.some ad6)) ∧
         (∃ l5 : (List UInt8),
         (((rd h7 (Addr.mk ((Addr.add ad6 0)).block (((Addr.add ad6 0)).off + 1) Option.none)) = (Option.some (S l5))) ∧
         (∃ ad7 : Addr,
         ((k = (Option.some ad7)) ∧
         ((((0 : Int) ≤ (0 : Int)) ∧
         ((0 : Int) < (16 : Int))) ∧
         (∃ p14 : (Option Addr),
         (((rd h7 (Addr.mk (ad7).block ((ad7).off + 19) Option.none)) = (Option.some (Value.pointer p14))) ∧
         (((0 : Int) ≤ n) ∧
         ((((Int.toNat n) ≤ (List.length path)) ∧
         ((List.length path) ≤ (List.length path))) ∧
         (Spec Tryz.prog 171 [(Value.pointer p14), (S (List.drop (Int.toNat n) (List.take (List.length path) path))), (S value)] h7 (fun v5 h8 =>
         (∃ p15 : (Option Addr),
         ((v5 = (Value.pointer p15)) ∧
         (((rd h8 (Addr.mk ((Addr.add ad6 0)).block (((Addr.add ad6 0)).off + 1) Option.none)) = (rd h7 (Addr.mk ((Addr.add ad6 0)).block (((Addr.add ad6 0)).off + 1) Option.none))) ∧
         (Spec Tryz.prog 248 [(S l5), (Value.pointer p15)] h8 (fun v6 h9 =>
         (∃ p16 : (Option Addr),
         ((v6 = (Value.pointer p16)) ∧
         (Q (Value.pointer p16) h9)))))))))))))))))))))) ∧
         ((b1 = Bool.false) →
         (∀ J2 : (Bool → (Heap → Prop)),
         (((∀ b2 : Bool,
         (∀ h10 : Heap,
         (((((b2 = Bool.true) →
         (Spec Tryz.prog 249 [(S path), (S value)] h10 (fun v7 h11 =>
         (∃ p17 : (Option Addr),
         ((v7 = (Value.pointer p17)) ∧
         (Q (Value.pointer p17) h11)))))) ∧
         ((b2 = Bool.false) →
         (((0 : Int) ≤ n) ∧
         (((0 ≤ (Int.toNat n)) ∧
         ((Int.toNat n) ≤ (List.length path))) ∧
         (((0 : Int) ≤ n) ∧
         ((((Int.toNat n) ≤ (List.length path)) ∧
         ((List.length path) ≤ (List.length path))) ∧
         (Spec Tryz.prog 252 [(Value.pointer k), (Value.int IntKind.i64 n), (S (List.drop (Int.toNat n) (List.take (List.length path) path))), (S value)] h10 (fun v8 h12 =>
         (∃ p18 : (Option Addr),
         ((v8 = (Value.pointer p18)) ∧
         (Spec Tryz.prog 248 [(S (List.drop 0 (List.take (Int.toNat n) path))), (Value.pointer p18)] h12 (fun v9 h13 =>
         (∃ p19 : (Option Addr),
         ((v9 = (Value.pointer p19)) ∧
         (Q (Value.pointer p19) h13)))))))))))))))) →
         (J2 b2 h10))))) →
         ((((n == (((List.length l1) : Nat) : Int)) = Bool.true) →
         (J2 (n == (((List.length path) : Nat) : Int)) h7)) ∧
         (((n == (((List.length l1) : Nat) : Int)) = Bool.false) →
         (J2 Bool.false h7)))))))) →
        (J1 b1 h7))))) →
        ((((n == (((List.length l1) : Nat) : Int)) = Bool.true) →
        (∃ ad8 : Addr,
        ((k = (Option.some ad8)) ∧
         (∃ n2 : Int,
         (((rd h3 (Addr.add (Addr.add ad8 0) 0)) = (Option.some (Value.int IntKind.i64 n2))) ∧
         (J1 (n2 == (2 : Int)) h3)))))) ∧
        (((n == (((List.length l1) : Nat) : Int)) = Bool.false) →
        (J1 Bool.false h3)))))))))))))) →
     (J b h3))))) →
    (∃ ad9 : Addr,
     ((k = (Option.some ad9)) ∧
     (∃ n3 : Int,
     (((rd h2 (Addr.add (Addr.add ad9 0) 0)) = (Option.some (Value.int IntKind.i64 n3))) ∧
     ((((n3 == (3 : Int)) = Bool.true) →
      (J (path == []) h2)) ∧
      (((n3 == (3 : Int)) = Bool.false) →
      (J Bool.false h2)))))))))))))))))))))))
theorem vc171 (k : Option Addr) (path : List UInt8) (value : List UInt8) (h : Heap) (Q : Value → Heap → Prop) : evF Tryz.prog τ tok 171 an171 [.pointer k, S path, S value] h Q = VC171 k path value h Q := by kernel_rfl
theorem ok171 {k : Option Addr} {path : List UInt8} {value : List UInt8} {h : Heap} {Q : Value → Heap → Prop} (hv : VC171 k path value h Q) : Spec Tryz.prog 171 [.pointer k, S path, S value] h Q := evF_sound (P := Tryz.prog) (τ := τ) (ok := tok) (an := an171) (fun _ => drawn mixed) (by rw [vc171]; exact hv)

/- (*pharos/trie.knot).parted -/
def an252 : An := (.nd none [] [] .leaf (.nd none [] [] .leaf (.nd none [] [] .leaf (.nd none [] [] .leaf (.nd none [] [] (.nd (some [.slot 10 .str, .loc 0 (.st (List (Option Addr)) ((fun l => l.map (fun (x : Option Addr) => (.pointer x : Value)))) 0)]) [] [] (.nd none [] [] .leaf (.nd (some [.slot 10 .str, .loc 0 (.st (List (Option Addr)) ((fun l => l.map (fun (x : Option Addr) => (.pointer x : Value)))) 0)]) [] [] .leaf (.nd none [] [] .leaf (.nd (some [.loc 0 (.st (List (Option Addr)) ((fun l => l.map (fun (x : Option Addr) => (.pointer x : Value)))) 0)]) [] [] (.nd none [] [0, 1, 2, 3, 4, 5, 6, 7, 8, 9, 10, 11] .leaf .leaf) (.nd none [] [0, 1, 2, 3, 4, 5, 6, 7, 8, 9, 10, 11] .leaf .leaf))))) .leaf) (.nd none [] [] (.nd none [] [] .leaf (.nd (some [.slot 10 .str, .loc 0 (.st (List (Option Addr)) ((fun l => l.map (fun (x : Option Addr) => (.pointer x : Value)))) 0)]) [] [] .leaf (.nd none [] [0, 1, 2, 3, 4, 5, 6, 7] .leaf .leaf))) .leaf))))))
def VC252 (k : Option Addr) (c : Int) (path : List UInt8) (value : List UInt8) (h : Heap) (Q : Value → Heap → Prop) : Prop :=
 (∃ ad : Addr,
 ((k = (Option.some ad)) ∧
 (∃ l : (List UInt8),
 (((rd h (Addr.mk ((Addr.add ad 0)).block (((Addr.add ad 0)).off + 1) Option.none)) = (Option.some (S l))) ∧
  (((0 : Int) ≤ c) ∧
  ((((Int.toNat c) ≤ (List.length l)) ∧
  ((List.length l) ≤ (List.length l))) ∧
  (∀ J : ((List UInt8) → ((List (Option Addr)) → (Heap → Prop))),
  (((∀ l1 : (List UInt8),
   (∀ l2 : (List (Option Addr)),
   (∀ h1 : Heap,
   (((∀ J1 : ((List UInt8) → ((List (Option Addr)) → (Heap → Prop))),
    (((∀ l3 : (List UInt8),
    (∀ l4 : (List (Option Addr)),
     (∀ h2 : Heap,
     (((((List.length (List.map (fun (p : (Option Addr)) => (Value.pointer p)) l4)) = (16 : Nat)) ∧
     (Spec Tryz.prog 250 [(S l3), (Value.agg ⟨(List.map (fun (p1 : (Option Addr)) => (Value.pointer p1)) l4)⟩)] h2 (fun v h3 =>
      (∃ p2 : (Option Addr),
      ((v = (Value.pointer p2)) ∧
      (Q (Value.pointer p2) h3))))))) →
     (J1 l3 l4 h2)))))) →
    ((((path == []) = Bool.true) →
     (∃ l5 : (List (Option Addr)),
     (((List.map (fun (p3 : (Option Addr)) => (Value.pointer p3)) l2) = (List.map (fun (p4 : (Option Addr)) => (Value.pointer p4)) l5)) ∧
     (J1 value l5 h1)))) ∧
    (((path == []) = Bool.false) →
     (∃ ui : UInt8,
     (((0 : Int) ≤ (0 : Int)) ∧
     (((path)[0]? = (Option.some ui)) ∧
     (((0 : Int) ≤ (1 : Int)) ∧
      (((1 ≤ (List.length path)) ∧
      ((List.length path) ≤ (List.length path))) ∧
      (Spec Tryz.prog 249 [(S (List.drop 1 (List.take (List.length path) path))), (S value)] h1 (fun v1 h4 =>
      (∃ p5 : (Option Addr),
      ((v1 = (Value.pointer p5)) ∧
       ((((0 : Int) ≤ (((UInt8.toNat ui) : Nat) : Int)) ∧
       ((((UInt8.toNat ui) : Nat) : Int) < (16 : Int))) ∧
       (((0 + ((Int.toNat (((UInt8.toNat ui) : Nat) : Int)) * (1 : Nat))) < (List.length (List.map (fun (p6 : (Option Addr)) => (Value.pointer p6)) l2))) ∧
       (∃ l6 : (List (Option Addr)),
       (((List.set (List.map (fun (p7 : (Option Addr)) => (Value.pointer p7)) l2) (0 + ((Int.toNat (((UInt8.toNat ui) : Nat) : Int)) * (1 : Nat))) (Value.pointer p5)) = (List.map (fun (p8 : (Option Addr)) => (Value.pointer p8)) l6)) ∧
        (J1 l1 l6 h4))))))))))))))))))) →
    (J l1 l2 h1)))))) →
   (∀ J2 : ((List UInt8) → ((List (Option Addr)) → (Heap → Prop))),
   (((∀ l7 : (List UInt8),
   (∀ l8 : (List (Option Addr)),
    (∀ h5 : Heap,
    ((∃ l9 : (List (Option Addr)), (((List.map (fun (p9 : (Option Addr)) => (Value.pointer p9)) l8) = (List.map (fun (p10 : (Option Addr)) => (Value.pointer p10)) l9)) ∧ (J l7 l9 h5))) →
    (J2 l7 l8 h5)))))) →
   (((((List.drop (Int.toNat c) (List.take (List.length l) l)) == []) = Bool.true) →
    (∃ ad1 : Addr,
    ((k = (Option.some ad1)) ∧
    (∃ l10 : (List UInt8),
    (((rd h (Addr.mk ((Addr.add ad1 0)).block (((Addr.add ad1 0)).off + 2) Option.none)) = (Option.some (S l10))) ∧
     (∃ l11 : (List (Option Addr)),
     (((List.replicate 16 (Value.pointer Option.none)) = (List.map (fun (p11 : (Option Addr)) => (Value.pointer p11)) l11)) ∧
     (J2 l10 l11 h)))))))) ∧
   ((((List.drop (Int.toNat c) (List.take (List.length l) l)) == []) = Bool.false) →
    (∃ ad2 : Addr,
    ((k = (Option.some ad2)) ∧
    (∃ n : Int,
    (((rd h (Addr.add (Addr.add ad2 0) 0)) = (Option.some (Value.int IntKind.i64 n))) ∧
     (∀ J3 : ((List (Option Addr)) → (Heap → Prop)),
     (((∀ l12 : (List (Option Addr)),
     (∀ h6 : Heap,
      ((∃ l13 : (List (Option Addr)), (((List.map (fun (p12 : (Option Addr)) => (Value.pointer p12)) l12) = (List.map (fun (p13 : (Option Addr)) => (Value.pointer p13)) l13)) ∧ (J2 [] l13 h6))) →
      (J3 l12 h6))))) →
     ((((n == (1 : Int)) = Bool.true) →
      (∃ ui1 : UInt8,
      (((0 : Int) ≤ (0 : Int)) ∧
      ((((List.drop (Int.toNat c) (List.take (List.length l) l)))[0]? = (Option.some ui1)) ∧
      (((0 : Int) ≤ (1 : Int)) ∧
       (((1 ≤ (List.length (List.drop (Int.toNat c) (List.take (List.length l) l)))) ∧
       ((List.length (List.drop (Int.toNat c) (List.take (List.length l) l))) ≤ (List.length (List.drop (Int.toNat c) (List.take (List.length l) l))))) ∧
       (∃ ad3 : Addr,
       ((k = (Option.some ad3)) ∧
       (∃ l14 : (List UInt8),
        (((rd h (Addr.mk ((Addr.add ad3 0)).block (((Addr.add ad3 0)).off + 2) Option.none)) = (Option.some (S l14))) ∧
        (Spec Tryz.prog 249 [(S (List.drop 1 (List.take (List.length (List.drop (Int.toNat c) (List.take (List.length l) l))) (List.drop (Int.toNat c) (List.take (List.length l) l))))), (S l14)] h (fun v2 h7 =>
        (∃ p14 : (Option Addr),
        ((v2 = (Value.pointer p14)) ∧
         ((((0 : Int) ≤ (((UInt8.toNat ui1) : Nat) : Int)) ∧
         ((((UInt8.toNat ui1) : Nat) : Int) < (16 : Int))) ∧
         (((0 + ((Int.toNat (((UInt8.toNat ui1) : Nat) : Int)) * (1 : Nat))) < 16) ∧
         (∃ l15 : (List (Option Addr)),
         (((List.set (List.replicate 16 (Value.pointer Option.none)) (0 + ((Int.toNat (((UInt8.toNat ui1) : Nat) : Int)) * (1 : Nat))) (Value.pointer p14)) = (List.map (fun (p15 : (Option Addr)) => (Value.pointer p15)) l15)) ∧
         (J3 l15 h7))))))))))))))))))) ∧
     (((n == (1 : Int)) = Bool.false) →
      (∃ ui2 : UInt8,
      (((0 : Int) ≤ (0 : Int)) ∧
      ((((List.drop (Int.toNat c) (List.take (List.length l) l)))[0]? = (Option.some ui2)) ∧
      (((0 : Int) ≤ (1 : Int)) ∧
       (((1 ≤ (List.length (List.drop (Int.toNat c) (List.take (List.length l) l)))) ∧
       ((List.length (List.drop (Int.toNat c) (List.take (List.length l) l))) ≤ (List.length (List.drop (Int.toNat c) (List.take (List.length l) l))))) ∧
       (∃ ad4 : Addr,
       ((k = (Option.some ad4)) ∧
       ((((0 : Int) ≤ (0 : Int)) ∧
        ((0 : Int) < (16 : Int))) ∧
        (∃ p16 : (Option Addr),
        (((rd h (Addr.mk (ad4).block ((ad4).off + 19) Option.none)) = (Option.some (Value.pointer p16))) ∧
        (Spec Tryz.prog 248 [(S (List.drop 1 (List.take (List.length (List.drop (Int.toNat c) (List.take (List.length l) l))) (List.drop (Int.toNat c) (List.take (List.length l) l))))), (Value.pointer p16)] h (fun v3 h8 =>
        (∃ p17 : (Option Addr),
         ((v3 = (Value.pointer p17)) ∧
         ((((0 : Int) ≤ (((UInt8.toNat ui2) : Nat) : Int)) ∧
         ((((UInt8.toNat ui2) : Nat) : Int) < (16 : Int))) ∧
         (((0 + ((Int.toNat (((UInt8.toNat ui2) : Nat) : Int)) * (1 : Nat))) < 16) ∧
         (∃ l16 : (List (Option Addr)),
         (((List.set (List.replicate 16 (Value.pointer Option.none)) (0 + ((Int.toNat (((UInt8.toNat ui2) : Nat) : Int)) * (1 : Nat))) (Value.pointer p17)) = (List.map (fun (p18 : (Option Addr)) => (Value.pointer p18)) l16)) ∧
         (J3 l16 h8)))))))))))))))))))))))))))))))))))))))
theorem vc252 (k : Option Addr) (c : Int) (path : List UInt8) (value : List UInt8) (h : Heap) (Q : Value → Heap → Prop) : evF Tryz.prog τ tok 252 an252 [.pointer k, .int .i64 c, S path, S value] h Q = VC252 k c path value h Q := by kernel_rfl
theorem ok252 {k : Option Addr} {c : Int} {path : List UInt8} {value : List UInt8} {h : Heap} {Q : Value → Heap → Prop} (hv : VC252 k c path value h Q) : Spec Tryz.prog 252 [.pointer k, .int .i64 c, S path, S value] h Q := evF_sound (P := Tryz.prog) (τ := τ) (ok := tok) (an := an252) (fun _ => drawn mixed) (by rw [vc252]; exact hv)

/- (*pharos/trie.knot).del -/
def an166 : An := (.nd none [] [] .leaf (.nd none [] [] (.nd none [] [] (.nd none [] [] .leaf (.nd none [] [] .leaf (.nd none [] [] .leaf (.nd none [] [] (.nd none [] [] (.nd none [] [0, 1, 2, 3, 4, 5, 6, 7, 8, 9, 10, 11, 12, 13, 14, 15, 16, 17, 18, 19, 20] .leaf .leaf) .leaf) .leaf)))) .leaf) (.nd none [] [] (.nd none [] [0, 1, 2, 3, 4, 5, 6, 7, 8, 9, 10, 11] .leaf .leaf) (.nd none [] [] (.nd none [] [] .leaf (.nd (some [.slot 5 .str, .loc 0 (.st (List (Option Addr)) ((fun l => l.map (fun (x : Option Addr) => (.pointer x : Value)))) 0)]) [] [] .leaf (.nd none [] [0, 1, 2, 3, 4, 5, 6, 7, 8, 9, 10] .leaf .leaf))) (.nd none [] [] .leaf (.nd none [] [] (.nd none [] [] .leaf (.nd none [] [] (.nd none [.slot 7 (.int .i64), .slot 8 (.int .i64), .slot 67 (.int .i64)] [] (.nd none [] [] .leaf (.nd none [] [] .leaf (.nd none [] [] (.nd (some [.slot 7 (.int .i64), .slot 8 (.int .i64)]) [] [] (.nd none [] [] .leaf (.nd none [] [] .leaf (.nd (some [.slot 7 (.int .i64), .slot 8 (.int .i64)]) [] [] .leaf .leaf))) .leaf) .leaf))) .leaf) .leaf)) (.nd none [] [] (.nd none [] [] (.nd none [] [] .leaf (.nd none [] [] .leaf (.nd none [] [] (.nd (some [.slot 82 .bool]) [] [] .leaf .leaf) (.nd none [] [] (.nd none [] [] (.nd none [] [0, 1, 4, 5, 6, 2, 3, 7, 8] .leaf .leaf) .leaf) .leaf)))) .leaf) .leaf)))))))
def VC166 (k : Option Addr) (path : List UInt8) (h : Heap) (Q : Value → Heap → Prop) : Prop :=
 (∃ ad : Addr,
 ((k = (Option.some ad)) ∧
 (∃ n : Int,
 (((rd h (Addr.add (Addr.add ad 0) 0)) = (Option.some (Value.int IntKind.i64 n))) ∧
  ((((n == (1 : Int)) = Bool.true) →
  (Q (Value.pointer Option.none) h)) ∧
  (((n == (1 : Int)) = Bool.false) →
  (∃ ad1 : Addr,
  ((k = (Option.some ad1)) ∧
   (∃ n1 : Int,
   (((rd h (Addr.add (Addr.add ad1 0) 0)) = (Option.some (Value.int IntKind.i64 n1))) ∧
   ((((n1 == (2 : Int)) = Bool.true) →
    (∃ ad2 : Addr,
    ((k = (Option.some ad2)) ∧
    (∃ l : (List UInt8),
    (((rd h (Addr.mk ((Addr.add ad2 0)).block (((Addr.add ad2 0)).off + 1) Option.none)) = (Option.some (S l))) ∧
     (∃ ad3 : Addr,
     ((k = (Option.some ad3)) ∧
     ((((0 : Int) ≤ (0 : Int)) ∧
      ((0 : Int) < (16 : Int))) ∧
     (∃ p : (Option Addr),
      (((rd h (Addr.mk (ad3).block ((ad3).off + 19) Option.none)) = (Option.some (Value.pointer p))) ∧
      (∃ ad4 : Addr,
      ((k = (Option.some ad4)) ∧
      (∃ l1 : (List UInt8),
       (((rd h (Addr.mk ((Addr.add ad4 0)).block (((Addr.add ad4 0)).off + 1) Option.none)) = (Option.some (S l1))) ∧
       (((0 : Int) ≤ (((List.length l1) : Nat) : Int)) ∧
       ((((Int.toNat (((List.length l1) : Nat) : Int)) ≤ (List.length path)) ∧
        ((List.length path) ≤ (List.length path))) ∧
       (Spec Tryz.prog 166 [(Value.pointer p), (S (List.drop (Int.toNat (((List.length l1) : Nat) : Int)) (List.take (List.length path) path)))] h (fun v h1 =>
        (∃ p1 : (Option Addr),
        ((v = (Value.pointer p1)) ∧
        (((rd h1 (Addr.mk ((Addr.add ad2 0)).block (((Addr.add ad2 0)).off + 1) Option.none)) = (rd h (Addr.mk ((Addr.add ad2 0)).block (((Addr.add ad2 0)).off + 1) Option.none))) ∧
        (Spec Tryz.prog 248 [(S l), (Value.pointer p1)] h1 (fun v1 h2 =>
         (∃ p2 : (Option Addr),
         ((v1 = (Value.pointer p2)) ∧
         (Q (Value.pointer p2) h2)))))))))))))))))))))))))) ∧
   (((n1 == (2 : Int)) = Bool.false) →
    (∃ ad5 : Addr,
    ((k = (Option.some ad5)) ∧
    (∃ l2 : (List UInt8),
    (((rd h (Addr.mk ((Addr.add ad5 0)).block (((Addr.add ad5 0)).off + 2) Option.none)) = (Option.some (S l2))) ∧
     (∃ ad6 : Addr,
     ((k = (Option.some ad6)) ∧
     (∃ l3 : (List (Option Addr)),
     (((rdn h (Addr.mk (ad6).block ((ad6).off + 19) Option.none) (16 : Nat)) = (Option.some (List.map (fun (p3 : (Option Addr)) => (Value.pointer p3)) l3))) ∧
      (((Option.map (fun (l4 : (List Value)) => (Value.agg ⟨l4⟩)) (rdn h (Addr.mk (ad6).block ((ad6).off + 19) Option.none) (16 : Nat))) = (Option.map (fun (l5 : (List Value)) => (Value.agg ⟨l5⟩)) (rdn h (Addr.mk (ad6).block ((ad6).off + 19) Option.none) (16 : Nat)))) ∧
      (((rd h (Addr.mk ((Addr.add ad5 0)).block (((Addr.add ad5 0)).off + 2) Option.none)) = (rd h (Addr.mk ((Addr.add ad5 0)).block (((Addr.add ad5 0)).off + 2) Option.none))) ∧
      ((((List.length (List.map (fun (p4 : (Option Addr)) => (Value.pointer p4)) l3)) = (16 : Nat)) ∧
       ((List.length (List.map (fun (p5 : (Option Addr)) => (Value.pointer p5)) l3)) = 16)) ∧
      (∀ J : ((List UInt8) → ((List (Option Addr)) → (Heap → Prop))),
       (((∀ l6 : (List UInt8),
       (∀ l7 : (List (Option Addr)),
       (∀ h3 : Heap,
        (((((List.length (List.map (fun (p6 : (Option Addr)) => (Value.pointer p6)) l7)) = (16 : Nat)) ∧
        (∃ k1 : (Int → (Int → (Int → (Heap → (Prod Prop Nat))))),
        (((k1 (0 : Int) (0 : Int) (0 : Int) h3)).fst ∧
         (∀ n2 : Int,
         (∀ n3 : Int,
         (∀ n4 : Int,
         (∀ h4 : Heap,
         (((k1 n2 n3 n4 h4)).fst →
         ((((decide (n4 < (16 : Int))) = Bool.true) →
         (∀ J1 : (Int → (Int → (Heap → Prop))),
         (((∀ n5 : Int,
         (∀ n6 : Int,
         (∀ h5 : Heap,
         (((((k1 n5 n6 (IntKind.wrap IntKind.i64 (n4 + (1 : Int))) h5)).fst ∧
         (((k1 n5 n6 (IntKind.wrap IntKind.i64 (n4 + (1 : Int))) h5)).snd < ((k1 n2 n3 n4 h4)).snd))) →
         (J1 n5 n6 h5)))))) →
         ((((0 : Int) ≤ n4) ∧
         (n4 < (16 : Int))) ∧
         (∃ p7 : (Option Addr),
         ((((List.map (fun (p8 : (Option Addr)) => (Value.pointer p8)) l7))[((Int.toNat n4) * (1 : Nat))]? = (Option.some (Value.pointer p7))) ∧
         (∀ J2 : (Int → (Int → (Heap → Prop))),
         (((∀ n7 : Int,
         (∀ n8 : Int,
         (∀ h6 : Heap,
         ((J1 n7 n8 h6) →
         (J2 n7 n8 h6)))))) →
         ((((!(Option.isNone p7)) = Bool.true) →
         (J2 (IntKind.wrap IntKind.i64 (n2 + (1 : Int))) n4 h4)) ∧
         (((!(Option.isNone p7)) = Bool.false) →
         (J2 n2 n3 h4))))))))))) ∧
         (((decide (n4 < (16 : Int))) = Bool.false) →
         ((((n2 == (0 : Int)) = Bool.true) →
         (Spec Tryz.prog 249 [(S []), (S l6)] h4 (fun v2 h7 =>
         (∃ p9 : (Option Addr),
         ((v2 = (Value.pointer p9)) ∧
         (Q (Value.pointer p9) h7)))))) ∧
         (((n2 == (0 : Int)) = Bool.false) →
         (∀ J3 : (Bool → (Heap → Prop)),
         (((∀ b : Bool,
         (∀ h8 : Heap,
         (((((b = Bool.true) →
         ((((0 : Int) ≤ n3) ∧
         (n3 < (16 : Int))) ∧
         (∃ p10 : (Option Addr),
         ((((List.map (fun (p11 : (Option Addr)) => (Value.pointer p11)) l7))[(0 + ((Int.toNat n3) * (1 : Nat)))]? = (Option.some (Value.pointer p10))) ∧
         ((((List.map (fun (p12 : (Option Addr)) => (Value.pointer p12)) l7))[(0 + ((Int.toNat n3) * (1 : Nat)))]? = ((List.map (fun (p13 : (Option Addr)) => (Value.pointer p13)) l7))[(0 + ((Int.toNat n3) * (1 : Nat)))]?) ∧
         (∃ l8 : (List UInt8),
         (((Option.some [(Value.int IntKind.u8 (IntKind.wrap IntKind.u8 n3))]) = (Option.some (List.map byteV l8))) ∧
         (Spec Tryz.prog 248 [(S l8), (Value.pointer p10)] h8 (fun v3 h9 =>
         (∃ p14 : (Option Addr),
         ((v3 = (Value.pointer p14)) ∧
         (Q (Value.pointer p14) h9)))))))))))) ∧
         ((b = Bool.false) →
         (((List.length (List.map (fun (p15 : (Option Addr)) => (Value.pointer p15)) l7)) = (16 : Nat)) ∧
         (Spec Tryz.prog 250 [(S l6), (Value.agg ⟨(List.map (fun (p16 : (Option Addr)) => (Value.pointer p16)) l7)⟩)] h8 (fun v4 h10 =>
         (∃ p17 : (Option Addr),
         ((v4 = (Value.pointer p17)) ∧
         (Q (Value.pointer p17) h10))))))))) →
         (J3 b h8))))) →
         ((((n2 == (1 : Int)) = Bool.true) →
         (J3 (l6 == []) h4)) ∧
         (((n2 == (1 : Int)) = Bool.false) →
         (J3 Bool.false h4)))))))))))))))))) →
        (J l6 l7 h3)))))) →
       ((((path == []) = Bool.true) →
       (∃ l9 : (List (Option Addr)),
        (((List.map (fun (p18 : (Option Addr)) => (Value.pointer p18)) l3) = (List.map (fun (p19 : (Option Addr)) => (Value.pointer p19)) l9)) ∧
        (J [] l9 h)))) ∧
       (((path == []) = Bool.false) →
       (∃ ui : UInt8,
        (((0 : Int) ≤ (0 : Int)) ∧
        (((path)[0]? = (Option.some ui)) ∧
        (∃ ui1 : UInt8,
        (((0 : Int) ≤ (0 : Int)) ∧
         (((path)[0]? = (Option.some ui1)) ∧
         ((((0 : Int) ≤ (((UInt8.toNat ui1) : Nat) : Int)) ∧
         ((((UInt8.toNat ui1) : Nat) : Int) < (16 : Int))) ∧
         (∃ p20 : (Option Addr),
         ((((List.map (fun (p21 : (Option Addr)) => (Value.pointer p21)) l3))[(0 + ((Int.toNat (((UInt8.toNat ui1) : Nat) : Int)) * (1 : Nat)))]? = (Option.some (Value.pointer p20))) ∧
         (((0 : Int) ≤ (1 : Int)) ∧
         (((1 ≤ (List.length path)) ∧
         ((List.length path) ≤ (List.length path))) ∧
         (Spec Tryz.prog 166 [(Value.pointer p20), (S (List.drop 1 (List.take (List.length path) path)))] h (fun v5 h11 =>
         (∃ p22 : (Option Addr),
         ((v5 = (Value.pointer p22)) ∧
         ((((0 : Int) ≤ (((UInt8.toNat ui) : Nat) : Int)) ∧
         ((((UInt8.toNat ui) : Nat) : Int) < (16 : Int))) ∧
         (((0 + ((Int.toNat (((UInt8.toNat ui) : Nat) : Int)) * (1 : Nat))) < (List.length (List.map (fun (p23 : (Option Addr)) => (Value.pointer p23)) l3))) ∧
         (∃ l10 : (List (Option Addr)),
         (((List.set (List.map (fun (p24 : (Option Addr)) => (Value.pointer p24)) l3) (0 + ((Int.toNat (((UInt8.toNat ui) : Nat) : Int)) * (1 : Nat))) (Value.pointer p22)) = (List.map (fun (p25 : (Option Addr)) => (Value.pointer p25)) l10)) ∧
         (J l2 l10 h11)))))))))))))))))))))))))))))))))))))))))))))))
theorem vc166 (k : Option Addr) (path : List UInt8) (h : Heap) (Q : Value → Heap → Prop) : evF Tryz.prog τ tok 166 an166 [.pointer k, S path] h Q = VC166 k path h Q := by kernel_rfl
theorem ok166 {k : Option Addr} {path : List UInt8} {h : Heap} {Q : Value → Heap → Prop} (hv : VC166 k path h Q) : Spec Tryz.prog 166 [.pointer k, S path] h Q := evF_sound (P := Tryz.prog) (τ := τ) (ok := tok) (an := an166) (fun _ => drawn mixed) (by rw [vc166]; exact hv)

/- (*pharos/trie.Trie).Get -/
def an165 : An := (.nd none [] [] .leaf (.nd none [] [] .leaf (.nd none [] [] (.nd none [] [0, 1, 2, 3, 4, 5, 6, 7] .leaf .leaf) .leaf)))
def VC165 (t : Option Addr) (key : List UInt8) (h : Heap) (Q : Value → Heap → Prop) : Prop :=
 (Spec Tryz.prog 168 [(S key)] h (fun v h1 =>
 (∃ b : Bool,
 ((v = (Value.bool b)) ∧
 ((((!b) = Bool.true) →
  (Q (Value.tuple ⟨[(S []), (Value.int IntKind.i64 (1 : Int))]⟩) h1)) ∧
  (((!b) = Bool.false) →
  (∃ ad : Addr,
  ((t = (Option.some ad)) ∧
  (∃ p : (Option Addr),
   (((rd h1 (Addr.add ad 0)) = (Option.some (Value.pointer p))) ∧
   (Spec Tryz.prog 167 [(S key)] h1 (fun v1 h2 =>
   (∃ l : (List UInt8),
   ((v1 = (S l)) ∧
    (((rd h2 (Addr.add ad 0)) = (rd h1 (Addr.add ad 0))) ∧
    (Spec Tryz.prog 170 [(Value.pointer p), (S l)] h2 (fun v2 h3 =>
    (∃ l1 : (List UInt8),
    ((v2 = (S l1)) ∧
     ((((l1 == []) = Bool.true) →
     (Q (Value.tuple ⟨[(S []), (Value.int IntKind.i64 (5 : Int))]⟩) h3)) ∧
     (((l1 == []) = Bool.false) →
     (Q (Value.tuple ⟨[(S l1), (Value.int IntKind.i64 (0 : Int))]⟩) h3))))))))))))))))))))))
theorem vc165 (t : Option Addr) (key : List UInt8) (h : Heap) (Q : Value → Heap → Prop) : evF Tryz.prog τ tok 165 an165 [.pointer t, S key] h Q = VC165 t key h Q := by kernel_rfl
theorem ok165 {t : Option Addr} {key : List UInt8} {h : Heap} {Q : Value → Heap → Prop} (hv : VC165 t key h Q) : Spec Tryz.prog 165 [.pointer t, S key] h Q := evF_sound (P := Tryz.prog) (τ := τ) (ok := tok) (an := an165) (fun _ => drawn mixed) (by rw [vc165]; exact hv)

/- (*pharos/trie.Trie).Put -/
def an73 : An := (.nd none [] [] .leaf (.nd none [] [] .leaf (.nd none [] [] (.nd none [] [] (.nd (some [.slot 18 .bool]) [] [] .leaf .leaf) .leaf) (.nd none [] [] .leaf (.nd none [] [] (.nd none [] [] (.nd (some [.slot 32 .bool]) [] [] .leaf .leaf) .leaf) .leaf)))))
def VC73 (t : Option Addr) (key : List UInt8) (value : List UInt8) (h : Heap) (Q : Value → Heap → Prop) : Prop :=
 (Spec Tryz.prog 168 [(S key)] h (fun v h1 =>
 (∃ b : Bool,
 ((v = (Value.bool b)) ∧
 ((((!b) = Bool.true) →
  (Q (Value.tuple ⟨[(Value.pointer Option.none), (Value.int IntKind.i64 (1 : Int))]⟩) h1)) ∧
  (((!b) = Bool.false) →
  (∀ J : (Bool → (Heap → Prop)),
  (((∀ b1 : Bool,
   (∀ h2 : Heap,
   (((((b1 = Bool.true) →
    (Q (Value.tuple ⟨[(Value.pointer Option.none), (Value.int IntKind.i64 (2 : Int))]⟩) h2)) ∧
   ((b1 = Bool.false) →
    (Spec Tryz.prog 167 [(S key)] h2 (fun v1 h3 =>
    (∃ l : (List UInt8),
    ((v1 = (S l)) ∧
    (∀ J1 : (Bool → (Heap → Prop)),
     (((∀ b2 : Bool,
     (∀ h4 : Heap,
     (((((b2 = Bool.true) →
      (Q (Value.tuple ⟨[(Value.pointer Option.none), (Value.int IntKind.i64 (2 : Int))]⟩) h4)) ∧
      ((b2 = Bool.false) →
      (∃ ad : Addr,
      ((t = (Option.some ad)) ∧
       (∃ p : (Option Addr),
       (((rd h4 (Addr.add ad 0)) = (Option.some (Value.pointer p))) ∧
       (Spec Tryz.prog 171 [(Value.pointer p), (S l), (S value)] h4 (fun v2 h5 =>
       (∃ p1 : (Option Addr),
        ((v2 = (Value.pointer p1)) ∧
        (∀ b3 : Nat,
        (((h5 b3) = Option.none) →
        (Q (Value.tuple ⟨[(Value.pointer (Option.some (Addr.mk b3 0 Option.none))), (Value.int IntKind.i64 (0 : Int))]⟩) (Heap.set h5 b3 (Obj.cells ⟨[(Value.pointer p1)]⟩ 153 (Prod.mk 0 0))))))))))))))))) →
      (J1 b2 h4))))) →
     (Spec Tryz.prog 169 [(Value.pointer t)] h3 (fun v3 h6 =>
     (∃ n : Int,
     ((v3 = (Value.int IntKind.i64 n)) ∧
      ((((decide (n ≥ (1024 : Int))) = Bool.true) →
      (∃ ad1 : Addr,
      ((t = (Option.some ad1)) ∧
       (∃ p2 : (Option Addr),
       (((rd h6 (Addr.add ad1 0)) = (Option.some (Value.pointer p2))) ∧
       (Spec Tryz.prog 170 [(Value.pointer p2), (S l)] h6 (fun v4 h7 =>
       (∃ l1 : (List UInt8),
        ((v4 = (S l1)) ∧
        (J1 (l1 == []) h7)))))))))) ∧
      (((decide (n ≥ (1024 : Int))) = Bool.false) →
      (J1 Bool.false h6)))))))))))))))) →
   (J b1 h2))))) →
  ((((value == []) = Bool.false) →
   (J (decide ((((List.length value) : Nat) : Int) > (32 : Int))) h1)) ∧
   (((value == []) = Bool.true) →
   (J Bool.true h1)))))))))))
theorem vc73 (t : Option Addr) (key : List UInt8) (value : List UInt8) (h : Heap) (Q : Value → Heap → Prop) : evF Tryz.prog τ tok 73 an73 [.pointer t, S key, S value] h Q = VC73 t key value h Q := by kernel_rfl
theorem ok73 {t : Option Addr} {key : List UInt8} {value : List UInt8} {h : Heap} {Q : Value → Heap → Prop} (hv : VC73 t key value h Q) : Spec Tryz.prog 73 [.pointer t, S key, S value] h Q := evF_sound (P := Tryz.prog) (τ := τ) (ok := tok) (an := an73) (fun _ => drawn mixed) (by rw [vc73]; exact hv)

/- (*pharos/trie.Trie).Del -/
def an72 : An := (.nd none [] [] .leaf (.nd none [] [] .leaf (.nd none [] [] (.nd none [] [0, 1, 2, 3, 4, 5, 6, 7, 8, 9, 10] .leaf .leaf) .leaf)))
def VC72 (t : Option Addr) (key : List UInt8) (h : Heap) (Q : Value → Heap → Prop) : Prop :=
 (Spec Tryz.prog 165 [(Value.pointer t), (S key)] h (fun v h1 =>
 (∃ l : (List UInt8),
 (∃ n : Int,
 ((v = (Value.tuple ⟨[(S l), (Value.int IntKind.i64 n)]⟩)) ∧
  ((((n != (0 : Int)) = Bool.true) →
  (Q (Value.tuple ⟨[(Value.pointer Option.none), (Value.int IntKind.i64 n)]⟩) h1)) ∧
  (((n != (0 : Int)) = Bool.false) →
  (∃ ad : Addr,
  ((t = (Option.some ad)) ∧
   (∃ p : (Option Addr),
   (((rd h1 (Addr.add ad 0)) = (Option.some (Value.pointer p))) ∧
   (Spec Tryz.prog 167 [(S key)] h1 (fun v1 h2 =>
   (∃ l1 : (List UInt8),
    ((v1 = (S l1)) ∧
    (((rd h2 (Addr.add ad 0)) = (rd h1 (Addr.add ad 0))) ∧
    (Spec Tryz.prog 166 [(Value.pointer p), (S l1)] h2 (fun v2 h3 =>
    (∃ p1 : (Option Addr),
     ((v2 = (Value.pointer p1)) ∧
     (∀ b : Nat,
     (((h3 b) = Option.none) →
     (Q (Value.tuple ⟨[(Value.pointer (Option.some (Addr.mk b 0 Option.none))), (Value.int IntKind.i64 (0 : Int))]⟩) (Heap.set h3 b (Obj.cells ⟨[(Value.pointer p1)]⟩ 153 (Prod.mk 0 0))))))))))))))))))))))))))
theorem vc72 (t : Option Addr) (key : List UInt8) (h : Heap) (Q : Value → Heap → Prop) : evF Tryz.prog τ tok 72 an72 [.pointer t, S key] h Q = VC72 t key h Q := by kernel_rfl
theorem ok72 {t : Option Addr} {key : List UInt8} {h : Heap} {Q : Value → Heap → Prop} (hv : VC72 t key h Q) : Spec Tryz.prog 72 [.pointer t, S key] h Q := evF_sound (P := Tryz.prog) (τ := τ) (ok := tok) (an := an72) (fun _ => drawn mixed) (by rw [vc72]; exact hv)

/- (*pharos/trie.Trie).Len -/
def an169 : An := .leaf
def VC169 (t : Option Addr) (h : Heap) (Q : Value → Heap → Prop) : Prop :=
 (∃ ad : Addr,
 ((t = (Option.some ad)) ∧
 (∃ p : (Option Addr),
 (((rd h (Addr.add ad 0)) = (Option.some (Value.pointer p))) ∧
  ((((Option.isNone p) = Bool.true) →
  (Q (Value.int IntKind.i64 (0 : Int)) h)) ∧
  (((Option.isNone p) = Bool.false) →
  (∃ ad1 : Addr,
  ((t = (Option.some ad1)) ∧
   (∃ p1 : (Option Addr),
   (((rd h (Addr.add ad1 0)) = (Option.some (Value.pointer p1))) ∧
   (∃ ad2 : Addr,
   ((p1 = (Option.some ad2)) ∧
    (∃ n : Int,
    (((rd h (Addr.mk (ad2).block ((ad2).off + 37) Option.none)) = (Option.some (Value.int IntKind.i64 n))) ∧
    (Q (Value.int IntKind.i64 n) h)))))))))))))))
theorem vc169 (t : Option Addr) (h : Heap) (Q : Value → Heap → Prop) : evF Tryz.prog τ tok 169 an169 [.pointer t] h Q = VC169 t h Q := by kernel_rfl
theorem ok169 {t : Option Addr} {h : Heap} {Q : Value → Heap → Prop} (hv : VC169 t h Q) : Spec Tryz.prog 169 [.pointer t] h Q := evF_sound (P := Tryz.prog) (τ := τ) (ok := tok) (an := an169) (fun _ => drawn mixed) (by rw [vc169]; exact hv)

/- (*pharos/trie.Trie).Root -/
def an21 : An := .leaf
def VC21 (t : Option Addr) (h : Heap) (Q : Value → Heap → Prop) : Prop :=
 (∃ ad : Addr,
 ((t = (Option.some ad)) ∧
 (∃ p : (Option Addr),
 (((rd h (Addr.add ad 0)) = (Option.some (Value.pointer p))) ∧
  ((((Option.isNone p) = Bool.true) →
  (Q (S []) h)) ∧
  (((Option.isNone p) = Bool.false) →
  (∃ ad1 : Addr,
  ((t = (Option.some ad1)) ∧
   (∃ p1 : (Option Addr),
   (((rd h (Addr.add ad1 0)) = (Option.some (Value.pointer p1))) ∧
   (∃ ad2 : Addr,
   ((p1 = (Option.some ad2)) ∧
    (∃ l : (List UInt8),
    (((rd h (Addr.mk (ad2).block ((ad2).off + 36) Option.none)) = (Option.some (S l))) ∧
    (Q (S l) h)))))))))))))))
theorem vc21 (t : Option Addr) (h : Heap) (Q : Value → Heap → Prop) : evF Tryz.prog τ tok 21 an21 [.pointer t] h Q = VC21 t h Q := by kernel_rfl
theorem ok21 {t : Option Addr} {h : Heap} {Q : Value → Heap → Prop} (hv : VC21 t h Q) : Spec Tryz.prog 21 [.pointer t] h Q := evF_sound (P := Tryz.prog) (τ := τ) (ok := tok) (an := an21) (fun _ => drawn mixed) (by rw [vc21]; exact hv)

/- pharos/trie.New -/
def an17 : An := .leaf
def VC17 (h : Heap) (Q : Value → Heap → Prop) : Prop :=
 (∀ b : Nat,
 (((h b) = Option.none) →
 (Q (Value.pointer (Option.some (Addr.mk b 0 Option.none))) (Heap.set h b (Obj.cells ⟨[(Value.pointer Option.none)]⟩ 153 (Prod.mk 0 0))))))
theorem vc17 (h : Heap) (Q : Value → Heap → Prop) : evF Tryz.prog τ tok 17 an17 [] h Q = VC17  h Q := by kernel_rfl
theorem ok17 {h : Heap} {Q : Value → Heap → Prop} (hv : VC17  h Q) : Spec Tryz.prog 17 [] h Q := evF_sound (P := Tryz.prog) (τ := τ) (ok := tok) (an := an17) (fun _ => drawn mixed) (by rw [vc17]; exact hv)

end Go.Vw
namespace Go.Vw
open Go Go.Proofs

/-! ### Sixteen of something -/

def kl {α : Type} (f : Fin 16 → α) : List α := (List.finRange 16).map f
theorem kl_len {α : Type} (f : Fin 16 → α) : (kl f).length = 16 := by simp [kl]
theorem kl_get? {α : Type} (f : Fin 16 → α) {i : Nat} (h : i < 16) : (kl f)[i]? = some (f ⟨i, h⟩) := by
  unfold kl
  rw [List.getElem?_map, List.getElem?_eq_getElem (by simpa using h)]
  simp
theorem kl_getD {α : Type} (f : Fin 16 → α) {i : Nat} (h : i < 16) (d : α) : (kl f).getD i d = f ⟨i, h⟩ := by
  rw [List.getD, kl_get? f h]; rfl
theorem kl_ext {α : Type} {l : List α} {f : Fin 16 → α} (hl : l.length = 16) (h : ∀ (i : Nat) (hi : i < 16), l[i]? = some (f ⟨i, hi⟩)) : l = kl f := by
  apply List.ext_getElem?
  intro i
  by_cases hi : i < 16
  · rw [h i hi, kl_get? f hi]
  · rw [List.getElem?_eq_none (by omega), List.getElem?_eq_none (by rw [kl_len]; omega)]
theorem kl_set {α : Type} (f : Fin 16 → α) (i : Fin 16) (x : α) : (kl f).set i.val x = kl (fun j => if j = i then x else f j) := by
  apply kl_ext (by rw [List.length_set, kl_len])
  intro j hj
  by_cases h : i.val = j
  · subst h
    rw [List.getElem?_set_self (by rw [kl_len]; exact hj), if_pos rfl]
  · rw [List.getElem?_set_ne h, kl_get? f hj, if_neg (fun e => h (by rw [← e]))]
theorem kl_rep {α : Type} (x : α) : List.replicate 16 x = kl (fun _ => x) := by
  apply kl_ext (by simp)
  intro i hi
  rw [List.getElem?_replicate, if_pos hi]
theorem kl_map {α β : Type} (f : Fin 16 → α) (g : α → β) : (kl f).map g = kl (fun i => g (f i)) := by
  unfold kl; rw [List.map_map]; rfl
theorem kl_cons {α : Type} (x d : α) : x :: List.replicate 15 d = kl (fun i => if i = 0 then x else d) := by
  have h := kl_set (fun _ => d) 0 x
  rw [← kl_rep] at h
  exact h
theorem mem_kl {α : Type} {f : Fin 16 → α} {x : α} (h : x ∈ kl f) : ∃ i, x = f i := by
  unfold kl at h
  rw [List.mem_map] at h
  obtain ⟨i, _, rfl⟩ := h
  exact ⟨i, rfl⟩

/-! ### What a knot bears -/

def T.kind : T → Int
  | .nil => 0
  | .leaf _ _ => 1
  | .ext _ _ => 2
  | .br _ _ => 3
def T.path : T → Bs
  | .leaf p _ => p
  | .ext p _ => p
  | _ => []
def T.val : T → Bs
  | .leaf _ v => v
  | .br v _ => v
  | _ => []
def T.kids : T → Fin 16 → T
  | .ext _ k, i => if i = 0 then k else .nil
  | .br _ ks, i => ks i
  | _, _ => .nil
def T.sum : T → Bs
  | .nil => []
  | .leaf p v => sumN ⟨1, p, v, kl fun _ => []⟩
  | .ext p k => sumN ⟨2, p, [], kl fun i => if i = 0 then k.sum else []⟩
  | .br v ks => sumN ⟨3, [], v, kl fun i => (ks i).sum⟩
def T.node (t : T) : GApiNode := ⟨t.kind, t.path, t.val, kl fun i => (t.kids i).sum⟩
def T.enc (t : T) : Bs := encN t.node
/-- How many items: what is added up, an item more where there is a value. -/
def manyK (v : Bs) (f : Fin 16 → Bool × Int) : Int :=
  let m := (List.finRange 16).foldl (fun m i => if (f i).1 then m else IntKind.wrap .i64 (m + (f i).2)) 0
  if v = [] then m else IntKind.wrap .i64 (m + 1)
def T.many : T → Int
  | .nil => 0
  | .leaf _ v => manyK v fun _ => (true, 0)
  | .ext _ k => manyK [] fun i => if i = 0 then (k.isNil, k.many) else (true, 0)
  | .br v ks => manyK v fun i => ((ks i).isNil, (ks i).many)
theorem kids_ext (p : Bs) (k : T) (i : Fin 16) : (T.ext p k).kids i = if i = 0 then k else .nil := rfl
theorem sum_eq {t : T} (h : t.isNil = false) : t.sum = sumN t.node := by
  cases t with
  | nil => cases h
  | leaf p v => rfl
  | ext p k =>
    have : (fun i : Fin 16 => if i = 0 then k.sum else []) = fun i => ((T.ext p k).kids i).sum := by
      funext i; rw [kids_ext]; split <;> rfl
    unfold T.node
    rw [← this]; rfl
  | br v ks => rfl
theorem many_eq {t : T} (h : t.isNil = false) : t.many = manyK t.val fun i => ((t.kids i).isNil, (t.kids i).many) := by
  cases t with
  | nil => cases h
  | leaf p v => rfl
  | ext p k =>
    have : (fun i : Fin 16 => if i = 0 then (k.isNil, k.many) else (true, 0)) = fun i => (((T.ext p k).kids i).isNil, ((T.ext p k).kids i).many) := by
      funext i; rw [kids_ext]; split <;> rfl
    rw [← this]; rfl
  | br v ks => rfl
theorem sum_nil {t : T} (h : t.isNil = true) : t.sum = [] := by cases t <;> first | rfl | cases h
theorem sumN_len (n : GApiNode) : (sumN n).length ≤ 32 := by
  unfold sumN
  split
  · rw [sumT, shaM_len]; exact Nat.le_refl _
  · simp
theorem sum_len (t : T) : t.sum.length ≤ 32 := by
  cases h : t.isNil with
  | true => rw [sum_nil h]; simp
  | false => rw [sum_eq h]; exact sumN_len _
/-- Short enough to be handled. -/
def T.small (t : T) : Prop := t.path.length ≤ 1048576 ∧ t.val.length ≤ 1048576
theorem T.nodeOk {t : T} (h : t.small) : NodeOk t.node := by
  refine ⟨kl_len _, h.1, h.2, fun s hs => ?_⟩
  obtain ⟨i, rfl⟩ := mem_kl (f := fun i => (t.kids i).sum) hs
  exact Nat.le_trans (sum_len _) (by decide)

/-! ### In memory -/

abbrev pv (l : List (Option Addr)) : List Value := l.map fun p => Value.pointer p
def knO (e : TypeId) (t : T) (f : Fin 16 → Option Addr) : Obj := .cells ⟨cGTrieKnot ⟨t.node, kl f, t.enc, t.sum, t.many⟩⟩ e (0, 0)
def isK (h : Heap) : T → Option Addr → Prop
  | .nil, p => p = none
  | .leaf a v, p => ∃ b e f, p = some ⟨b, 0, none⟩ ∧ h b = some (knO e (.leaf a v) f) ∧ ∀ i, f i = none
  | .ext a k, p => ∃ b e f, p = some ⟨b, 0, none⟩ ∧ h b = some (knO e (.ext a k) f) ∧ isK h k (f 0) ∧ ∀ i, i ≠ 0 → f i = none
  | .br v ks, p => ∃ b e f, p = some ⟨b, 0, none⟩ ∧ h b = some (knO e (.br v ks) f) ∧ ∀ i, isK h (ks i) (f i)
theorem isK_iff {h : Heap} {t : T} {p : Option Addr} (ht : t.isNil = false) : isK h t p ↔ ∃ b e f, p = some ⟨b, 0, none⟩ ∧ h b = some (knO e t f) ∧ ∀ i, isK h (t.kids i) (f i) := by
  cases t with
  | nil => cases ht
  | leaf a v => exact Iff.rfl
  | ext a k =>
    constructor
    · rintro ⟨b, e, f, h1, h2, h3, h4⟩
      refine ⟨b, e, f, h1, h2, fun i => ?_⟩
      rw [kids_ext]
      by_cases hi : i = 0
      · rw [if_pos hi, hi]; exact h3
      · rw [if_neg hi]; exact h4 i hi
    · rintro ⟨b, e, f, h1, h2, h3⟩
      refine ⟨b, e, f, h1, h2, h3 0, fun i hi => ?_⟩
      have := h3 i
      rw [kids_ext, if_neg hi] at this
      exact this
  | br v ks => exact Iff.rfl
theorem isK_nil {h : Heap} {t : T} {p : Option Addr} (hk : isK h t p) : p.isNone = t.isNil := by
  cases t with
  | nil => rw [show p = none from hk]; rfl
  | leaf a v => obtain ⟨b, e, f, rfl, _⟩ := hk; rfl
  | ext a k => obtain ⟨b, e, f, rfl, _⟩ := hk; rfl
  | br v ks => obtain ⟨b, e, f, rfl, _⟩ := hk; rfl
theorem isK_le {h g : Heap} (hl : h.le g) : ∀ {t : T} {p : Option Addr}, isK h t p → isK g t p
  | .nil, _, hk => hk
  | .leaf a v, _, ⟨b, e, f, h1, h2, h3⟩ => ⟨b, e, f, h1, hl _ _ h2, h3⟩
  | .ext a k, _, ⟨b, e, f, h1, h2, h3, h4⟩ => ⟨b, e, f, h1, hl _ _ h2, isK_le hl h3, h4⟩
  | .br v ks, _, ⟨b, e, f, h1, h2, h3⟩ => ⟨b, e, f, h1, hl _ _ h2, fun i => isK_le hl (h3 i)⟩

/-! ### Cells of a knot -/

theorem kn_len {g : GTrieKnot} (h1 : g.n.Kids.length = 16) (h2 : g.kids.length = 16) : (cGTrieKnot g).length = 38 := by simp [h1, h2]
theorem kn_split (g : GTrieKnot) : cGTrieKnot g = cGApiNode g.n ++ (pv g.kids ++ [S g.text, S g.sum, .int .i64 g.many]) := rfl
theorem kn_tail {g : GTrieKnot} (h1 : g.n.Kids.length = 16) (h2 : g.kids.length = 16) {i : Nat} : (cGTrieKnot g)[35 + i]? = [S g.text, S g.sum, .int .i64 g.many][i]? := by
  rw [kn_split, List.getElem?_append_right (by rw [node_len h1]; omega), node_len h1, List.getElem?_append_right (by rw [List.length_map, h2]; omega), List.length_map, h2]
  congr 1; omega
theorem kn_kid {g : GTrieKnot} (h1 : g.n.Kids.length = 16) (h2 : g.kids.length = 16) {i : Nat} (hi : i < 16) : (cGTrieKnot g)[19 + i]? = (pv g.kids)[i]? := by
  rw [kn_split, List.getElem?_append_right (by rw [node_len h1]; omega), node_len h1, List.getElem?_append_left (by rw [List.length_map, h2]; omega)]
  congr 1; omega
theorem kn_set {g : GTrieKnot} (h1 : g.n.Kids.length = 16) (h2 : g.kids.length = 16) (i : Nat) (v : Value) :
    (cGTrieKnot g).set (35 + i) v = cGApiNode g.n ++ (pv g.kids ++ [S g.text, S g.sum, .int .i64 g.many].set i v) := by
  rw [kn_split, List.set_append_right _ _ (by rw [node_len h1]; omega), node_len h1, List.set_append_right _ _ (by rw [List.length_map, h2]; omega), List.length_map, h2]
  congr 3; omega
theorem kn_setk {g : GTrieKnot} {i : Nat} (hi : i < g.n.Kids.length) (s : Bs) : (cGTrieKnot g).set (3 + i * 1) (S s) = cGTrieKnot { g with n := { g.n with Kids := g.n.Kids.set i s } } := by
  have e : (cGApiNode g.n).set (3 + i * 1) (S s) = cGApiNode { g.n with Kids := g.n.Kids.set i s } := by
    show List.set (_ :: _ :: _ :: (g.n.Kids.map fun s => S s)) (3 + i * 1) (S s) = (_ :: _ :: _ :: ((g.n.Kids.set i s).map fun s => S s))
    rw [show 3 + i * 1 = i + 1 + 1 + 1 by omega, List.set_cons_succ, List.set_cons_succ, List.set_cons_succ, List.map_set]
  rw [kn_split, List.set_append_left _ _ (by simp; omega), e]
  rfl
theorem kn_sub {l m : List Value} (hl : l.length = 19) : sub (l ++ m) 0 19 = some l := by
  unfold sub
  rw [if_pos (by rw [List.length_append]; omega), List.drop_zero, List.take_append_of_le_length (by omega), List.take_of_length_le (by omega)]

section
variable {h : Heap} {b : Nat} {e : TypeId} {t : T} {f : Fin 16 → Option Addr}
theorem knr_kind (hb : h b = some (knO e t f)) : rd h ⟨b, 0, none⟩ = some (.int .i64 t.kind) := rd_of hb
theorem knr_path (hb : h b = some (knO e t f)) : rd h ⟨b, 1, none⟩ = some (S t.path) := rd_of hb
theorem knr_val (hb : h b = some (knO e t f)) : rd h ⟨b, 2, none⟩ = some (S t.val) := rd_of hb
theorem knr_kid (hb : h b = some (knO e t f)) {i : Nat} (hi : i < 16) : rd h ⟨b, 19 + i, none⟩ = some (.pointer (f ⟨i, hi⟩)) := by
  rw [rd_of hb, kn_kid (kl_len _) (kl_len _) hi, List.getElem?_map, kl_get? f hi]; rfl
theorem knr_sum (hb : h b = some (knO e t f)) : rd h ⟨b, 36, none⟩ = some (S t.sum) := by
  rw [rd_of hb]; exact kn_tail (i := 1) (kl_len _) (kl_len _)
theorem knr_text (hb : h b = some (knO e t f)) : rd h ⟨b, 35, none⟩ = some (S t.enc) := by
  rw [rd_of hb]; exact kn_tail (i := 0) (kl_len _) (kl_len _)
theorem knr_many (hb : h b = some (knO e t f)) : rd h ⟨b, 37, none⟩ = some (.int .i64 t.many) := by
  rw [rd_of hb]; exact kn_tail (i := 2) (kl_len _) (kl_len _)
theorem knr_kids (hb : h b = some (knO e t f)) : rdn h ⟨b, 19, none⟩ 16 = some (pv (kl f)) := by
  rw [rdn_of hb (by rw [kn_len (kl_len _) (kl_len _)]; decide), kn_split]
  rw [List.drop_append_of_le_length (by rw [node_len (kl_len _)]; exact Nat.le_refl _), List.drop_eq_nil_of_le (by rw [node_len (kl_len _)]; exact Nat.le_refl _), List.nil_append]
  rw [List.take_append_of_le_length (by rw [List.length_map, kl_len]; exact Nat.le_refl _), List.take_of_length_le (by rw [List.length_map, kl_len]; exact Nat.le_refl _)]
end
end Go.Vw
namespace Go.Vw
open Go Go.Proofs

/-- What a call hands back: a knot, made behind all that was. -/
def KPost (h : Heap) (t : T) (v : Value) (h' : Heap) : Prop := h.le h' ∧ ∃ p, v = .pointer p ∧ isK h' t p
theorem finRange_take {i : Nat} (hi : i < 16) : (List.finRange 16).take (i + 1) = (List.finRange 16).take i ++ [⟨i, hi⟩] := by
  rw [List.take_add_one, List.getElem?_eq_getElem (by simpa using hi)]
  simp
def mfold (g : Fin 16 → Bool × Int) (i : Nat) : Int := ((List.finRange 16).take i).foldl (fun m i => if (g i).1 then m else IntKind.wrap .i64 (m + (g i).2)) 0
theorem mfold_succ (g : Fin 16 → Bool × Int) {i : Nat} (hi : i < 16) : mfold g (i + 1) = if (g ⟨i, hi⟩).1 then mfold g i else IntKind.wrap .i64 (mfold g i + (g ⟨i, hi⟩).2) := by
  unfold mfold
  rw [finRange_take hi, List.foldl_append]; rfl
theorem mfold_end (v : Bs) (g : Fin 16 → Bool × Int) : manyK v g = if v = [] then mfold g 16 else IntKind.wrap .i64 (mfold g 16 + 1) := by
  unfold manyK mfold
  rw [List.take_of_length_le (by simp)]

set_option maxHeartbeats 1000000 in
theorem tied_ok {h : Heap} {t : T} (ht : t.isNil = false) (hs : t.small) {f : Fin 16 → Option Addr} (hf : ∀ i, isK h (t.kids i) (f i)) {n0 : GApiNode} (hk0 : n0.Kids.length = 16)
    (e1 : n0.Kind = t.kind) (e2 : n0.Path = t.path) (e3 : n0.Value = t.val) (e4 : ∀ i : Fin 16, (t.kids i).isNil = true → n0.Kids.getD i.val [] = []) (hK : KH h) :
    Spec Tryz.prog 255 [.agg ⟨cGApiNode n0⟩, .agg ⟨pv (kl f)⟩] h (KPost h t) := by
  apply ok255
  unfold VC255
  have hpl : (pv (kl f)).length = 16 := by rw [List.length_map, kl_len]
  refine ⟨node_len hk0, hpl, node_len hk0, hpl, hpl, ?_⟩
  have hg : ∃ g : Fin 16 → Bool × Int, g = fun i => ((t.kids i).isNil, (t.kids i).many) := ⟨_, rfl⟩
  obtain ⟨g, hg⟩ := hg
  refine ⟨fun n1 gt h1 => (h1 = h ∧ 0 ≤ n1 ∧ n1 ≤ 16 ∧ ∃ ks : List Bs, ks.length = 16 ∧ (∀ (j : Nat) (hj : j < 16), ks.getD j [] = if j < n1.toNat then (t.kids ⟨j, hj⟩).sum else n0.Kids.getD j []) ∧
    gt = ⟨⟨n0.Kind, n0.Path, n0.Value, ks⟩, kl f, [], [], mfold g n1.toNat⟩, 16 - n1.toNat), ⟨⟨n0, kl f, [], [], 0⟩, rfl, rfl, by decide, by decide, n0.Kids, hk0, fun j hj => by simp, rfl⟩, ?_⟩
  rintro n1 gt h1 ⟨rfl, h0, h16, ks, hks, hkj, rfl⟩
  obtain ⟨i, rfl⟩ : ∃ j : Nat, n1 = j := ⟨n1.toNat, by omega⟩
  simp only [Int.toNat_natCast] at hkj ⊢
  refine ⟨fun hlt J hJ => ?_, fun hge => ?_⟩
  · have hi : i < 16 := by simp at hlt; omega
    have e5 : IntKind.wrap .i64 ((i : Int) + 1) = ((i + 1 : Nat) : Int) := by rw [wrap64 (by omega) (by omega)]; omega
    rw [e5] at hJ
    simp only [Int.toNat_natCast] at hJ
    have hpi : (pv (kl f))[i * 1]? = some (.pointer (f ⟨i, hi⟩)) := by
      rw [Nat.mul_one, List.getElem?_map, kl_get? f hi]; rfl
    have hfi := hf ⟨i, hi⟩
    have hnil := isK_nil hfi
    refine ⟨⟨by omega, by omega⟩, _, hpi, fun J1 hJ1 => ⟨fun hsome => ?_, fun hnone => ?_⟩⟩
    · have hni : (t.kids ⟨i, hi⟩).isNil = false := by
        rw [← hnil]; simpa using hsome
      obtain ⟨b, e, f', hp, hb, _⟩ := (isK_iff hni).1 hfi
      refine ⟨_, hp, _, knr_sum hb, ⟨by omega, by omega⟩, by rw [kn_len hks (kl_len _)]; omega, mfold g i, ?_, _, hp, _, knr_many hb, by rw [List.length_set, kn_len hks (kl_len _)]; decide, ⟨⟨n0.Kind, n0.Path, n0.Value, ks.set i (t.kids ⟨i, hi⟩).sum⟩, kl f, [], [], mfold g (i + 1)⟩, ?_, ?_⟩
      · rw [kn_setk (show i < ks.length by omega)]
        exact kn_tail (i := 2) (by simpa using hks) (kl_len _)
      · rw [kn_setk (show i < ks.length by omega)]
        have hn := kn_set (g := ⟨⟨n0.Kind, n0.Path, n0.Value, ks.set i (t.kids ⟨i, hi⟩).sum⟩, kl f, [], [], mfold g i⟩) (by simpa using hks) (kl_len _) 2 (.int .i64 (IntKind.wrap .i64 (mfold g i + (t.kids ⟨i, hi⟩).many)))
        have hm : mfold g (i + 1) = IntKind.wrap .i64 (mfold g i + (t.kids ⟨i, hi⟩).many) := by
          have hg1 : (g ⟨i, hi⟩).1 = false := by rw [hg]; exact hni
          have hg2 : (g ⟨i, hi⟩).2 = (t.kids ⟨i, hi⟩).many := by rw [hg]
          rw [mfold_succ g hi, if_neg (by rw [hg1]; decide), hg2]
        rw [hm]
        exact hn
      · refine hJ1 _ _ ⟨_, rfl, hJ _ _ ⟨_, rfl, ⟨(by first | rfl | trivial | exact fun _ => trivial), by omega, by omega, _, by rw [List.length_set, hks], fun j hj => ?_, rfl⟩, by show 16 - (i + 1) < 16 - i; omega⟩⟩
        by_cases hji : j = i
        · subst hji
          rw [if_pos (by omega), List.getD, List.getElem?_set_self (by omega)]; rfl
        · rw [List.getD, List.getElem?_set_ne (fun e => hji e.symm), ← List.getD, hkj j hj]
          by_cases hlt : j < i
          · rw [if_pos hlt, if_pos (by omega)]
          · rw [if_neg hlt, if_neg (by omega)]
    · have hni : (t.kids ⟨i, hi⟩).isNil = true := by
        rw [← hnil]; simpa using hnone
      refine ⟨_, rfl, hJ1 _ _ ⟨_, rfl, hJ _ _ ⟨_, rfl, ⟨(by first | rfl | trivial | exact fun _ => trivial), by omega, by omega, ks, hks, fun j hj => ?_, ?_⟩, by show 16 - (i + 1) < 16 - i; omega⟩⟩⟩
      · rw [hkj j hj]
        by_cases hji : j = i
        · subst hji
          rw [if_neg (by omega), if_pos (by omega), sum_nil hni, e4 ⟨j, hj⟩ hni]
        · by_cases hlt : j < i
          · rw [if_pos hlt, if_pos (by omega)]
          · rw [if_neg hlt, if_neg (by omega)]
      · have hm : mfold g (i + 1) = mfold g i := by
          have hg1 : (g ⟨i, hi⟩).1 = true := by rw [hg]; exact hni
          rw [mfold_succ g hi, if_pos hg1]
        rw [hm]
  · have hi : i = 16 := by simp at hge; omega
    subst hi
    have hks' : ks = kl fun i => (t.kids i).sum := by
      apply kl_ext hks
      intro j hj
      have := hkj j hj
      rw [if_pos hj] at this
      rw [← this, List.getD, List.getElem?_eq_getElem (by omega)]
      rfl
    subst hks'
    intro J2 hJ2
    have hnode : (⟨n0.Kind, n0.Path, n0.Value, kl fun i => (t.kids i).sum⟩ : GApiNode) = t.node := by
      unfold T.node; rw [e1, e2, e3]
    rw [hnode]
    have hok := T.nodeOk hs
    have fin : ∀ m, m = t.many → J2 ⟨t.node, kl f, [], [], m⟩ h1 := by
      intro m hm
      refine hJ2 _ _ ⟨t.node, ?_, (encode_ok hok).mono ?_⟩
      · rw [kn_split]; exact kn_sub (node_len (kl_len _))
      rintro v h2 ⟨rfl, rfl⟩
      have hset : (cGTrieKnot ⟨t.node, kl f, [], [], m⟩).set 35 (S (encN t.node)) = cGTrieKnot ⟨t.node, kl f, t.enc, [], m⟩ := kn_set (g := ⟨t.node, kl f, [], [], m⟩) (kl_len _) (kl_len _) 0 _
      refine ⟨_, _, rfl, by rw [kn_len (kl_len _) (kl_len _)]; decide, t.node, ?_, (ndigest_ok hok hK).mono ?_⟩
      · rw [hset, kn_split]; exact kn_sub (node_len (kl_len _))
      rintro v h3 ⟨rfl, rfl⟩
      have hset2 : (cGTrieKnot ⟨t.node, kl f, t.enc, [], m⟩).set 36 (S (sumN t.node)) = cGTrieKnot ⟨t.node, kl f, t.enc, t.sum, t.many⟩ := by
        rw [sum_eq ht, ← hm]
        exact kn_set (g := ⟨t.node, kl f, t.enc, [], m⟩) (kl_len _) (kl_len _) 1 _
      rw [hset]
      refine ⟨_, rfl, by rw [kn_len (kl_len _) (kl_len _)]; decide, fun b hb => ?_⟩
      rw [hset2]
      have hle := Heap.le_set (h := h3) (Obj.cells ⟨cGTrieKnot ⟨t.node, kl f, t.enc, t.sum, t.many⟩⟩ 164 (0, 0)) hb
      exact ⟨hle, _, rfl, (isK_iff ht).2 ⟨b, 164, f, rfl, Heap.set_same _ _ _, fun i => isK_le hle (hf i)⟩⟩
    have hmany := many_eq ht
    rw [← hg, mfold_end] at hmany
    refine ⟨fun hv => ⟨mfold g 16, kn_tail (i := 2) (kl_len _) (kl_len _), by rw [kn_len (kl_len _) (kl_len _)]; decide, ⟨t.node, kl f, [], [], IntKind.wrap .i64 (mfold g 16 + 1)⟩, ?_, fin _ ?_⟩, fun hv => ⟨⟨t.node, kl f, [], [], mfold g 16⟩, rfl, fin _ ?_⟩⟩
    · exact kn_set (g := ⟨t.node, kl f, [], [], mfold g 16⟩) (kl_len _) (kl_len _) 2 _
    · have hv : ¬ t.val = [] := by rw [e3] at hv; simpa using hv
      rw [hmany, if_neg hv]
    · have hv : t.val = [] := by rw [e3] at hv; simpa using hv
      rw [hmany, if_pos hv]

theorem rep_getD (i : Nat) : (List.replicate 16 ([] : Bs)).getD i [] = [] := by
  rw [List.getD, List.getElem?_replicate]; split <;> rfl
theorem leaf_ok {h : Heap} {p v : Bs} (hp : p.length ≤ 1048576) (hv : v.length ≤ 1048576) (hK : KH h) : Spec Tryz.prog 249 [S p, S v] h (KPost h (.leaf p v)) := by
  apply ok249
  unfold VC249
  have e : (pv (kl fun _ : Fin 16 => (none : Option Addr))) = List.replicate 16 (Value.pointer none) := by rw [← kl_rep]; rfl
  have := tied_ok (h := h) (t := .leaf p v) rfl ⟨hp, hv⟩ (f := fun _ => none) (fun _ => rfl) (n0 := ⟨1, p, v, List.replicate 16 []⟩) rfl rfl rfl rfl (fun i _ => rep_getD i.val) hK
  rw [e] at this
  refine ⟨rfl, this.mono ?_⟩
  rintro w h' ⟨hle, q, rfl, hq⟩
  exact ⟨q, rfl, hle, q, rfl, hq⟩
theorem branchK_ok {h : Heap} {v : Bs} {ks : Fin 16 → T} {f : Fin 16 → Option Addr} (hv : v.length ≤ 1048576) (hf : ∀ i, isK h (ks i) (f i)) (hK : KH h) : Spec Tryz.prog 250 [S v, .agg ⟨pv (kl f)⟩] h (KPost h (.br v ks)) := by
  apply ok250
  unfold VC250
  have := tied_ok (h := h) (t := .br v ks) rfl ⟨by simp [T.path], hv⟩ (f := f) hf (n0 := ⟨3, [], v, List.replicate 16 []⟩) rfl rfl rfl rfl (fun i _ => rep_getD i.val) hK
  refine ⟨by rw [List.length_map, kl_len], this.mono ?_⟩
  rintro w h' ⟨hle, q, rfl, hq⟩
  exact ⟨q, rfl, hle, q, rfl, hq⟩
theorem ext_ok {h : Heap} {p : Bs} {k : T} {q : Option Addr} (hp : p.length ≤ 1048576) (hk : isK h k q) (hK : KH h) :
    Spec Tryz.prog 255 [.agg ⟨cGApiNode ⟨2, p, [], List.replicate 16 []⟩⟩, .agg ⟨Value.pointer q :: List.replicate 15 (Value.pointer none)⟩] h (KPost h (.ext p k)) := by
  have e : (pv (kl fun i : Fin 16 => if i = 0 then q else (none : Option Addr))) = Value.pointer q :: List.replicate 15 (Value.pointer none) := by rw [← kl_cons]; rfl
  have := tied_ok (h := h) (t := .ext p k) rfl ⟨hp, by simp [T.val]⟩ (f := fun i => if i = 0 then q else none) (fun i => by
    rw [kids_ext]
    by_cases hi : i = 0
    · rw [if_pos hi, if_pos hi]; exact hk
    · rw [if_neg hi, if_neg hi]; rfl) (n0 := ⟨2, p, [], List.replicate 16 []⟩) rfl rfl rfl rfl (fun i _ => rep_getD i.val) hK
  rw [e] at this
  exact this
end Go.Vw
