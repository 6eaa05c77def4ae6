/-
  What the functions of 'node' come to: which node may be; a node as bytes; its sum. What the functions of 'node' come to: may it be; its bytes; its sum. What the functions of 'node' come to: a node's bytes; its sum. What the functions of 'node' come to: a node's sum; a node out of bytes.
-/
import Derived.Test.YtomcnpeeelhpcaaGreatDoorPac
import Derived.Test.YtomcnpeeelhpcaaGreatDoorPad
namespace Go.Vw
open Go Go.Proofs

theorem rd_of_rdn {h : Heap} {a : Addr} {n i : Nat} {l : List Value} (hr : rdn h a n = some l) (hi : i < n) : rd h (a.add i) = l[i]? := by
  have hl := rdn_len hr
  have ha := rdn_nospot hr
  rw [ha] at hr ⊢
  rw [add_mk]
  unfold rdn at hr
  unfold rd
  dsimp only at hr ⊢
  split at hr
  · rename_i c e fr hb
    rw [if_neg (by simp)] at hr
    rw [if_neg (by simp)]
    split at hr
    · injection hr with hr
      subst hr
      rw [List.getElem?_take_of_lt hi, List.getElem?_drop, Array.getElem?_toList]
    · cases hr
  · cases hr

def NodeOk (n : GApiNode) : Prop := n.Kids.length = 16 ∧ n.Path.length ≤ 1048576 ∧ n.Value.length ≤ 1048576 ∧ ∀ s ∈ n.Kids, s.length ≤ 1048576
abbrev sv (l : List (List UInt8)) : List Value := l.map fun s => S s
theorem node_len {n : GApiNode} (h : n.Kids.length = 16) : (cGApiNode n).length = 19 := by
  simp [h]
theorem node_sub {n : GApiNode} (h : n.Kids.length = 16) : sub (cGApiNode n) 3 16 = some (sv n.Kids) := by
  unfold sub
  rw [if_pos (by rw [node_len h]; decide)]
  show some (List.take 16 (n.Kids.map fun s => S s)) = _
  rw [List.take_of_length_le (by rw [List.length_map, h]; decide)]
theorem ng {l : List (List UInt8)} {i : Nat} (h : i < l.length) : (sv l)[i * 1]? = some (S (l.getD i [])) := by
  rw [Nat.mul_one]
  unfold sv
  rw [List.getElem?_map, List.getElem?_eq_getElem h]
  simp [List.getD, List.getElem?_eq_getElem h]
theorem take_succ_getD {α : Type} {l : List α} {i : Nat} {d : α} (h : i < l.length) : l.take (i + 1) = l.take i ++ [l.getD i d] := by
  rw [List.take_add_one, List.getElem?_eq_getElem h]
  simp [List.getD, List.getElem?_eq_getElem h]

theorem kids_ok {n : GApiNode} (hn : n.Kids.length = 16) {h : Heap} : Spec Tryz.prog 247 [.agg ⟨cGApiNode n⟩] h (fun v h' => ∃ r, v = .slice r.a r.len r.cap ∧ Grow h h' r 1 (sv (kidsN n))) := by
  apply ok247
  unfold VC247
  refine ⟨n.Kids, node_sub hn, ?_⟩
  refine ⟨fun sl n1 h1 => (0 ≤ n1 ∧ n1 ≤ 16 ∧ Grow h h1 sl 1 (sv ((n.Kids.take n1.toNat).filter fun s => !(s == []))), 16 - n1.toNat), ⟨by decide, by decide, ⟨Heap.le_refl _, rfl, Nat.le_refl _, .inl ⟨rfl, rfl⟩⟩⟩, ?_⟩
  rintro sl n1 h1 ⟨h0, h16, g⟩
  obtain ⟨i, rfl⟩ : ∃ i : Nat, n1 = i := ⟨n1.toNat, by omega⟩
  rw [Int.toNat_natCast] at g
  refine ⟨fun hlt J hJ => ?_, fun hge => ?_⟩
  · have hi : i < 16 := by simp at hlt; omega
    have e4 : IntKind.wrap .i64 ((i : Int) + 1) = ((i + 1 : Nat) : Int) := by rw [wrap64 (by omega) (by omega)]; omega
    rw [e4] at hJ
    simp only [Int.toNat_natCast] at hJ ⊢
    have hgl : sl.len ≤ 16 := by
      have h1 := g.2.1
      rw [List.length_map, Nat.mul_one] at h1
      have h2 := List.length_filter_le (fun s => !(s == [])) (n.Kids.take i)
      rw [List.length_take] at h2
      omega
    refine ⟨⟨by omega, by omega⟩, _, ng (by omega), fun J1 hJ1 => ⟨fun hne => ?_, fun he => ?_⟩⟩
    · refine ⟨rfl, _, g.row, by omega, by omega, (g.fits (m := 1) rfl).1, (g.fits (m := 1) rfl).2, fun r h2 happ => ?_⟩
      refine hJ1 _ _ (hJ _ _ ⟨⟨by omega, by omega, ?_⟩, by show 16 - (i + 1) < 16 - i; omega⟩)
      have g2 := g.app (m := 1) (ys := [S (n.Kids.getD i [])]) rfl happ
      rw [take_succ_getD (d := []) (by omega), List.filter_append, sv, List.map_append]
      rw [List.filter_cons_of_pos (p := fun s => !(s == [])) hne]
      exact g2
    · refine hJ1 _ _ (hJ _ _ ⟨⟨by omega, by omega, ?_⟩, by show 16 - (i + 1) < 16 - i; omega⟩)
      rw [take_succ_getD (d := []) (by omega), List.filter_append, sv, List.map_append, List.filter_cons_of_neg (p := fun s => !(s == [])) (by rw [he]; decide)]
      simpa using g
  · have hi : i = 16 := by simp at hge; omega
    subst hi
    rw [List.take_of_length_le (by omega)] at g
    exact ⟨sl, rfl, g⟩

theorem sums_ok {l : Sl} {ls : List (List UInt8)} {h : Heap} (hr : rowOf h l.a l.len = some (sv ls)) (hl : l.len ≤ 1048576) (hls : ∀ s ∈ ls, s.length ≤ 1048576) :
    Spec Tryz.prog 405 [.slice l.a l.len l.cap] h (fun v h' => h' = h ∧ v = .bool (sumsOk ls)) := by
  apply ok405
  unfold VC405
  have hlen : ls.length = l.len := by
    cases hla : l.a with
    | none =>
      rw [hla] at hr
      unfold rowOf at hr
      dsimp only at hr
      split at hr
      · rename_i h0
        injection hr with hr
        have := congrArg List.length hr
        rw [h0]
        simpa using this.symm
      · cases hr
    | some a =>
      rw [hla] at hr
      have := rdn_len hr
      simpa using this
  refine ⟨fun n h1 => (h1 = h ∧ 0 ≤ n ∧ n ≤ l.len ∧ (ls.take n.toNat).all (fun s => s.length == 32) = true, l.len - n.toNat), ⟨rfl, by omega, by omega, rfl⟩, ?_⟩
  rintro n h1 ⟨rfl, h0, hn, hall⟩
  obtain ⟨i, rfl⟩ : ∃ i : Nat, n = i := ⟨n.toNat, by omega⟩
  rw [Int.toNat_natCast] at hall
  refine ⟨fun hlt => ?_, fun hge => ?_⟩
  · have hi : i < l.len := by simp at hlt; omega
    have e4 : IntKind.wrap .i64 ((i : Int) + 1) = ((i + 1 : Nat) : Int) := by rw [wrap64 (by omega) (by omega)]; omega
    rw [e4]
    simp only [Int.toNat_natCast]
    cases hla : l.a with
    | none =>
      rw [hla] at hr
      unfold rowOf at hr
      dsimp only at hr
      rw [if_neg (by omega)] at hr
      cases hr
    | some a =>
      rw [hla] at hr
      have hs : ls.getD i [] ∈ ls := by
        have : i < ls.length := by omega
        simp [List.getD, List.getElem?_eq_getElem this]
      refine ⟨⟨by omega, by omega⟩, a, rfl, ls.getD i [], by rw [rd_of_rdn hr (by omega)]; exact ng (by omega), fun hne => ⟨(by first | rfl | trivial | exact fun _ => trivial), ?_⟩, fun heq => ⟨⟨(by first | rfl | trivial | exact fun _ => trivial), by omega, by omega, ?_⟩, by show l.len - (i + 1) < l.len - i; omega⟩⟩
      · congr 1
        symm
        unfold sumsOk
        rw [List.all_eq_false]
        refine ⟨_, hs, ?_⟩
        intro hc
        have hc : (ls.getD i []).length = 32 := by simpa using hc
        rw [hc] at hne
        simp at hne
      · rw [take_succ_getD (d := []) (by omega), List.all_append, hall]
        have heq : ((ls.getD i []).length : Int) = 32 := by simpa [bne] using heq
        have : (ls.getD i []).length = 32 := by omega
        simp only [List.all_cons, List.all_nil, this]
        rfl
  · have hi : i = l.len := by simp at hge; omega
    subst hi
    rw [List.take_of_length_le (by omega)] at hall
    exact ⟨rfl, by rw [sumsOk, hall]⟩

theorem path_ok {p : List UInt8} (hp : p.length ≤ 1048576) {least : Nat} (hl : least ≤ 1048576) {h : Heap} : Spec Tryz.prog 404 [S p, .int .i64 least] h (fun v h' => h' = h ∧ v = .bool (pathOk p least)) := by
  apply ok404
  unfold VC404
  intro J hJ
  refine (fit_ok (by omega)).mono ?_
  rintro v h1 ⟨rfl, rfl⟩
  refine ⟨_, rfl, fun hb => ⟨fun hge => hJ _ _ ⟨rfl, ?_⟩, fun hlt => hJ _ _ ⟨rfl, ?_⟩⟩, fun hb => hJ _ _ ⟨rfl, ?_⟩⟩
  · have hge : least ≤ p.length := by simp at hge; omega
    rw [pathOk, hb]
    congr 1
    simp [hge]
    omega
  · have hlt : ¬ least ≤ p.length := by simp at hlt; omega
    rw [pathOk, hb]
    simp [hlt]
  · rw [pathOk, hb]
    rfl
end Go.Vw
namespace Go.Vw
open Go Go.Proofs

theorem sv_inj {l m : List (List UInt8)} (h : sv l = sv m) : l = m := by
  unfold sv at h
  have : ∀ (l m : List (List UInt8)), (l.map fun s => S s) = (m.map fun s => S s) → l = m := by
    intro l
    induction l with
    | nil => intro m h; cases m with | nil => rfl | cons y m => cases h
    | cons x l ih =>
      intro m h
      cases m with
      | nil => cases h
      | cons y m =>
        rw [List.map_cons, List.map_cons] at h
        injection h with h1 h2
        injection h1 with h1
        injection h1 with h1
        injection h1 with h1
        rw [h1, ih m h2]
  exact this l m h
theorem S_inj {a b : List UInt8} (h : S a = S b) : a = b := by
  injection h with h1
  injection h1 with h1
  injection h1 with h1

theorem check_ok {n : GApiNode} (hn : NodeOk n) {h : Heap} : Spec Tryz.prog 386 [.agg ⟨cGApiNode n⟩] h (fun v h' => h' = h ∧ v = .int .i64 (if checkN n then 0 else 80)) := by
  obtain ⟨hk, hp, hv, hks⟩ := hn
  apply Spec.forget
  apply ok386
  unfold VC386
  refine ⟨node_len hk, (kids_ok hk).mono ?_⟩
  rintro v h1 ⟨sl, rfl, g⟩
  refine ⟨sl, rfl, fun b hb J hJ J1 hJ1 => ?_⟩
  have fin : ∀ h2, h.le h2 → J1 (checkN n) h2 := by
    intro h2 hle
    refine hJ1 _ _ (hJ _ _ ⟨fun hc => ⟨hle, ?_⟩, fun hc => ⟨hle, ?_⟩⟩)
    · have : checkN n = false := by simpa using hc
      rw [this]; rfl
    · have : checkN n = true := by simpa using hc
      rw [this]; rfl
  have hle1 : h.le (h1.set b (Obj.cells ⟨cGApiNode n⟩ 161 (0, 0))) := Heap.le_trans g.1 (Heap.le_set _ hb)
  have hat : (h1.set b (Obj.cells ⟨cGApiNode n⟩ 161 (0, 0))) b = some (Obj.cells ⟨cGApiNode n⟩ 161 (0, 0)) := Heap.set_same _ _ _
  have hrk : rdn (h1.set b (Obj.cells ⟨cGApiNode n⟩ 161 (0, 0))) ⟨b, 3, none⟩ 16 = some (sv n.Kids) := by
    rw [rdn_of hat (by rw [node_len hk]; decide)]
    show some (List.take 16 (n.Kids.map fun s => S s)) = _
    rw [List.take_of_length_le (by rw [List.length_map, hk]; decide)]
  have hr1 : rd (h1.set b (Obj.cells ⟨cGApiNode n⟩ 161 (0, 0))) ⟨b, 1, none⟩ = some (S n.Path) := rd_of hat
  have hr2 : rd (h1.set b (Obj.cells ⟨cGApiNode n⟩ 161 (0, 0))) ⟨b, 2, none⟩ = some (S n.Value) := rd_of hat
  have dle : ∀ l : List UInt8, decide ((l.length : Int) ≤ 32) = decide (l.length ≤ 32) := fun l => by
    apply decide_eq_decide.2; omega
  refine ⟨fun hkd J2 hJ2 => ?_, fun hkd J3 hJ3 => ⟨fun hkd2 J4 hJ4 => ?_, fun hkd2 J5 hJ5 => ⟨fun hkd3 => ?_, fun hkd3 => ?_⟩⟩⟩
  · have hkd : n.Kind = 1 := by simpa using hkd
    have hc : checkN n = (n.Kids == empties && pathOk n.Path 0 && !(n.Value == []) && decide (n.Value.length ≤ 32)) := by
      unfold checkN; rw [if_pos hkd]
    have fin2 : ∀ h2 c, h.le h2 → checkN n = c → J2 c h2 := fun h2 c hle hc => hJ2 _ _ (hc ▸ fin h2 hle)
    refine ⟨n.Kids, hrk, rfl, n.Kids, empties, rfl, rfl, ⟨hk, rfl⟩, fun he => ⟨n.Path, hr1, (path_ok hp (by decide)).mono ?_⟩, fun he => fin2 _ _ hle1 (by rw [hc, he]; rfl)⟩
    rintro v h3 ⟨rfl, rfl⟩
    refine ⟨_, rfl, fun hpo => ⟨n.Value, hr2, fun hne => ⟨n.Value, hr2, fin2 _ _ hle1 ?_⟩, fun hne => fin2 _ _ hle1 ?_⟩, fun hpo => fin2 _ _ hle1 ?_⟩
    · rw [hc, he, hpo, hne, dle]; rfl
    · rw [hc, he, hpo, hne]; rfl
    · rw [hc, he, hpo]; rfl
  · have hkd : ¬ n.Kind = 1 := by simpa using hkd
    have hkd2 : n.Kind = 2 := by simpa using hkd2
    have hc : checkN n = (n.Kids == (n.Kids.headD [] :: List.replicate 15 []) && sumsOk [n.Kids.headD []] && pathOk n.Path 1 && n.Value == []) := by
      unfold checkN; rw [if_neg hkd, if_pos hkd2]
    have fin2 : ∀ h2 c, h.le h2 → checkN n = c → J4 c h2 := fun h2 c hle hc => hJ4 _ _ (hJ3 _ _ (hc ▸ fin h2 hle))
    have hr3 : rd (h1.set b (Obj.cells ⟨cGApiNode n⟩ 161 (0, 0))) ⟨b, 3 + 0 * 1, none⟩ = some (S (n.Kids.headD [])) := by
      rw [rd_of hat]
      show (n.Kids.map fun s => S s)[0]? = _
      cases hK : n.Kids with
      | nil => rw [hK] at hk; cases hk
      | cons x l => rfl
    refine ⟨n.Kids, hrk, ⟨by decide, by decide⟩, _, hr3, rfl, n.Kids, n.Kids.headD [] :: List.replicate 15 [], rfl, rfl, ⟨hk, rfl⟩, fun he => ⟨by decide, ⟨by decide, by decide, by decide⟩, fun _ => rfl, ?_⟩, fun he => fin2 _ _ hle1 (by rw [hc, he]; rfl)⟩
    have hrow : rowOf (h1.set b (Obj.cells ⟨cGApiNode n⟩ 161 (0, 0))) (some ⟨b, 3, none⟩) 1 = some (sv [n.Kids.headD []]) := by
      show rdn _ _ _ = _
      rw [rdn_of hat (by rw [node_len hk]; decide)]
      show some (List.take 1 (n.Kids.map fun s => S s)) = _
      cases hK : n.Kids with
      | nil => rw [hK] at hk; cases hk
      | cons x l => rfl
    refine (sums_ok (l := ⟨some ⟨b, 3, none⟩, 1, 16⟩) hrow (show 1 ≤ 1048576 by decide) ?_).mono ?_
    · intro s hs
      rw [List.mem_singleton] at hs
      subst hs
      cases hK : n.Kids with
      | nil => simp
      | cons x l => exact hks x (by rw [hK]; exact List.mem_cons_self ..)
    rintro v h3 ⟨rfl, rfl⟩
    refine ⟨_, rfl, fun hso => ⟨n.Path, hr1, (path_ok hp (by decide)).mono ?_⟩, fun hso => fin2 _ _ hle1 (by rw [hc, he, hso]; rfl)⟩
    rintro v h3 ⟨rfl, rfl⟩
    refine ⟨_, rfl, fun hpo => ⟨n.Value, hr2, fin2 _ _ hle1 ?_⟩, fun hpo => fin2 _ _ hle1 ?_⟩
    · rw [hc, he, hso, hpo]; rfl
    · rw [hc, he, hso, hpo]; rfl
  · have hkd : ¬ n.Kind = 1 := by simpa using hkd
    have hkd2 : ¬ n.Kind = 2 := by simpa using hkd2
    have hkd3 : n.Kind = 3 := by simpa using hkd3
    have hc : checkN n = (n.Path == [] && sumsOk (kidsN n) && decide (2 ≤ (kidsN n).length + (if n.Value = [] then 0 else 1)) && decide (n.Value.length ≤ 32)) := by
      unfold checkN; rw [if_neg hkd, if_neg hkd2, if_pos hkd3]
    have hkl : (kidsN n).length = sl.len := by
      have := g.2.1
      rw [List.length_map, Nat.mul_one] at this
      exact this
    have hkl16 : (kidsN n).length ≤ 16 := by
      have := List.length_filter_le (fun s => !(s == [])) n.Kids
      rw [hk] at this
      exact this
    refine ⟨n.Value, hr2, fun J6 hJ6 => ?_⟩
    have fin6 : ∀ m : Int, m = ((kidsN n).length + (if n.Value = [] then 0 else 1) : Nat) → J6 m (h1.set b (Obj.cells ⟨cGApiNode n⟩ 161 (0, 0))) := by
      intro m hm
      refine hJ6 _ _ fun J7 hJ7 => ?_
      have fin7 : ∀ h2 c, h.le h2 → checkN n = c → J7 c h2 := fun h2 c hle hc => hJ7 _ _ (hJ5 _ _ (hJ3 _ _ (hc ▸ fin h2 hle)))
      refine ⟨n.Path, hr1, fun he => ?_, fun he => fin7 _ _ hle1 (by rw [hc, he]; rfl)⟩
      have hrow := rowOf_le (Heap.le_set (h := h1) (Obj.cells ⟨cGApiNode n⟩ 161 (0, 0)) hb) g.row
      rw [Nat.mul_one] at hrow
      refine (sums_ok hrow (by omega) ?_).mono ?_
      · intro s hs
        exact hks s (List.mem_filter.1 hs).1
      rintro v h3 ⟨rfl, rfl⟩
      refine ⟨_, rfl, fun hso => ⟨fun h2 => ⟨n.Value, hr2, fin7 _ _ hle1 ?_⟩, fun h2 => fin7 _ _ hle1 ?_⟩, fun hso => fin7 _ _ hle1 (by rw [hc, he, hso]; rfl)⟩
      · have : decide (2 ≤ (kidsN n).length + (if n.Value = [] then 0 else 1)) = true := by
          simp only [ge_iff_le, decide_eq_true_eq] at h2 ⊢
          omega
        rw [hc, he, hso, this, dle]; rfl
      · have : decide (2 ≤ (kidsN n).length + (if n.Value = [] then 0 else 1)) = false := by
          simp only [ge_iff_le, decide_eq_false_iff_not] at h2 ⊢
          omega
        rw [hc, he, hso, this]; rfl
    refine ⟨fun hne => fin6 _ ?_, fun hne => fin6 _ ?_⟩
    · have hne : ¬ n.Value = [] := by simpa using hne
      rw [if_neg hne, wrap64 (by omega) (by omega)]; omega
    · have hne : n.Value = [] := by simpa using hne
      rw [if_pos hne]; omega
  · have hkd : ¬ n.Kind = 1 := by simpa using hkd
    have hkd2 : ¬ n.Kind = 2 := by simpa using hkd2
    have hkd3 : ¬ n.Kind = 3 := by simpa using hkd3
    have hc : checkN n = false := by
      unfold checkN; rw [if_neg hkd, if_neg hkd2, if_neg hkd3]
    exact hJ5 _ _ (hJ3 _ _ (hc ▸ fin _ hle1))

theorem or64 {a b : Nat} (ha : a < 9223372036854775808) (hb : b < 9223372036854775808) (hab : a ||| b < 9223372036854775808) : bitsV .or .i64 (a : Int) (b : Int) = ((a ||| b : Nat) : Int) := by
  have k1 : a < 2 ^ 64 := Nat.lt_trans ha (of_decide_eq_true rfl)
  have k2 : b < 2 ^ 64 := Nat.lt_trans hb (of_decide_eq_true rfl)
  have hw := wrap64 (n := ((a ||| b : Nat) : Int)) (by omega) (by omega)
  have e : bitsV .or .i64 (a : Int) (b : Int) = IntKind.wrap .i64 (((BitVec.ofInt 64 (a : Int) ||| BitVec.ofInt 64 (b : Int)).toNat : Nat) : Int) := rfl
  rw [e, BitVec.ofInt_natCast, BitVec.ofInt_natCast, BitVec.toNat_or, BitVec.toNat_ofNat, BitVec.toNat_ofNat, Nat.mod_eq_of_lt k1, Nat.mod_eq_of_lt k2, hw]
theorem or_pow {a k : Nat} (hk : (2 * a + 1) * 2 ^ k < 9223372036854775808) : bitsV .or .i64 ((2 * a * 2 ^ k : Nat) : Int) ((2 ^ k : Nat) : Int) = (((2 * a + 1) * 2 ^ k : Nat) : Int) := by
  have e1 : 2 * a * 2 ^ k ||| 2 ^ k = (2 * a + 1) * 2 ^ k := by
    have h1 : 2 * a ||| 1 = 2 * a + 1 := by
      have := Nat.shiftLeft_add_eq_or_of_lt (i := 1) (b := 1) (by decide) a
      rw [Nat.shiftLeft_eq] at this
      rw [Nat.mul_comm 2 a]
      exact this.symm
    have h2 := Nat.shiftLeft_or_distrib (a := 2 * a) (b := 1) (i := k)
    rw [Nat.shiftLeft_eq, Nat.shiftLeft_eq, Nat.shiftLeft_eq, Nat.one_mul, h1] at h2
    exact h2.symm
  have e2 : (2 * a + 1) * 2 ^ k = 2 * a * 2 ^ k + 2 ^ k := by rw [Nat.add_mul, Nat.one_mul]
  have hk' := hk
  rw [e2] at hk'
  rw [or64 (Nat.lt_of_le_of_lt (Nat.le_add_right _ _) hk') (Nat.lt_of_le_of_lt (Nat.le_add_left _ _) hk') (by rw [e1]; exact hk), e1]
theorem bitsL_snoc (l : List Bs) (s : Bs) : bitsL (l ++ [s]) = 2 * bitsL l + if s = [] then 0 else 1 := by simp [bitsL]
theorem bitsL_lt : ∀ l : List Bs, bitsL l < 2 ^ l.length := by
  intro l
  have : ∀ (l : List Bs) (a n : Nat), a < 2 ^ n → l.foldl (fun b s => 2 * b + if s = [] then 0 else 1) a < 2 ^ (n + l.length) := by
    intro l
    induction l with
    | nil => intro a n h; exact h
    | cons x l ih =>
      intro a n h
      rw [List.foldl_cons, List.length_cons, show n + (l.length + 1) = (n + 1) + l.length by omega]
      apply ih
      rw [Nat.pow_succ]
      split <;> omega
  have h := this l 0 0 (by decide)
  rwa [Nat.zero_add] at h
end Go.Vw
namespace Go.Vw
open Go Go.Proofs

theorem check_kind {n : GApiNode} (h : checkN n = true) : n.Kind = 1 ∨ n.Kind = 2 ∨ n.Kind = 3 := by
  unfold checkN at h
  split at h
  · exact .inl ‹_›
  · split at h
    · exact .inr (.inl ‹_›)
    · split at h
      · exact .inr (.inr ‹_›)
      · cases h
theorem bitsL_step {l : List Bs} {i : Nat} (hi : i < 16) (hl : l.length = 16) : bitsL (l.take (i + 1)) * 2 ^ (16 - (i + 1)) = (2 * bitsL (l.take i) + if l.getD i [] = [] then 0 else 1) * 2 ^ (15 - i) := by
  rw [take_succ_getD (d := []) (by omega), bitsL_snoc, show 16 - (i + 1) = 15 - i by omega]
theorem bitsL_bound {l : List Bs} {i : Nat} (hi : i ≤ 16) (hl : l.length = 16) : bitsL (l.take i) * 2 ^ (16 - i) < 65536 := by
  have h := bitsL_lt (l.take i)
  rw [List.length_take, hl, Nat.min_eq_left hi] at h
  have : bitsL (l.take i) * 2 ^ (16 - i) < 2 ^ i * 2 ^ (16 - i) := Nat.mul_lt_mul_of_pos_right h (Nat.pow_pos (by decide))
  rw [← Nat.pow_add, show i + (16 - i) = 16 by omega] at this
  exact this
theorem flatten_len : ∀ (l : List Bs), (∀ s ∈ l, s.length ≤ 1048576) → l.flatten.length ≤ l.length * 1048576
  | [], _ => by simp
  | x :: l, h => by
    have h1 := flatten_len l (fun s hs => h s (List.mem_cons_of_mem _ hs))
    have h2 := h x (List.mem_cons_self ..)
    rw [List.flatten_cons, List.length_append, List.length_cons, Nat.add_mul]
    omega

theorem pk_len (p : List UInt8) (b : Bool) : (pk p b).1.length ≤ p.length + 1 := by
  unfold pk
  split
  · cases p with
    | nil => simp
    | cons x r =>
      have h1 := jn_len r
      have h2 := jn_len (x :: r)
      dsimp only
      split
      · simp only [List.length_cons] at *; omega
      · simp only [List.length_cons] at *; omega
  · simp
set_option maxHeartbeats 1000000 in
theorem encode_ok {n : GApiNode} (hn : NodeOk n) {h : Heap} : Spec Tryz.prog 323 [.agg ⟨cGApiNode n⟩] h (fun v h' => h' = h ∧ v = .tuple ⟨[S (encN n), .int .i64 (if checkN n then 0 else 80)]⟩) := by
  have hn' := hn
  obtain ⟨hk, hp, hv, hks⟩ := hn'
  apply Spec.forget
  apply ok323
  unfold VC323
  refine ⟨node_len hk, (check_ok hn).mono ?_⟩
  rintro v h1 ⟨rfl, rfl⟩
  cases hc : checkN n with
  | false =>
    refine ⟨_, rfl, fun _ => ⟨Heap.le_refl _, ?_⟩, fun hz => by simp at hz⟩
    unfold encN
    rw [hc]; rfl
  | true =>
    refine ⟨_, rfl, fun hz => by simp at hz, fun _ => ?_⟩
    have hkind := check_kind hc
    have hbyte : some [Value.int .u8 (IntKind.wrap .u8 n.Kind)] = some ([UInt8.ofNat n.Kind.toNat].map byteV) := by
      rcases hkind with h | h | h <;> rw [h] <;> rfl
    refine ⟨_, hbyte, fun h3 => ?_, fun h3 => ?_⟩
    · have h3 : n.Kind = 3 := by simpa using h3
      refine ⟨n.Kids, node_sub hk, ?_⟩
      refine ⟨fun b i h2 => (h2 = h1 ∧ 0 ≤ i ∧ i ≤ 16 ∧ b = (bitsL (n.Kids.take i.toNat) * 2 ^ (16 - i.toNat) : Nat), 16 - i.toNat), ⟨rfl, by decide, by decide, by simp [bitsL]⟩, ?_⟩
      rintro b i h2 ⟨rfl, h0, h16, rfl⟩
      obtain ⟨i, rfl⟩ : ∃ j : Nat, i = j := ⟨i.toNat, by omega⟩
      rw [Int.toNat_natCast]
      refine ⟨fun hlt J hJ => ?_, fun hge => ?_⟩
      · have hi : i < 16 := by simp at hlt; omega
        have e4 : IntKind.wrap .i64 ((i : Int) + 1) = ((i + 1 : Nat) : Int) := by rw [wrap64 (by omega) (by omega)]; omega
        have e5 : IntKind.wrap .i64 ((15 : Int) - i) = ((15 - i : Nat) : Int) := by rw [wrap64 (by omega) (by omega)]; omega
        have hb1 := bitsL_bound (i := i + 1) (by omega) hk
        have hstep := bitsL_step hi hk
        rw [e4] at hJ
        rw [e5]
        simp only [Int.toNat_natCast] at hJ ⊢
        have hpow : (2 : Nat) ^ (15 - i) ≤ 32768 := Nat.pow_le_pow_right (n := 2) (by decide) (show 15 - i ≤ 15 by omega)
        have e6 : bitsL (n.Kids.take i) * 2 ^ (16 - i) = 2 * bitsL (n.Kids.take i) * 2 ^ (15 - i) := by
          rw [show 16 - i = (15 - i) + 1 by omega, Nat.pow_succ]
          rw [Nat.mul_comm (2 ^ (15 - i)) 2, ← Nat.mul_assoc, Nat.mul_comm (bitsL _) 2]
        have e7 : IntKind.wrap .i64 ((1 : Int) * 2 ^ (min (15 - i) 64)) = ((2 ^ (15 - i) : Nat) : Int) := by
          have e8 : ((2 : Int) ^ (15 - i)) = ((2 ^ (15 - i) : Nat) : Int) := by rw [Int.natCast_pow]; rfl
          rw [Nat.min_eq_left (by omega), Int.one_mul, e8]
          obtain ⟨P, hP⟩ : ∃ P, P = 2 ^ (15 - i) := ⟨_, rfl⟩
          rw [← hP] at hpow ⊢
          rw [wrap64 (by omega) (by omega)]
        refine ⟨⟨by omega, by omega⟩, _, ng (by omega), fun J1 hJ1 => ⟨fun hne => ⟨by omega, ?_⟩, fun he => ?_⟩⟩
        · have hne : ¬ n.Kids.getD i [] = [] := by simpa using hne
          rw [if_neg hne] at hstep
          rw [e7, e6, or_pow (by rw [← hstep]; omega)]
          exact hJ1 _ _ (hJ _ _ ⟨⟨(by first | rfl | trivial | exact fun _ => trivial), by omega, by omega, by rw [hstep]⟩, by show 16 - (i + 1) < 16 - i; omega⟩)
        · have he : n.Kids.getD i [] = [] := by simpa using he
          simp only [if_pos he, Nat.add_zero] at hstep
          rw [← e6] at hstep
          exact hJ1 _ _ (hJ _ _ ⟨⟨(by first | rfl | trivial | exact fun _ => trivial), by omega, by omega, by rw [hstep]⟩, by show 16 - (i + 1) < 16 - i; omega⟩)
      · have hi : i = 16 := by simp at hge; omega
        subst hi
        rw [List.take_of_length_le (by omega), Nat.sub_self, Nat.pow_zero, Nat.mul_one]
        have hbl := bitsL_lt n.Kids
        rw [hk] at hbl
        have hb2 : some [Value.int .u8 (IntKind.wrap .u8 (Int.fdiv ((bitsL n.Kids : Nat) : Int) 256)), Value.int .u8 (IntKind.wrap .u8 ((bitsL n.Kids : Nat) : Int))] = some ([UInt8.ofNat (bitsL n.Kids / 256), UInt8.ofNat (bitsL n.Kids)].map byteV) := by
          have w : ∀ x : Int, IntKind.wrap .u8 x = x % 256 := fun x => by simp [IntKind.wrap, IntKind.signed, IntKind.bits]
          rw [w, w, Int.fdiv_eq_ediv_of_nonneg _ (by omega)]
          simp [byteV]
        have hkl16 : (kidsN n).length ≤ 16 := by
          have := List.length_filter_le (fun s => !(s == [])) n.Kids
          rw [hk] at this
          exact this
        have hks' : ∀ s ∈ kidsN n, s.length ≤ 1048576 := fun s hs => hks s (List.mem_filter.1 hs).1
        refine ⟨_, hb2, by simp, node_len hk, (kids_ok hk).mono ?_⟩
        rintro v h3' ⟨sl, rfl, g⟩
        have hsl : (kidsN n).length = sl.len := by
          have := g.2.1
          rw [List.length_map, Nat.mul_one] at this
          exact this
        have hrow := g.row
        rw [Nat.mul_one] at hrow
        refine ⟨sl, rfl, ?_⟩
        refine ⟨fun l i h4 => (h4 = h3' ∧ 0 ≤ i ∧ i ≤ sl.len ∧ l = [UInt8.ofNat n.Kind.toNat] ++ [UInt8.ofNat (bitsL n.Kids / 256), UInt8.ofNat (bitsL n.Kids)] ++ ((kidsN n).take i.toNat).flatten, sl.len - i.toNat), ⟨rfl, by omega, by omega, by simp⟩, ?_⟩
        rintro l i h4 ⟨rfl, h0, hi, rfl⟩
        obtain ⟨i, rfl⟩ : ∃ j : Nat, i = j := ⟨i.toNat, by omega⟩
        rw [Int.toNat_natCast]
        have hfl : ((kidsN n).take i).flatten.length ≤ 16 * 1048576 := by
          have h1 := flatten_len ((kidsN n).take i) (fun s hs => hks' s (List.mem_of_mem_take hs))
          have h2 : ((kidsN n).take i).length ≤ 16 := by rw [List.length_take]; omega
          exact Nat.le_trans h1 (Nat.mul_le_mul_right _ h2)
        refine ⟨fun hlt => ?_, fun hge => ?_⟩
        · have hi : i < sl.len := by simp at hlt; omega
          have e4 : IntKind.wrap .i64 ((i : Int) + 1) = ((i + 1 : Nat) : Int) := by rw [wrap64 (by omega) (by omega)]; omega
          rw [e4]
          simp only [Int.toNat_natCast]
          cases hla : sl.a with
          | none =>
            rw [hla] at hrow
            unfold rowOf at hrow
            dsimp only at hrow
            rw [if_neg (by omega)] at hrow
            cases hrow
          | some a =>
            rw [hla] at hrow
            have hs : (kidsN n).getD i [] ∈ kidsN n := by
              have : i < (kidsN n).length := by omega
              simp [List.getD, List.getElem?_eq_getElem this]
            have := hks' _ hs
            refine ⟨⟨by omega, by omega⟩, a, rfl, (kidsN n).getD i [], by rw [rd_of_rdn hrow (by omega)]; exact ng (by omega), ?_, ⟨(by first | rfl | trivial | exact fun _ => trivial), by omega, by omega, ?_⟩, by show sl.len - (i + 1) < sl.len - i; omega⟩
            · simp only [List.length_append, List.length_cons, List.length_nil]; omega
            · rw [take_succ_getD (d := []) (by omega)]
              simp
        · have hi : i = sl.len := by simp at hge; omega
          subst hi
          refine (text_ok (by omega)).mono ?_
          rintro v h5 ⟨rfl, rfl⟩
          have htl := numT_len (n := n.Value.length) (by omega)
          refine ⟨_, rfl, ?_, g.1, ?_⟩
          · simp only [List.length_append, List.length_cons, List.length_nil, textT]; omega
          · unfold encN
            rw [hc, if_pos rfl, if_pos h3, List.take_of_length_le (by omega), h3]
            rfl
    · have h3 : ¬ n.Kind = 3 := by simpa using h3
      refine (pack_ok (by omega)).mono ?_
      rintro v h2 ⟨rfl, rfl⟩
      have hpk : ∀ b, (pk n.Path b).1.length ≤ 1048577 := fun b => by have := pk_len n.Path b; omega
      refine ⟨_, _, rfl, (text_ok (by have := hpk (n.Kind == 1); omega)).mono ?_⟩
      rintro v h2' ⟨rfl, rfl⟩
      have htl := numT_len (n := (pk n.Path (n.Kind == 1)).1.length) (by have := hpk (n.Kind == 1); omega)
      have hpk1 := hpk (n.Kind == 1)
      refine ⟨_, rfl, by simp only [List.length_cons, List.length_nil, textT, List.length_append]; omega, fun h1' => ?_, fun h1' => ?_⟩
      · have h1k : n.Kind = 1 := by simpa using h1'
        refine (text_ok (by omega)).mono ?_
        rintro v h2'' ⟨rfl, rfl⟩
        have htl2 := numT_len (n := n.Value.length) (by omega)
        refine ⟨_, rfl, by simp only [List.length_cons, List.length_nil, textT, List.length_append]; omega, Heap.le_refl _, ?_⟩
        unfold encN
        rw [hc, if_pos rfl, if_neg h3, if_pos h1k, h1k]
        rfl
      · have h1k : ¬ n.Kind = 1 := by simpa using h1'
        have h2k : n.Kind = 2 := by rcases hkind with h | h | h <;> first | exact h | exact absurd h h1k | exact absurd h h3
        have hb1 : (n.Kind == 1) = false := by simpa using h1'
        have hx : (cGApiNode n)[3 + 0 * 1]? = some (S (n.Kids.headD [])) ∧ (n.Kids.headD []).length ≤ 1048576 := by
          cases hK : n.Kids with
          | nil => rw [hK] at hk; cases hk
          | cons x l =>
            refine ⟨?_, hks x (by rw [hK]; exact List.mem_cons_self ..)⟩
            show (n.Kids.map fun s => S s)[0]? = _
            rw [hK]; rfl
        refine ⟨⟨by decide, by decide⟩, _, hx.1, by simp only [List.length_cons, List.length_nil, textT, List.length_append]; omega, Heap.le_refl _, ?_⟩
        unfold encN
        rw [hc, if_pos rfl, if_neg h3, if_neg h1k, hb1, h2k]
        rfl
end Go.Vw
namespace Go.Vw
open Go Go.Proofs

theorem textT_len {s : Bs} (h : s.length ≤ 4194304) : (textT s).length ≤ s.length + 9 := by
  have := numT_len (n := s.length) (by omega)
  simp only [textT, List.length_append]; omega
theorem encN_len {n : GApiNode} (hn : NodeOk n) : (encN n).length ≤ 33554432 := by
  obtain ⟨hk, hp, hv, hks⟩ := hn
  have htv := textT_len (s := n.Value) (by omega)
  have hpt := fun b => textT_len (s := (pk n.Path b).1) (by have := pk_len n.Path b; omega)
  have hpl := fun b => pk_len n.Path b
  have hh : (n.Kids.headD []).length ≤ 1048576 := by
    cases hK : n.Kids with
    | nil => simp
    | cons x l => exact hks x (by rw [hK]; exact List.mem_cons_self ..)
  have hf : (kidsN n).flatten.length ≤ 16 * 1048576 := by
    have h1 := flatten_len (kidsN n) (fun s hs => hks s (List.mem_filter.1 hs).1)
    have h2 : (kidsN n).length ≤ 16 := by
      have := List.length_filter_le (fun s => !(s == [])) n.Kids
      rw [hk] at this
      exact this
    exact Nat.le_trans h1 (Nat.mul_le_mul_right _ h2)
  unfold encN
  split
  · split
    · simp only [List.length_append, List.length_cons, List.length_nil]; omega
    · split
      · have := hpt true
        have := hpl true
        simp only [List.length_append, List.length_cons, List.length_nil]; omega
      · have := hpt false
        have := hpl false
        simp only [List.length_append, List.length_cons, List.length_nil]; omega
  · simp
def sumN (n : GApiNode) : Bs := if checkN n then sumT (encN n) else []
theorem ndigest_ok {n : GApiNode} (hn : NodeOk n) {h : Heap} (hK : KH h) : Spec Tryz.prog 324 [.agg ⟨cGApiNode n⟩] h (fun v h' => h' = h ∧ v = S (sumN n)) := by
  apply ok324
  unfold VC324
  refine ⟨node_len hn.1, (encode_ok hn).mono ?_⟩
  rintro v h1 ⟨rfl, rfl⟩
  have hl := encN_len hn
  refine ⟨_, _, rfl, fun hc => ⟨rfl, ?_⟩, fun hc => (digest_ok (by omega) hK (by decide) (by decide)).mono ?_⟩
  · unfold sumN
    cases hcn : checkN n with
    | true => rw [hcn] at hc; simp at hc
    | false => rfl
  · rintro v h2 ⟨rfl, rfl⟩
    refine ⟨_, _, rfl, rfl, ?_⟩
    unfold sumN
    cases hcn : checkN n with
    | true => rfl
    | false => rw [hcn] at hc; simp at hc

def nodeO (e : TypeId) (n : GApiNode) : Obj := .cells ⟨cGApiNode n⟩ e (0, 0)
theorem nodeO_wpath {h : Heap} {b : Nat} {e : TypeId} {n : GApiNode} (hb : h b = some (nodeO e n)) (p : Bs) : wr h ⟨b, 1, none⟩ [S p] = some (h.set b (nodeO e { n with Path := p })) := wr_of hb (by simp) _
theorem nodeO_wval {h : Heap} {b : Nat} {e : TypeId} {n : GApiNode} (hb : h b = some (nodeO e n)) (p : Bs) : wr h ⟨b, 2, none⟩ [S p] = some (h.set b (nodeO e { n with Value := p })) := wr_of hb (by simp) _
theorem nodeO_wkid {h : Heap} {b : Nat} {e : TypeId} {n : GApiNode} (hb : h b = some (nodeO e n)) {i : Nat} (hi : i < n.Kids.length) (p : Bs) : wr h ⟨b, 3 + i, none⟩ [S p] = some (h.set b (nodeO e { n with Kids := n.Kids.set i p })) := by
  rw [wr_of hb (by simp; omega)]
  congr 3
  show Array.mk (List.set (_ :: _ :: _ :: (n.Kids.map fun s => S s)) (3 + i) (S p)) = Array.mk (_ :: _ :: _ :: ((n.Kids.set i p).map fun s => S s))
  rw [show 3 + i = i + 1 + 1 + 1 by omega, List.set_cons_succ, List.set_cons_succ, List.set_cons_succ, List.map_set]
theorem nodeO_kind {h : Heap} {b : Nat} {e : TypeId} {n : GApiNode} (hb : h b = some (nodeO e n)) : rd h ⟨b, 0, none⟩ = some (.int .i64 n.Kind) := rd_of hb
theorem set_comm {h : Heap} {a b : Nat} (hab : a ≠ b) (o p : Obj) : (h.set a o).set b p = (h.set b p).set a o := by
  funext c
  unfold Heap.set
  by_cases h1 : c = a
  · subst h1
    rw [if_neg hab, if_pos rfl, if_pos rfl]
  · by_cases h2 : c = b
    · subst h2
      rw [if_pos rfl, if_neg h1, if_pos rfl]
    · rw [if_neg h2, if_neg h1, if_neg h1, if_neg h2]

theorem bits_test {s i : Nat} (hs : s < 65536) (hi : i < 16) : ((bitsV .and .i64 (Int.fdiv (s : Int) (2 ^ i)) 1 == 1) = bitAt s i) := by
  have e1 : Int.fdiv (s : Int) (2 ^ i) = ((s / 2 ^ i : Nat) : Int) := by
    rw [Int.fdiv_eq_ediv_of_nonneg _ (Int.le_of_lt (Int.pow_pos (by decide)))]
    rw [Int.natCast_ediv, Int.natCast_pow]; rfl
  have hq : s / 2 ^ i < 65536 := Nat.lt_of_le_of_lt (Nat.div_le_self _ _) hs
  obtain ⟨q, hqq⟩ : ∃ q, q = s / 2 ^ i := ⟨_, rfl⟩
  rw [e1]
  unfold bitAt
  rw [← hqq] at hq ⊢
  have e : bitsV .and .i64 (q : Int) 1 = IntKind.wrap .i64 (((BitVec.ofInt 64 (q : Int) &&& BitVec.ofInt 64 ((1 : Nat) : Int)).toNat : Nat) : Int) := rfl
  have k1 : q < 2 ^ 64 := Nat.lt_trans hq (of_decide_eq_true rfl)
  have k2 : 1 < 2 ^ 64 := of_decide_eq_true rfl
  have hm : q % 2 < 2 := Nat.mod_lt _ (by decide)
  rw [e, BitVec.ofInt_natCast, BitVec.ofInt_natCast, BitVec.toNat_and, BitVec.toNat_ofNat, BitVec.toNat_ofNat, Nat.mod_eq_of_lt k1, Nat.mod_eq_of_lt k2, Nat.and_one_is_mod, wrap64 (by omega) (by omega)]
  rcases Nat.mod_two_eq_zero_or_one q with h | h <;> rw [h] <;> rfl

theorem kidsR_good {bits : Nat} : ∀ (l : List Nat) (r : RdS), r.ok → (kidsR bits l r).2.ok ∧ (kidsR bits l r).2.s = r.s ∧ (kidsR bits l r).1.length = l.length ∧ ∀ s ∈ (kidsR bits l r).1, s.length ≤ r.s.length
  | [], r, ho => ⟨ho, rfl, rfl, fun s hs => by cases hs⟩
  | i :: l, r, ho => by
    unfold kidsR
    have hb := Bytes_good ho 32
    by_cases hbit : bitAt bits (15 - i) = true
    · rw [if_pos hbit]
      have ih := kidsR_good (bits := bits) l _ hb.1
      refine ⟨ih.1, ih.2.1.trans hb.2.1, by rw [List.length_cons, List.length_cons, ih.2.2.1], fun s hs => ?_⟩
      rcases List.mem_cons.1 hs with rfl | hs
      · exact hb.2.2
      · have := ih.2.2.2 s hs
        rw [hb.2.1] at this
        exact this
    · rw [if_neg hbit]
      have ih := kidsR_good (bits := bits) l _ ho
      refine ⟨ih.1, ih.2.1, by rw [List.length_cons, List.length_cons, ih.2.2.1], fun s hs => ?_⟩
      rcases List.mem_cons.1 hs with rfl | hs
      · simp
      · exact ih.2.2.2 s hs
theorem kidsR_pos {bits i : Nat} {l : List Nat} {r : RdS} (h : bitAt bits (15 - i) = true) : kidsR bits (i :: l) r = ((r.Bytes 32).1 :: (kidsR bits l (r.Bytes 32).2).1, (kidsR bits l (r.Bytes 32).2).2) := by
  conv => lhs; unfold kidsR
  rw [if_pos h]
theorem kidsR_neg {bits i : Nat} {l : List Nat} {r : RdS} (h : ¬ bitAt bits (15 - i) = true) : kidsR bits (i :: l) r = ([] :: (kidsR bits l r).1, (kidsR bits l r).2) := by
  conv => lhs; unfold kidsR
  rw [if_neg h]
theorem range_drop (i n : Nat) (h : i < n) : (List.range n).drop i = i :: (List.range n).drop (i + 1) := by
  rw [List.drop_eq_getElem_cons (by simpa using h)]
  simp

theorem branch_ok {h : Heap} {a b : Nat} {e e' : TypeId} {r : RdS} (hab : a ≠ b) (ha : h a = some (rdO e r)) (hb : h b = some (nodeO e' ⟨3, [], [], empties⟩)) (ho : r.ok) :
    Spec Tryz.prog 384 [.pointer (some ⟨a, 0, none⟩), .pointer (some ⟨b, 0, none⟩)] h (fun v h' => h' = (h.set a (rdO e (branchR r).2)).set b (nodeO e' (branchR r).1) ∧ v = .tuple ⟨[]⟩) := by
  apply ok384
  unfold VC384
  refine (rBytes_ok (n := 2) ha ho (by decide)).mono ?_
  rintro v h1 ⟨rfl, rfl⟩
  have hg := Bytes_good ho 2
  have hl2 : (r.Bytes 2).1 = [] ∨ (r.Bytes 2).1.length = 2 := by
    unfold RdS.Bytes
    split
    · exact .inl rfl
    · have h1 : (r.take 2).1.2 = false → (r.take 2).1.1 = [] := by unfold RdS.take; split <;> simp
      have h2 : (r.take 2).1.2 = true → (r.take 2).1.1.length = 2 := by unfold RdS.take; split <;> simp; omega
      rcases hr : r.take 2 with ⟨⟨l, c⟩, r1⟩
      rw [hr] at h1 h2
      cases c
      · exact .inl (h1 rfl)
      · exact .inr (h2 rfl)
  unfold branchR
  rcases hr : r.Bytes 2 with ⟨l, r1⟩
  rw [hr] at hl2 hg
  dsimp only at hl2 hg ⊢
  refine ⟨l, rfl, fun he => ?_, fun hne => ?_⟩
  · have he : l = [] := by simpa using he
    subst he
    dsimp only
    refine ⟨?_, rfl⟩
    exact (Heap.set_self (by rw [Heap.set_other _ _ (fun e => hab e.symm)]; exact hb)).symm
  · have hne : l ≠ [] := by simpa using hne
    rcases hl2 with h0 | hl2
    · exact absurd h0 hne
    obtain ⟨b0, b1, rfl⟩ : ∃ b0 b1, l = [b0, b1] := by
      match l, hl2 with
      | [b0, b1], _ => exact ⟨b0, b1, rfl⟩
    dsimp only
    have hset : bitsV .or .i64 (IntKind.wrap .i64 (IntKind.wrap .i64 (b0.toNat : Int) * 256)) (IntKind.wrap .i64 (b1.toNat : Int)) = ((b0.toNat * 256 + b1.toNat : Nat) : Int) := by
      have h0 := b0.toNat_lt
      have h1 := b1.toNat_lt
      rw [wrap64 (n := (b0.toNat : Int)) (by omega) (by omega)]
      exact or_byte h1 (by omega)
    have hs : b0.toNat * 256 + b1.toNat < 65536 := by
      have h0 := b0.toNat_lt
      have h1 := b1.toNat_lt
      omega
    obtain ⟨bits, hbits⟩ : ∃ bits, bits = b0.toNat * 256 + b1.toNat := ⟨_, rfl⟩
    rw [← hbits] at hs hset ⊢
    refine ⟨b0, by decide, rfl, b1, by decide, rfl, ?_⟩
    rw [hset]
    refine ⟨fun n1 h2 => (0 ≤ n1 ∧ n1 ≤ 16 ∧ ∃ (ks : List Bs) (r2 : RdS), r2.ok ∧ ks.length = n1.toNat ∧ h2 = (h.set a (rdO e r2)).set b (nodeO e' ⟨3, [], [], ks ++ List.replicate (16 - n1.toNat) []⟩) ∧
      kidsR bits (List.range 16) r1 = (ks ++ (kidsR bits ((List.range 16).drop n1.toNat) r2).1, (kidsR bits ((List.range 16).drop n1.toNat) r2).2), 16 - n1.toNat),
      ⟨by decide, by decide, [], r1, hg.1, rfl, ?_, rfl⟩, ?_⟩
    · exact (Heap.set_self (by rw [Heap.set_other _ _ (fun e => hab e.symm)]; exact hb)).symm
    rintro n1 h2 ⟨h0, h16, ks, r2, ho2, hks, rfl, hkr⟩
    obtain ⟨i, rfl⟩ : ∃ j : Nat, n1 = j := ⟨n1.toNat, by omega⟩
    rw [Int.toNat_natCast] at hks hkr ⊢
    have ha2 : ((h.set a (rdO e r2)).set b (nodeO e' ⟨3, [], [], ks ++ List.replicate (16 - i) []⟩)) a = some (rdO e r2) := by
      rw [Heap.set_other _ _ hab, Heap.set_same]
    refine ⟨fun hlt J hJ => ?_, fun hge => ?_⟩
    · have hi : i < 16 := by simp at hlt; omega
      have e4 : IntKind.wrap .i64 ((i : Int) + 1) = ((i + 1 : Nat) : Int) := by rw [wrap64 (by omega) (by omega)]; omega
      have e5 : IntKind.wrap .i64 ((15 : Int) - i) = ((15 - i : Nat) : Int) := by rw [wrap64 (by omega) (by omega)]; omega
      rw [e4] at hJ
      rw [e5, Int.toNat_natCast, Nat.min_eq_left (by omega), bits_test hs (by omega)]
      simp only [Int.toNat_natCast] at hJ ⊢
      rw [range_drop i 16 hi] at hkr
      have hrep : List.replicate (16 - i) ([] : Bs) = [] :: List.replicate (16 - (i + 1)) [] := by
        rw [show 16 - i = (16 - (i + 1)) + 1 by omega]; rfl
      refine ⟨by omega, fun J1 hJ1 => ⟨fun hbit => ?_, fun hbit => ?_⟩⟩
      · rw [kidsR_pos hbit] at hkr
        have hb2 := Bytes_good ho2 32
        refine ⟨_, rfl, (rBytes_ok (n := 32) ha2 ho2 (by decide)).mono ?_⟩
        rintro v h3 ⟨rfl, rfl⟩
        rw [set_comm (fun e => hab e.symm), Heap.set_set]
        refine ⟨_, rfl, ⟨by omega, by omega⟩, _, by rw [Nat.mul_one, add_mk]; exact nodeO_wkid (Heap.set_same _ _ _) (by simp; omega) _, hJ1 _ (hJ _ ⟨⟨by omega, by omega, ks ++ [(r2.Bytes 32).1], (r2.Bytes 32).2, hb2.1, by simp [hks], ?_, ?_⟩, by show 16 - (i + 1) < 16 - i; omega⟩)⟩
        · rw [Heap.set_set, hrep, List.append_assoc]
          dsimp only
          rw [List.set_append_right _ _ (by omega), show i - ks.length = 0 by omega]
          rfl
        · rw [hkr]; simp
      · rw [kidsR_neg (by rw [hbit]; decide)] at hkr
        refine hJ1 _ (hJ _ ⟨⟨by omega, by omega, ks ++ [[]], r2, ho2, by simp [hks], ?_, ?_⟩, by show 16 - (i + 1) < 16 - i; omega⟩)
        · rw [hrep, List.append_assoc]; rfl
        · rw [hkr]; simp
    · have hi : i = 16 := by simp at hge; omega
      subst hi
      have hd : (List.range 16).drop 16 = [] := rfl
      rw [hd, show kidsR bits [] r2 = ([], r2) from rfl, List.append_nil] at hkr
      rw [hkr]
      dsimp only
      refine (rText_ok ha2 ho2 32).mono ?_
      rintro v h3 ⟨rfl, rfl⟩
      rw [set_comm (fun e => hab e.symm), Heap.set_set]
      refine ⟨_, rfl, _, rfl, _, nodeO_wval (Heap.set_same _ _ _) _, ?_, rfl⟩
      rw [Heap.set_set, Nat.sub_self, List.replicate_zero, List.append_nil]
end Go.Vw
