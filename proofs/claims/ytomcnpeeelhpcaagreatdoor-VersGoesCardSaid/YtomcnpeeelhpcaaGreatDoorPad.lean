/-
  What the functions of 'sha' come to: a block, blocks, sums. What the functions of 'sha' come to: sums. What the functions of 'sha' and 'digest' come to: the sum of a text. Conditions of functions, printed by a tool of mine (vcs.py).
-/
import Derived.Test.YtomcnpeeelhpcaaGreatDoorPac
import Derived.Test.YtomcnpeeelhpcaaGreatDoorVwBase0
namespace Go.Vw
open Go Go.Proofs

def oneI (kc wc : Int) (v : List Int) : Int :=
  IntKind.wrap .u32 (IntKind.wrap .u32 (IntKind.wrap .u32 (IntKind.wrap .u32 (v.getD 7 0 + bitsV .xor .u32 (bitsV .xor .u32 (rotI (v.getD 4 0) 6) (rotI (v.getD 4 0) 11)) (rotI (v.getD 4 0) 25)) +
    bitsV .xor .u32 (bitsV .and .u32 (v.getD 4 0) (v.getD 5 0)) (bitsV .and .u32 (bitsV .xor .u32 4294967295 (v.getD 4 0)) (v.getD 6 0))) + kc) + wc)
def twoI (v : List Int) : Int :=
  IntKind.wrap .u32 (bitsV .xor .u32 (bitsV .xor .u32 (rotI (v.getD 0 0) 2) (rotI (v.getD 0 0) 13)) (rotI (v.getD 0 0) 22) +
    bitsV .xor .u32 (bitsV .xor .u32 (bitsV .and .u32 (v.getD 0 0) (v.getD 1 0)) (bitsV .and .u32 (v.getD 0 0) (v.getD 2 0))) (bitsV .and .u32 (v.getD 1 0) (v.getD 2 0)))
def roundI (kc wc : Int) (v : List Int) : List Int :=
  [IntKind.wrap .u32 (oneI kc wc v + twoI v), v.getD 0 0, v.getD 1 0, v.getD 2 0, IntKind.wrap .u32 (v.getD 3 0 + oneI kc wc v), v.getD 4 0, v.getD 5 0, v.getD 6 0]
def rnds (h w : List Int) (n : Nat) : List Int := (List.range n).foldl (fun v i => roundI (shaK.getD i 0) (w.getD i 0) v) h
def addH (v h : List Int) (n : Nat) : List Int := (List.range n).foldl (fun l i => l.set i (IntKind.wrap .u32 (l.getD i 0 + h.getD i 0))) v
def blockI (h b : List Int) : List Int := addH (rnds h (spr b) 64) h 8
theorem rnds_succ (h w : List Int) (n : Nat) : rnds h w (n + 1) = roundI (shaK.getD n 0) (w.getD n 0) (rnds h w n) := by
  simp [rnds, List.range_succ]
theorem addH_succ (v h : List Int) (n : Nat) : addH v h (n + 1) = (addH v h n).set n (IntKind.wrap .u32 ((addH v h n).getD n 0 + h.getD n 0)) := by
  simp [addH, List.range_succ]
theorem rnds_zero (h w : List Int) : rnds h w 0 = h := rfl
theorem addH_zero (v h : List Int) : addH v h 0 = v := rfl
theorem rnds_len {h : List Int} (hh : h.length = 8) (w : List Int) : ∀ n, (rnds h w n).length = 8
  | 0 => hh
  | n + 1 => by rw [rnds_succ]; rfl
theorem addH_len {v : List Int} (hv : v.length = 8) (h : List Int) : ∀ n, (addH v h n).length = 8
  | 0 => hv
  | n + 1 => by rw [addH_succ, List.length_set, addH_len hv h n]
theorem spr_len (b : List Int) : (spr b).length = 64 := sprB_len b 48
theorem blockI_len {h : List Int} (hh : h.length = 8) (b : List Int) : (blockI h b).length = 8 := addH_len (rnds_len hh _ _) _ _

set_option maxHeartbeats 1000000 in
theorem block_ok {hs b : List Int} (hh : hs.length = 8) (hb : b.length = 64) {h : Heap} (hk : KH h) :
    Spec Tryz.prog 408 [.agg ⟨hs.map fun x => .int .u32 x⟩, .agg ⟨b.map fun x => .int .u8 x⟩] h (fun v h' => h' = h ∧ v = .agg ⟨(blockI hs b).map fun x => .int .u32 x⟩) := by
  apply ok408
  unfold VC408
  refine ⟨by rw [List.length_map, hb], (spread_ok hb).mono ?_⟩
  rintro v h1 ⟨rfl, rfl⟩
  have hw := spr_len b
  refine ⟨_, rfl, ⟨by rw [List.length_map, hw], by rw [List.length_map, hw]⟩, by rw [List.length_map, hh], ⟨by rw [List.length_map, hh], by rw [List.length_map, hh]⟩, ?_⟩
  refine ⟨fun n l h2 => (h2 = h1 ∧ 0 ≤ n ∧ n ≤ 64 ∧ l = rnds hs (spr b) n.toNat, 64 - n.toNat), ⟨hs, rfl, rfl, by decide, by decide, (rnds_zero _ _).symm⟩, ?_⟩
  rintro n l h2 ⟨rfl, h0, h64, rfl⟩
  obtain ⟨i, rfl⟩ : ∃ i : Nat, n = i := ⟨n.toNat, by omega⟩
  rw [Int.toNat_natCast]
  have hR := rnds_len hh (spr b) i
  refine ⟨fun hlt => ?_, fun hge => ?_⟩
  · have hi : i < 64 := by simp at hlt; omega
    have e4 : IntKind.wrap .i64 ((i : Int) + 1) = ((i + 1 : Nat) : Int) := by rw [wrap64 (by omega) (by omega)]; omega
    rw [e4]
    simp only [Int.toNat_natCast]
    refine ⟨⟨by omega, by omega⟩, _, mg1 (by omega), ⟨by omega, by omega⟩, _, mg1 (by omega), ⟨by omega, by omega⟩, _, mg1 (by omega), ⟨by omega, by omega⟩, _, mg1 (by omega), ⟨by omega, by omega⟩, _, mg1 (by omega), ⟨by omega, by omega⟩, _, hk.get hi, ⟨by omega, by omega⟩, _, mg1 (by omega), ?_⟩
    refine (rot_ok' 6 rfl (by decide)).mono ?_
    rintro v h3 ⟨rfl, rfl⟩
    refine ⟨_, rfl, (by first | rfl | trivial | exact fun _ => trivial), (by first | rfl | trivial | exact fun _ => trivial), (by first | rfl | trivial | exact fun _ => trivial), (by first | rfl | trivial | exact fun _ => trivial), (by first | rfl | trivial | exact fun _ => trivial), (rot_ok' 11 rfl (by decide)).mono ?_⟩
    rintro v h3 ⟨rfl, rfl⟩
    refine ⟨_, rfl, (by first | rfl | trivial | exact fun _ => trivial), (by first | rfl | trivial | exact fun _ => trivial), (by first | rfl | trivial | exact fun _ => trivial), (by first | rfl | trivial | exact fun _ => trivial), (by first | rfl | trivial | exact fun _ => trivial), (rot_ok' 25 rfl (by decide)).mono ?_⟩
    rintro v h3 ⟨rfl, rfl⟩
    refine ⟨_, rfl, (by first | rfl | trivial | exact fun _ => trivial), (by first | rfl | trivial | exact fun _ => trivial), (by first | rfl | trivial | exact fun _ => trivial), (by first | rfl | trivial | exact fun _ => trivial), (by first | rfl | trivial | exact fun _ => trivial), ⟨by omega, by omega⟩, _, mg1 (by omega), ⟨by omega, by omega⟩, _, mg1 (by omega), ⟨by omega, by omega⟩, _, mg1 (by omega), ⟨by omega, by omega⟩, _, mg1 (by omega), ?_⟩
    refine (rot_ok' 2 rfl (by decide)).mono ?_
    rintro v h3 ⟨rfl, rfl⟩
    refine ⟨_, rfl, (by first | rfl | trivial | exact fun _ => trivial), (by first | rfl | trivial | exact fun _ => trivial), (by first | rfl | trivial | exact fun _ => trivial), (by first | rfl | trivial | exact fun _ => trivial), (rot_ok' 13 rfl (by decide)).mono ?_⟩
    rintro v h3 ⟨rfl, rfl⟩
    refine ⟨_, rfl, (by first | rfl | trivial | exact fun _ => trivial), (by first | rfl | trivial | exact fun _ => trivial), (by first | rfl | trivial | exact fun _ => trivial), (by first | rfl | trivial | exact fun _ => trivial), (rot_ok' 22 rfl (by decide)).mono ?_⟩
    rintro v h3 ⟨rfl, rfl⟩
    refine ⟨_, rfl, (by first | rfl | trivial | exact fun _ => trivial), (by first | rfl | trivial | exact fun _ => trivial), (by first | rfl | trivial | exact fun _ => trivial), (by first | rfl | trivial | exact fun _ => trivial), ⟨by omega, by omega⟩, _, mg1 (by omega), ⟨by omega, by omega⟩, _, mg1 (by omega), ⟨by omega, by omega⟩, _, mg1 (by omega), ⟨by omega, by omega⟩, _, mg1 (by omega), ⟨by omega, by omega⟩, _, mg1 (by omega), ?_⟩
    refine ⟨by first | trivial | exact rfl, ⟨by simp only [List.length_cons, List.length_nil], by simp only [List.length_cons, List.length_nil, List.length_map]; omega⟩, roundI (shaK.getD i 0) ((spr b).getD i 0) (rnds hs (spr b) i), ?_, ?_, ?_⟩
    · simp only [roundI, oneI, twoI, List.map_cons, List.map_nil]
    · exact ⟨(by first | rfl | trivial | exact fun _ => trivial), by omega, by omega, (rnds_succ _ _ _).symm⟩
    · show 64 - (i + 1) < 64 - i; omega
  · have hi : i = 64 := by simp at hge; omega
    subst hi
    refine ⟨fun n l h3 => (h3 = h2 ∧ 0 ≤ n ∧ n ≤ 8 ∧ l = addH (rnds hs (spr b) 64) hs n.toNat, 8 - n.toNat), ⟨_, rfl, rfl, by decide, by decide, (addH_zero _ _).symm⟩, ?_⟩
    rintro n l h3 ⟨rfl, h0, h8, rfl⟩
    obtain ⟨i, rfl⟩ : ∃ i : Nat, n = i := ⟨n.toNat, by omega⟩
    rw [Int.toNat_natCast]
    have hA := addH_len hR hs i
    refine ⟨fun hlt => ?_, fun hge => ?_⟩
    · have hi : i < 8 := by simp at hlt; omega
      have e4 : IntKind.wrap .i64 ((i : Int) + 1) = ((i + 1 : Nat) : Int) := by rw [wrap64 (by omega) (by omega)]; omega
      rw [e4]
      simp only [Int.toNat_natCast]
      refine ⟨⟨by omega, by omega⟩, _, mg1 (by omega), ⟨by omega, by omega⟩, _, mg1 (by omega), ⟨by omega, by omega⟩, by rw [List.length_map]; omega, _, ms1 (f := fun x => Value.int .u32 x), ?_, ?_⟩
      · exact ⟨(by first | rfl | trivial | exact fun _ => trivial), by omega, by omega, (addH_succ _ _ _).symm⟩
      · show 8 - (i + 1) < 8 - i; omega
    · have hi : i = 8 := by simp at hge; omega
      subst hi
      exact ⟨by rw [List.length_map, hA], ⟨by rw [List.length_map, hA], by rw [List.length_map, hA]⟩, by rw [List.length_map, hA], rfl, rfl⟩

theorem first_ok {h : Heap} : Spec Tryz.prog 395 [] h (fun v h' => h' = h ∧ v = .agg ⟨[1779033703, 3144134277, 1013904242, 2773480762, 1359893119, 2600822924, 528734635, 1541459225].map fun (x : Int) => .int .u32 x⟩) := by
  apply ok395
  unfold VC395
  exact ⟨rfl, ⟨rfl, rfl⟩, rfl, rfl, rfl⟩
end Go.Vw
namespace Go.Vw
open Go Go.Proofs

/-- The bytes of words. -/
def toldS (h l : List Int) (i : Nat) : List Int :=
  (((l.set (0 + 4 * i * 1) (IntKind.wrap .u8 (Int.fdiv (h.getD i 0) 16777216))).set (0 + (4 * i + 1) * 1) (IntKind.wrap .u8 (Int.fdiv (h.getD i 0) 65536))).set (0 + (4 * i + 2) * 1) (IntKind.wrap .u8 (Int.fdiv (h.getD i 0) 256))).set (0 + (4 * i + 3) * 1) (IntKind.wrap .u8 (h.getD i 0))
def toldB (h : List Int) (n : Nat) : List Int := (List.range n).foldl (fun l i => toldS h l i) (List.replicate 32 0)
theorem toldB_succ (h : List Int) (n : Nat) : toldB h (n + 1) = toldS h (toldB h n) n := by simp [toldB, List.range_succ]
theorem toldB_zero (h : List Int) : toldB h 0 = List.replicate 32 0 := rfl
theorem toldB_len (h : List Int) : ∀ n, (toldB h n).length = 32
  | 0 => by rw [toldB_zero]; rfl
  | n + 1 => by rw [toldB_succ, toldS]; simp only [List.length_set]; exact toldB_len h n
theorem wrapU8_range (x : Int) : 0 ≤ IntKind.wrap .u8 x ∧ IntKind.wrap .u8 x < 256 := by
  have : IntKind.wrap .u8 x = x % 256 := by simp [IntKind.wrap, IntKind.signed, IntKind.bits]
  rw [this]; omega
theorem set_range {l : List Int} (hl : ∀ x ∈ l, 0 ≤ x ∧ x < 256) {i : Nat} {y : Int} (hy : 0 ≤ y ∧ y < 256) : ∀ x ∈ l.set i y, 0 ≤ x ∧ x < 256 := by
  intro x hx
  rcases List.mem_or_eq_of_mem_set hx with h | h
  · exact hl x h
  · subst h; exact hy
theorem toldB_range (h : List Int) : ∀ n, ∀ x ∈ toldB h n, 0 ≤ x ∧ x < 256
  | 0 => by rw [toldB_zero]; intro x hx; rw [List.mem_replicate] at hx; omega
  | n + 1 => by
    rw [toldB_succ, toldS]
    exact set_range (set_range (set_range (set_range (toldB_range h n) (wrapU8_range _)) (wrapU8_range _)) (wrapU8_range _)) (wrapU8_range _)
def bytesOf (l : List Int) : List UInt8 := l.map fun x => UInt8.ofNat x.toNat
theorem bytesOf_map {l : List Int} (hl : ∀ x ∈ l, 0 ≤ x ∧ x < 256) : (l.map fun x => Value.int .u8 x) = (bytesOf l).map byteV := by
  rw [bytesOf, List.map_map]
  apply List.map_congr_left
  intro x hx
  have := hl x hx
  simp [byteV]
  omega
def tell (h : List Int) : List UInt8 := bytesOf (toldB h 8)
theorem tell_len (h : List Int) : (tell h).length = 32 := by rw [tell, bytesOf, List.length_map, toldB_len]

theorem told_ok {hs : List Int} (hh : hs.length = 8) {h : Heap} : Spec Tryz.prog 397 [.agg ⟨hs.map fun x => .int .u32 x⟩] h (fun v h' => h' = h ∧ v = S (tell hs)) := by
  apply Spec.forget
  apply ok397
  unfold VC397
  refine ⟨by rw [List.length_map, hh], ?_⟩
  refine ⟨fun n l h2 => (h2 = h ∧ 0 ≤ n ∧ n ≤ 8 ∧ l = toldB hs n.toNat, 8 - n.toNat), ⟨List.replicate 32 0, rfl, rfl, by decide, by decide, (toldB_zero _).symm⟩, ?_⟩
  rintro n l h2 ⟨rfl, h0, h8, rfl⟩
  obtain ⟨i, rfl⟩ : ∃ i : Nat, n = i := ⟨n.toNat, by omega⟩
  rw [Int.toNat_natCast]
  have hA := toldB_len hs i
  refine ⟨fun hlt => ?_, fun hge => ?_⟩
  · have hi : i < 8 := by simp at hlt; omega
    have e0 : IntKind.wrap .i64 ((4 : Int) * (i : Int)) = ((4 * i : Nat) : Int) := by rw [wrap64 (by omega) (by omega)]; omega
    have e1 : IntKind.wrap .i64 (((4 * i : Nat) : Int) + 1) = ((4 * i + 1 : Nat) : Int) := by rw [wrap64 (by omega) (by omega)]; omega
    have e2 : IntKind.wrap .i64 (((4 * i : Nat) : Int) + 2) = ((4 * i + 2 : Nat) : Int) := by rw [wrap64 (by omega) (by omega)]; omega
    have e3 : IntKind.wrap .i64 (((4 * i : Nat) : Int) + 3) = ((4 * i + 3 : Nat) : Int) := by rw [wrap64 (by omega) (by omega)]; omega
    have e4 : IntKind.wrap .i64 ((i : Int) + 1) = ((i + 1 : Nat) : Int) := by rw [wrap64 (by omega) (by omega)]; omega
    rw [e0, e1, e2, e3, e4]
    simp only [Int.toNat_natCast]
    refine ⟨⟨by omega, by omega⟩, _, (by rw [Nat.mul_one]; exact mg (by omega)), ⟨by omega, by omega⟩, by simp only [List.length_set, List.length_map]; omega, ⟨by omega, by omega⟩, by simp only [List.length_set, List.length_map]; omega, ⟨by omega, by omega⟩,
      by simp only [List.length_set, List.length_map]; omega, ⟨by omega, by omega⟩, by simp only [List.length_set, List.length_map]; omega, toldS hs (toldB hs i) i, ?_, ?_, ?_⟩
    · simp only [toldS, List.map_set]
    · exact ⟨(by first | rfl | trivial | exact fun _ => trivial), by omega, by omega, (toldB_succ _ _).symm⟩
    · show 8 - (i + 1) < 8 - i; omega
  · have hi : i = 8 := by simp at hge; omega
    subst hi
    intro b hb
    refine ⟨⟨by decide, by decide, by decide⟩, fun h => h, tell hs, ?_, Heap.le_set _ hb, rfl⟩
    rw [rdn_all (Heap.set_same _ _ _) (by rw [List.length_map, hA]), bytesOf_map (toldB_range hs 8)]
    rfl

def ints (l : List UInt8) : List Int := l.map fun b => (b.toNat : Int)
theorem ints_map (l : List UInt8) : l.map byteV = (ints l).map fun x => Value.int .u8 x := by rw [ints, List.map_map]; rfl
theorem ints_len (l : List UInt8) : (ints l).length = l.length := List.length_map _
def blocksN : Nat → List Int → List UInt8 → List Int × List UInt8
  | 0, ws, bs => (ws, bs)
  | n + 1, ws, bs => blocksN n (blockI ws (ints (bs.take 64))) (bs.drop 64)
def blocksI (ws : List Int) (bs : List UInt8) : List Int × List UInt8 := blocksN (bs.length / 64) ws bs
theorem blocksI_step {ws : List Int} {bs : List UInt8} (h : 64 ≤ bs.length) : blocksI ws bs = blocksI (blockI ws (ints (bs.take 64))) (bs.drop 64) := by
  unfold blocksI
  obtain ⟨n, hn⟩ : ∃ n, bs.length / 64 = n + 1 := ⟨bs.length / 64 - 1, by omega⟩
  rw [hn, List.length_drop, show (bs.length - 64) / 64 = n by omega]; rfl
theorem blocksI_end {ws : List Int} {bs : List UInt8} (h : bs.length < 64) : blocksI ws bs = (ws, bs) := by
  unfold blocksI
  rw [show bs.length / 64 = 0 by omega]; rfl
theorem rdn_split {h : Heap} {b o n m : Nat} {l : List Value} (hr : rdn h ⟨b, o, none⟩ n = some l) (hm : m ≤ n) : rdn h ⟨b, o, none⟩ m = some (l.take m) ∧ rdn h ⟨b, o + m, none⟩ (n - m) = some (l.drop m) := by
  unfold rdn at hr ⊢
  split at hr
  · rename_i c e fr hb
    dsimp only at hb
    rw [hb]
    dsimp only [Option.isSome] at hr ⊢
    rw [if_neg (by simp)] at hr ⊢
    split at hr
    · rename_i hle
      injection hr with hr
      subst hr
      rw [if_pos (by omega), if_neg (by simp), if_pos (by omega)]
      refine ⟨by rw [List.take_take, Nat.min_eq_left hm], ?_⟩
      rw [List.drop_take, List.drop_drop]
    · cases hr
  · cases hr
theorem rdn_nospot {h : Heap} {a : Addr} {n : Nat} {l : List Value} (hr : rdn h a n = some l) : a = ⟨a.block, a.off, none⟩ := by
  unfold rdn at hr
  split at hr
  · split at hr
    · cases hr
    · rename_i hs
      rcases a with ⟨b, o, s⟩
      cases s with
      | none => rfl
      | some s => simp at hs
  · cases hr

theorem blocks_ok {ws : List Int} {sl : Sl} {bs : List UInt8} (hw : ws.length = 8) {h : Heap} (hk : KH h) (hcap : sl.len ≤ sl.cap) (hlen : bs.length ≤ 1099511627776) (hr : rowOf h sl.a sl.len = some (bs.map byteV)) :
    Spec Tryz.prog 396 [.agg ⟨ws.map fun x => .int .u32 x⟩, .slice sl.a sl.len sl.cap] h
      (fun v h' => ∃ r, v = .tuple ⟨[.agg ⟨(blocksI ws bs).1.map fun x => .int .u32 x⟩, .slice r.a r.len r.cap]⟩ ∧ (blocksI ws bs).1.length = 8 ∧ Grow h h' r 1 ((blocksI ws bs).2.map byteV)) := by
  apply ok396
  unfold VC396
  refine ⟨fun s l h1 => (h1 = h ∧ s.len ≤ s.cap ∧ l.length = 8 ∧ ∃ bs' : List UInt8, bs'.length ≤ 1099511627776 ∧ rowOf h s.a s.len = some (bs'.map byteV) ∧ blocksI l bs' = blocksI ws bs, s.len), ⟨ws, rfl, rfl, hcap, hw, bs, hlen, hr, rfl⟩, ?_⟩
  rintro s l h1 ⟨rfl, hc, hl, bs', hbl, hrow, heq⟩
  have hsl : bs'.length = s.len := by
    cases hsa : s.a with
    | none =>
      rw [hsa] at hrow
      unfold rowOf at hrow
      dsimp only at hrow
      split at hrow
      · rename_i h0
        injection hrow with hrow
        have : bs' = [] := by simpa using hrow.symm
        rw [this, h0]; rfl
      · cases hrow
    | some a =>
      rw [hsa] at hrow
      have := rdn_len hrow
      simpa using this
  refine ⟨fun hg => ?_, fun hlt => ?_⟩
  · have hge : 64 ≤ s.len := by simp at hg; omega
    clear hg
    rcases s with ⟨sa, sn, sc⟩
    dsimp only at hge hc hrow hsl
    cases sa with
    | none =>
      unfold rowOf at hrow
      dsimp only at hrow
      rw [if_neg (by omega)] at hrow
      cases hrow
    | some a =>
      have ha := rdn_nospot (h := h1) (a := a) (n := sn) hrow
      rcases a with ⟨b, o, sp⟩
      have ha : sp = none := by injection ha
      subst ha
      have h2 := rdn_split (m := 64) hrow hge
      rw [← List.map_take, ints_map, ← List.map_drop] at h2
      refine ⟨by rw [List.length_map, hl], by decide, ⟨by decide, Nat.le_trans hge hc, Nat.le_refl _⟩, fun _ => rfl, by decide, ⟨b, o, none⟩, ?_, ints (bs'.take 64), h2.1, ?_⟩
      · dsimp only [Option.map]
        rw [if_neg (by omega), add_zero']
      · refine (block_ok hl (by rw [ints_len, List.length_take]; omega) hk).mono ?_
        rintro v h2 ⟨rfl, rfl⟩
        have hbl8 := blockI_len hl (ints (bs'.take 64))
        refine ⟨_, rfl, ⟨by rw [List.length_map, hbl8], by rw [List.length_map, List.length_map, hbl8, hl]⟩, by decide, ⟨hge, hc, Nat.le_refl _⟩, fun h => h, _, rfl, ⟨rfl, ?_, hbl8, bs'.drop 64, by rw [List.length_drop]; omega, ?_, ?_⟩, ?_⟩
        · dsimp only; omega
        · dsimp only [Option.map]
          by_cases hc64 : sc = 64
          · rw [if_pos hc64]
            have h0 : sn - 64 = 0 := by omega
            have : bs'.drop 64 = [] := List.drop_eq_nil_of_le (by omega)
            rw [h0, this]
            have := (rdn_split (m := 0) hrow (by omega)).1
            exact this
          · rw [if_neg hc64]
            exact h2.2
        · exact (blocksI_step (by omega)).symm.trans heq
        · dsimp only; omega
  · have hlt : s.len < 64 := by simp at hlt; omega
    refine ⟨by rw [List.length_map, hl], [], bs'.map byteV, rfl, by rw [Nat.mul_one]; exact hrow, ao_map (fun _ => rfl), by omega, by omega, fun _ _ h => (by cases h), fun _ h => ?_, ?_⟩
    · have : bs' = [] := List.eq_nil_of_length_eq_zero (by omega)
      rw [this]; rfl
    · intro r h3 happ
      refine ⟨rfl, ⟨by rw [List.length_map, hl], by rw [List.length_map, hl]⟩, by rw [List.length_map, hl], r, ?_, ?_, ?_⟩
      · rw [← heq, blocksI_end (by omega)]
      · rw [← heq, blocksI_end (by omega)]; exact hl
      · rw [← heq, blocksI_end (by omega)]
        have g0 : Grow h1 h1 ⟨none, 0, 0⟩ 1 [] := ⟨Heap.le_refl _, rfl, Nat.le_refl _, .inl ⟨rfl, rfl⟩⟩
        have := g0.app (m := s.len) (ys := bs'.map byteV) (by rw [List.length_map, hsl, Nat.mul_one]) happ
        simpa using this
end Go.Vw
namespace Go.Vw
open Go Go.Proofs

theorem wr_ofn {h : Heap} {b k : Nat} {l vs : List Value} {e : TypeId} (hb : h b = some (.cells ⟨l⟩ e (0, 0))) (hk : k + vs.length ≤ l.length) : wr h ⟨b, k, none⟩ vs = some (h.set b (.cells ⟨splice l k vs⟩ e (0, 0))) := by
  unfold wr
  simp only [hb]
  simp [hk]
def hashO (e : TypeId) (ws : List Int) (t : Sl) (n : Int) : Obj := .cells ⟨(ws.map fun x => Value.int .u32 x) ++ [.slice t.a t.len t.cap, .int .i64 n]⟩ e (0, 0)
section
variable {h : Heap} {a : Nat} {e : TypeId} {ws : List Int} {t : Sl} {n : Int}
theorem hashO_8 (hw : ws.length = 8) (ha : h a = some (hashO e ws t n)) : rd h ⟨a, 8, none⟩ = some (.slice t.a t.len t.cap) := by
  rw [rd_of ha, List.getElem?_append_right (by rw [List.length_map, hw]; omega), List.length_map, hw]; rfl
theorem hashO_9 (hw : ws.length = 8) (ha : h a = some (hashO e ws t n)) : rd h ⟨a, 9, none⟩ = some (.int .i64 n) := by
  rw [rd_of ha, List.getElem?_append_right (by rw [List.length_map, hw]; omega), List.length_map, hw]; rfl
theorem hashO_ws (hw : ws.length = 8) (ha : h a = some (hashO e ws t n)) : rdn h ⟨a, 0, none⟩ 8 = some (ws.map fun x => Value.int .u32 x) := by
  have e8 : (ws.map fun x => Value.int .u32 x).length = 8 := by rw [List.length_map, hw]
  rw [rdn_of ha (by simp [hw]), List.drop_zero, List.take_append_of_le_length (by omega), List.take_of_length_le (by omega)]
theorem hashO_w9 (hw : ws.length = 8) (ha : h a = some (hashO e ws t n)) (m : Int) : wr h ⟨a, 9, none⟩ [.int .i64 m] = some (h.set a (hashO e ws t m)) := by
  have e8 : (ws.map fun x => Value.int .u32 x).length = 8 := by rw [List.length_map, hw]
  rw [wr_of ha (by simp [hw])]
  congr 3
  rw [List.set_append_right _ _ (by omega), e8]; rfl
theorem hashO_w8 (hw : ws.length = 8) (ha : h a = some (hashO e ws t n)) (r : Sl) : wr h ⟨a, 8, none⟩ [.slice r.a r.len r.cap] = some (h.set a (hashO e ws r n)) := by
  have e8 : (ws.map fun x => Value.int .u32 x).length = 8 := by rw [List.length_map, hw]
  rw [wr_of ha (by simp [hw])]
  congr 3
  rw [List.set_append_right _ _ (by omega), e8]; rfl
theorem hashO_w0 (hw : ws.length = 8) (ha : h a = some (hashO e ws t n)) {vs : List Int} (hv : vs.length = 8) : wr h ⟨a, 0, none⟩ (vs.map fun x => Value.int .u32 x) = some (h.set a (hashO e vs t n)) := by
  have e8 : (ws.map fun x => Value.int .u32 x).length = 8 := by rw [List.length_map, hw]
  have e8' : (vs.map fun x => Value.int .u32 x).length = 8 := by rw [List.length_map, hv]
  rw [wr_ofn ha (by simp [hw, hv])]
  congr 3
  unfold splice
  rw [List.take_zero, List.nil_append, e8', Nat.zero_add, List.drop_append_of_le_length (by omega), List.drop_eq_nil_of_le (by omega), List.nil_append]

theorem new_ok {h : Heap} : Spec Tryz.prog 360 [] h (fun v h' => ∃ b, h b = none ∧ v = .pointer (some ⟨b, 0, none⟩) ∧ h' = h.set b (hashO 471 [1779033703, 3144134277, 1013904242, 2773480762, 1359893119, 2600822924, 528734635, 1541459225] ⟨none, 0, 0⟩ 0)) := by
  apply ok360
  unfold VC360
  refine first_ok.mono ?_
  rintro v h1 ⟨rfl, rfl⟩
  exact ⟨_, rfl, rfl, fun b hb => ⟨b, hb, rfl, rfl⟩⟩

theorem KH.set {h : Heap} (k : KH h) {a : Nat} (ha : a ≠ 1) (o : Obj) : KH (h.set a o) := by
  obtain ⟨e, fr, hk⟩ := k
  exact ⟨e, fr, by rw [Heap.set_other _ _ (fun e => ha e.symm)]; exact hk⟩
theorem KH.ne {h : Heap} (k : KH h) {a : Nat} {ws : List Int} (hw : ws.length = 8) {t : Sl} {n : Int} (ha : h a = some (hashO e ws t n)) : a ≠ 1 := by
  rintro rfl
  obtain ⟨e', fr, hk⟩ := k
  rw [hk] at ha
  injection ha with ha
  unfold hashO at ha
  injection ha with ha
  have := congrArg (fun x => x.toList.length) ha
  simp [hw, shaK_len] at this
theorem rowOf_set {h : Heap} {p : Option Addr} {n b : Nat} {o : Obj} (hb : ∀ a, p = some a → a.block ≠ b) : rowOf (h.set b o) p n = rowOf h p n := by
  cases p with
  | none => rfl
  | some a =>
    unfold rowOf rdn
    dsimp only
    rw [Heap.set_other _ _ (hb a rfl)]

theorem write_ok (hw : ws.length = 8) (ha : h a = some (hashO e ws ⟨none, 0, 0⟩ n)) (hk : KH h) {s : List UInt8} (hs : s.length ≤ 1099511627776) :
    Spec Tryz.prog 361 [.pointer (some ⟨a, 0, none⟩), S s] h (fun v h' => v = .tuple ⟨[]⟩ ∧ ∃ r, r.len ≤ r.cap ∧ h' a = some (hashO e (blocksI ws s).1 r (IntKind.wrap .i64 (n + s.length))) ∧ (blocksI ws s).1.length = 8 ∧
      rowOf h' r.a r.len = some ((blocksI ws s).2.map byteV) ∧ ∀ b o, b ≠ a → h b = some o → h' b = some o) := by
  have hne := hk.ne hw ha
  apply ok361
  unfold VC361
  refine ⟨_, rfl, _, hashO_9 hw ha, _, rfl, _, hashO_w9 hw ha _, _, rfl, _, by rw [add_zero']; exact hashO_ws hw (Heap.set_same _ _ _), _, rfl, ⟨none, 0, 0⟩, hashO_8 hw (Heap.set_same _ _ _), [], rfl, by dsimp only; omega, by dsimp only; omega, fun _ _ h => (by cases h), fun _ h => ?_, ?_⟩
  · have : s = [] := List.eq_nil_of_length_eq_zero (by dsimp only at h; omega)
    rw [this]; rfl
  · intro r1 h2 happ
    have g0 : Grow (h.set a (hashO e ws ⟨none, 0, 0⟩ (IntKind.wrap .i64 (n + s.length)))) (h.set a (hashO e ws ⟨none, 0, 0⟩ (IntKind.wrap .i64 (n + s.length)))) ⟨none, 0, 0⟩ 1 [] := ⟨Heap.le_refl _, rfl, Nat.le_refl _, .inl ⟨rfl, rfl⟩⟩
    have g1 := g0.app (m := s.length) (ys := s.map byteV) (by rw [List.length_map, Nat.mul_one]) happ
    rw [List.nil_append] at g1
    have ha2 := g1.1 _ _ (Heap.set_same _ _ _)
    refine ⟨by rw [add_zero', hashO_ws hw ha2, hashO_ws hw (Heap.set_same _ _ _)], ?_⟩
    have hrow := g1.row
    rw [Nat.mul_one] at hrow
    refine (blocks_ok hw ((hk.set hne _).le g1.1) g1.2.2.1 hs hrow).mono ?_
    rintro v h3 ⟨r, rfl, hw', g⟩
    have ha3 := g.1 _ _ ha2
    refine ⟨_, _, rfl, _, rfl, by rw [List.length_map, hw'], _, by rw [add_zero']; exact hashO_w0 hw ha3 hw', _, rfl, _, hashO_w8 hw' (Heap.set_same _ _ _) r, rfl, r, g.2.2.1, Heap.set_same _ _ _, hw', ?_, ?_⟩
    · rw [Heap.set_set, rowOf_set]
      · have := g.row
        rwa [Nat.mul_one] at this
      · rintro p hp rfl
        rcases g.2.2.2 with ⟨h0, _⟩ | ⟨b, rest, e', h0, hb, _⟩
        · rw [h0] at hp; cases hp
        · rw [h0] at hp; injection hp with hp; subst hp
          rw [ha2] at hb; cases hb
    · intro b o hb hbo
      rw [Heap.set_set, Heap.set_other _ _ hb]
      exact g.1 _ _ (g1.1 _ _ (by rw [Heap.set_other _ _ hb]; exact hbo))

def zerosN (n : Nat) : Nat := (119 - n % 64) % 64
def lenB (n : Int) (i : Nat) : UInt8 := UInt8.ofNat (IntKind.wrap .u8 (Int.fdiv (IntKind.wrap .u64 (IntKind.wrap .u64 n * 8)) (2 ^ (56 - 8 * i)))).toNat
theorem lenB_v (n : Int) (i : Nat) : Value.int .u8 (IntKind.wrap .u8 (Int.fdiv (IntKind.wrap .u64 (IntKind.wrap .u64 n * 8)) (2 ^ (56 - 8 * i)))) = byteV (lenB n i) := by
  have := wrapU8_range (Int.fdiv (IntKind.wrap .u64 (IntKind.wrap .u64 n * 8)) (2 ^ (56 - 8 * i)))
  unfold byteV lenB
  congr 1
  simp
  omega
def padM (t : List UInt8) (n : Int) : List UInt8 := t ++ [128] ++ List.replicate (zerosN t.length) 0 ++ (List.range 8).map (lenB n)

theorem hsum_ok (hw : ws.length = 8) {r : Sl} (hrc : r.len ≤ r.cap) (ha : h a = some (hashO e ws r n)) (hk : KH h) {tl : List UInt8} (hrow : rowOf h r.a r.len = some (tl.map byteV)) (htl : tl.length ≤ 1099511627) (hrl : tl.length = r.len) :
    Spec Tryz.prog 362 [.pointer (some ⟨a, 0, none⟩)] h (fun v h' => h' = h ∧ v = S (tell (blocksI ws (padM tl n)).1)) := by
  apply Spec.forget
  apply ok362
  unfold VC362
  refine ⟨_, rfl, r, hashO_8 hw ha, [], tl.map byteV, rfl, by rw [Nat.mul_one]; exact hrow, ao_map (fun _ => rfl), by omega, by omega, fun _ _ h => (by cases h), fun _ h => ?_, ?_⟩
  · have : tl = [] := List.eq_nil_of_length_eq_zero (by omega)
    rw [this]; rfl
  · intro r1 h1 happ
    have g0 : Grow h h ⟨none, 0, 0⟩ 1 [] := ⟨Heap.le_refl _, rfl, Nat.le_refl _, .inl ⟨rfl, rfl⟩⟩
    have g1 := g0.app (m := r.len) (ys := tl.map byteV) (by rw [List.length_map, Nat.mul_one, hrl]) happ
    rw [List.nil_append] at g1
    have hl1 : r1.len = tl.length := by have := g1.2.1; rw [List.length_map, Nat.mul_one] at this; exact this.symm
    refine ⟨rfl, _, g1.row, by omega, by omega, (g1.fits (m := 1) rfl).1, (g1.fits (m := 1) rfl).2, ?_⟩
    intro r2 h2 happ2
    have g2 := g1.app (m := 1) (ys := [Value.int .u8 128]) rfl happ2
    refine ⟨fun sl h3 => (∃ j, j ≤ zerosN tl.length ∧ Grow h h3 sl 1 ((tl ++ [128] ++ List.replicate j 0).map byteV), tl.length + 1 + 64 - sl.len), ⟨0, Nat.zero_le _, ?_⟩, ?_⟩
    · rw [List.replicate_zero, List.append_nil, List.map_append]
      exact g2
    · rintro sl h3 ⟨j, hj, g⟩
      have hl3 : sl.len = tl.length + 1 + j := by
        have := g.2.1
        simp only [List.length_map, List.length_append, List.length_singleton, List.length_replicate, Nat.mul_one] at this
        exact this.symm
      have htm : Int.tmod (sl.len : Int) 64 = ((sl.len % 64 : Nat) : Int) := by rw [Int.tmod_eq_emod_of_nonneg (by omega)]; omega
      rw [htm]
      have hz : zerosN tl.length < 64 := Nat.mod_lt _ (by decide)
      refine ⟨by decide, fun hne => ?_, fun heq => ?_⟩
      · have hne : sl.len % 64 ≠ 56 := by
          intro hc
          rw [hc] at hne
          simp at hne
        have hjlt : j < zerosN tl.length := by
          rcases Nat.lt_or_ge j (zerosN tl.length) with h | h
          · exact h
          · have : j = zerosN tl.length := by omega
            subst this
            unfold zerosN at hl3
            omega
        refine ⟨rfl, _, g.row, by omega, by omega, (g.fits (m := 1) rfl).1, (g.fits (m := 1) rfl).2, ?_⟩
        intro r4 h4 happ4
        have g4 := g.app (m := 1) (ys := [Value.int .u8 0]) rfl happ4
        refine ⟨⟨j + 1, by omega, ?_⟩, ?_⟩
        · rw [List.replicate_succ', ← List.append_assoc, List.map_append]
          exact g4
        · have := happ4.1
          dsimp only at this ⊢
          omega
      · have heq : sl.len % 64 = 56 := by
          have h1 : (sl.len : Int) % 64 = 56 := by simpa [bne] using heq
          omega
        have hjz : j = zerosN tl.length := by
          unfold zerosN at hj hz ⊢
          omega
        subst hjz
        refine ⟨_, rfl, n, hashO_9 hw (g.1 _ _ ha), ?_⟩
        refine ⟨fun sl n1 h5 => (0 ≤ n1 ∧ n1 ≤ 8 ∧ Grow h h5 sl 1 ((tl ++ [128] ++ List.replicate (zerosN tl.length) 0 ++ (List.range n1.toNat).map (lenB n)).map byteV), 8 - n1.toNat), ⟨by decide, by decide, ?_⟩, ?_⟩
        · simpa using g
        · rintro sl n1 h5 ⟨h0, h8, g5⟩
          obtain ⟨i, rfl⟩ : ∃ i : Nat, n1 = i := ⟨n1.toNat, by omega⟩
          rw [Int.toNat_natCast] at g5
          have hl5 : sl.len = tl.length + 1 + zerosN tl.length + i := by
            have := g5.2.1
            simp only [List.length_map, List.length_append, List.length_singleton, List.length_replicate, List.length_range, Nat.mul_one] at this
            exact this.symm
          refine ⟨fun hlt => ?_, fun hge => ?_⟩
          · have hi : i < 8 := by simp at hlt; omega
            have e1 : IntKind.wrap .i64 ((8 : Int) * (i : Int)) = ((8 * i : Nat) : Int) := by rw [wrap64 (by omega) (by omega)]; omega
            have e2 : IntKind.wrap .i64 ((56 : Int) - ((8 * i : Nat) : Int)) = ((56 - 8 * i : Nat) : Int) := by rw [wrap64 (by omega) (by omega)]; omega
            have e4 : IntKind.wrap .i64 ((i : Int) + 1) = ((i + 1 : Nat) : Int) := by rw [wrap64 (by omega) (by omega)]; omega
            rw [e1, e2, e4, Int.toNat_natCast, Nat.min_eq_left (by omega), lenB_v]
            refine ⟨by omega, rfl, _, g5.row, by omega, by omega, (g5.fits (m := 1) rfl).1, (g5.fits (m := 1) rfl).2, ?_⟩
            intro r6 h6 happ6
            have g6 := g5.app (m := 1) (ys := [byteV (lenB n i)]) rfl happ6
            refine ⟨⟨by omega, by omega, ?_⟩, by show 8 - (i + 1) < 8 - i; omega⟩
            rw [Int.toNat_natCast, List.range_succ, List.map_append (l₁ := List.range i), ← List.append_assoc, List.map_append]
            exact g6
          · have hi : i = 8 := by simp at hge; omega
            subst hi
            have ha5 := g5.1 _ _ ha
            have hrow5 := g5.row
            rw [Nat.mul_one] at hrow5
            refine ⟨_, rfl, _, by rw [add_zero']; exact hashO_ws hw ha5, (blocks_ok hw (hk.le g5.1) g5.2.2.1 ?_ hrow5).mono ?_⟩
            · simp only [List.length_map, List.length_append, List.length_singleton, List.length_replicate, List.length_range]; omega
            · rintro v h7 ⟨r7, rfl, hw7, g7⟩
              refine ⟨_, _, rfl, ⟨by rw [List.length_map, hw7], by rw [List.length_map, hw7]⟩, by rw [List.length_map, hw7], (told_ok hw7).mono ?_⟩
              rintro v h8 ⟨rfl, rfl⟩
              exact ⟨_, rfl, Heap.le_trans g5.1 g7.1, rfl⟩
end

/-- The sum of a text. -/
def shaM (s : List UInt8) : List UInt8 :=
  tell (blocksI (blocksI [1779033703, 3144134277, 1013904242, 2773480762, 1359893119, 2600822924, 528734635, 1541459225] s).1
    (padM (blocksI [1779033703, 3144134277, 1013904242, 2773480762, 1359893119, 2600822924, 528734635, 1541459225] s).2 s.length)).1
theorem shaM_len (s : List UInt8) : (shaM s).length = 32 := tell_len _
theorem blocksN_len : ∀ (n : Nat) (ws : List Int) (bs : List UInt8), (blocksN n ws bs).2.length ≤ bs.length
  | 0, _, _ => Nat.le_refl _
  | n + 1, ws, bs => by
    unfold blocksN
    have := blocksN_len n (blockI ws (ints (bs.take 64))) (bs.drop 64)
    rw [List.length_drop] at this
    omega
theorem sum_ok {s : List UInt8} (hs : s.length ≤ 1073741824) {h : Heap} (hk : KH h) : Spec Tryz.prog 303 [S s] h (fun v h' => h' = h ∧ v = S (shaM s)) := by
  apply Spec.forget
  apply ok303
  unfold VC303
  refine new_ok.mono ?_
  rintro v h1 ⟨b, hb, rfl, rfl⟩
  have hk1 : KH (h.set b (hashO 471 [1779033703, 3144134277, 1013904242, 2773480762, 1359893119, 2600822924, 528734635, 1541459225] ⟨none, 0, 0⟩ 0)) := hk.le (Heap.le_set _ hb)
  have hne := hk1.ne rfl (Heap.set_same _ _ _)
  refine ⟨_, rfl, (write_ok rfl (Heap.set_same _ _ _) hk1 (by omega)).mono ?_⟩
  rintro v h2 ⟨rfl, r, hrc, ha, hw, hrow, hfr⟩
  have hlb := blocksN_len (s.length / 64) [1779033703, 3144134277, 1013904242, 2773480762, 1359893119, 2600822924, 528734635, 1541459225] s
  have hle : h.le h2 := by
    intro c o hc
    have hcb : c ≠ b := Heap.ne_of hb hc
    exact hfr c o hcb (by rw [Heap.set_other _ _ hcb]; exact hc)
  have hl : ((blocksI [1779033703, 3144134277, 1013904242, 2773480762, 1359893119, 2600822924, 528734635, 1541459225] s).2).length = r.len := by
    cases hra : r.a with
    | none =>
      rw [hra] at hrow
      unfold rowOf at hrow
      dsimp only at hrow
      split at hrow
      · rename_i h0
        injection hrow with hrow
        rw [h0]
        have := congrArg List.length hrow
        simpa using this.symm
      · cases hrow
    | some ad =>
      rw [hra] at hrow
      have := rdn_len hrow
      simpa using this
  rw [Int.zero_add, wrap64 (by omega) (by omega)] at ha
  refine ⟨rfl, (hsum_ok hw hrc ha (hk.le hle) hrow ?_ hl).mono ?_⟩
  · unfold blocksI; omega
  · rintro v h3 ⟨rfl, rfl⟩
    exact ⟨_, rfl, hle, rfl⟩
/-- The sum of a node's text. -/
def sumT (s : List UInt8) : List UInt8 := shaM (1 :: s)
theorem digest_ok {s : List UInt8} (hs : s.length ≤ 1073741823) {h : Heap} (hk : KH h) {tag : Int} (h1 : 1 ≤ tag) (h2 : tag ≤ 255) : Spec Tryz.prog 220 [.int .i64 tag, S s] h (fun v h' => h' = h ∧ v = .tuple ⟨[S (shaM (UInt8.ofNat tag.toNat :: s)), .int .i64 0]⟩) := by
  apply ok220
  unfold VC220
  intro J hJ
  have h3 : J false h := by
    refine hJ _ _ ⟨fun hh => (by cases hh), fun _ => ⟨[UInt8.ofNat tag.toNat], ?_, by simp; omega, (sum_ok (by simp; omega) hk).mono ?_⟩⟩
    · rw [wrapU8 (by omega) (by omega)]
      simp [byteV]
      omega
    · rintro v h4 ⟨rfl, rfl⟩
      exact ⟨_, rfl, rfl, rfl⟩
  refine ⟨fun _ => ?_, fun hh => by simp at hh; omega⟩
  have : decide (tag > 255) = false := by simp; omega
  rw [this]; exact h3
end Go.Vw
namespace Go.Vw
open Go Go.Proofs

/- pharos/node.Kids -/
def an247 : An := (.nd none [] [] .leaf (.nd none [] [] .leaf (.nd none [] [] (.nd none [] [] .leaf (.nd none [] [] (.nd none [.slot 3 .slice, .slot 8 (.int .i64)] [] (.nd none [] [] .leaf (.nd none [] [] .leaf (.nd none [] [] (.nd (some [.slot 3 .slice]) [] [] (.nd none [] [] .leaf (.nd none [] [] .leaf (.nd (some [.slot 3 .slice]) [] [] .leaf .leaf))) .leaf) .leaf))) .leaf) .leaf)) .leaf)))
def VC247 (n : GApiNode) (h : Heap) (Q : Value → Heap → Prop) : Prop :=
 (∃ l : (List (List UInt8)),
 (((sub (cGApiNode n) 3 (16 : Nat)) = (Option.some (List.map (fun (l1 : (List UInt8)) => (S l1)) l))) ∧
 (∃ k : (Sl → (Int → (Heap → (Prod Prop Nat)))),
 (((k (Sl.mk Option.none 0 0) (0 : Int) h)).fst ∧
  (∀ sl : Sl,
  (∀ n1 : Int,
  (∀ h1 : Heap,
  (((k sl n1 h1)).fst →
   ((((decide (n1 < (16 : Int))) = Bool.true) →
   (∀ J : (Sl → (Heap → Prop)),
   (((∀ sl1 : Sl,
    (∀ h2 : Heap,
    (((((k (Sl.mk (sl1).a (sl1).len (sl1).cap) (IntKind.wrap IntKind.i64 (n1 + (1 : Int))) h2)).fst ∧
     (((k (Sl.mk (sl1).a (sl1).len (sl1).cap) (IntKind.wrap IntKind.i64 (n1 + (1 : Int))) h2)).snd < ((k sl n1 h1)).snd))) →
    (J sl1 h2))))) →
    ((((0 : Int) ≤ n1) ∧
    (n1 < (16 : Int))) ∧
    (∃ l2 : (List UInt8),
    ((((List.map (fun (l3 : (List UInt8)) => (S l3)) l))[((Int.toNat n1) * (1 : Nat))]? = (Option.some (S l2))) ∧
    (∀ J1 : (Sl → (Heap → Prop)),
     (((∀ sl2 : Sl,
     (∀ h3 : Heap,
     ((J (Sl.mk (sl2).a (sl2).len (sl2).cap) h3) →
      (J1 sl2 h3))))) →
     ((((!(l2 == [])) = Bool.true) →
     (((List.length [(S l2)]) = (1 * (1 : Nat))) ∧
      (∃ l4 : (List Value),
      (((rowOf h1 (sl).a ((sl).len * (1 : Nat))) = (Option.some l4)) ∧
      (((((sl).len + 1) * (16 : Nat)) ≤ 140737488355328) ∧
      ((((sl).len + 1) ≤ 9223372036854775807) ∧
       (((((sl).len + 1) ≤ (sl).cap) →
       (∀ ad : Addr,
       (((sl).a = (Option.some ad)) →
        ((Option.isSome (wr h1 (Addr.add ad ((sl).len * (1 : Nat))) [(S l2)])) = Bool.true)))) ∧
       ((((sl).a = Option.none) →
       ((((sl).len + 1) ≤ (sl).cap) →
        ([(S l2)] = []))) ∧
       (∀ sl3 : Sl,
       (∀ h4 : Heap,
        ((AppRes h1 (Sl.mk (sl).a (sl).len (sl).cap) (1 : Nat) 9 l4 [(S l2)] 1 sl3 h4) →
        (J1 (Sl.mk (sl3).a (sl3).len (sl3).cap) h4)))))))))))) ∧
     (((!(l2 == [])) = Bool.false) →
     (J1 (Sl.mk (sl).a (sl).len (sl).cap) h1))))))))))) ∧
   (((decide (n1 < (16 : Int))) = Bool.false) →
   (Q (Value.slice (sl).a (sl).len (sl).cap) h1)))))))))))
theorem vc247 (n : GApiNode) (h : Heap) (Q : Value → Heap → Prop) : evF Tryz.prog τ tok 247 an247 [.agg ⟨cGApiNode n⟩] h Q = VC247 n h Q := by kernel_rfl
theorem ok247 {n : GApiNode} {h : Heap} {Q : Value → Heap → Prop} (hv : VC247 n h Q) : Spec Tryz.prog 247 [.agg ⟨cGApiNode n⟩] h Q := evF_sound (P := Tryz.prog) (τ := τ) (ok := tok) (an := an247) (fun _ => drawn mixed) (by rw [vc247]; exact hv)

/- pharos/node.sums -/
def an405 : An := (.nd none [] [] .leaf (.nd none [] [] (.nd none [] [] .leaf (.nd none [] [] (.nd none [.slot 7 (.int .i64)] [] .leaf .leaf) .leaf)) .leaf))
def VC405 (l : Sl) (h : Heap) (Q : Value → Heap → Prop) : Prop :=
 (∃ k : (Int → (Heap → (Prod Prop Nat))),
 (((k (0 : Int) h)).fst ∧
 (∀ n : Int,
 (∀ h1 : Heap,
  (((k n h1)).fst →
  ((((decide (n < (((l).len : Nat) : Int))) = Bool.true) →
  ((((0 : Int) ≤ n) ∧
   (n < (((l).len : Nat) : Int))) ∧
   (∃ ad : Addr,
   (((l).a = (Option.some ad)) ∧
   (∃ l1 : (List UInt8),
   (((rd h1 (Addr.add ad ((Int.toNat n) * (1 : Nat)))) = (Option.some (S l1))) ∧
    (((((((List.length l1) : Nat) : Int) != (32 : Int)) = Bool.true) →
    (Q (Value.bool Bool.false) h1)) ∧
    ((((((List.length l1) : Nat) : Int) != (32 : Int)) = Bool.false) →
    (((k (IntKind.wrap IntKind.i64 (n + (1 : Int))) h1)).fst ∧
    (((k (IntKind.wrap IntKind.i64 (n + (1 : Int))) h1)).snd < ((k n h1)).snd)))))))))) ∧
  (((decide (n < (((l).len : Nat) : Int))) = Bool.false) →
  (Q (Value.bool Bool.true) h1))))))))
theorem vc405 (l : Sl) (h : Heap) (Q : Value → Heap → Prop) : evF Tryz.prog τ tok 405 an405 [.slice l.a l.len l.cap] h Q = VC405 l h Q := by kernel_rfl
theorem ok405 {l : Sl} {h : Heap} {Q : Value → Heap → Prop} (hv : VC405 l h Q) : Spec Tryz.prog 405 [.slice l.a l.len l.cap] h Q := evF_sound (P := Tryz.prog) (τ := τ) (ok := tok) (an := an405) (fun _ => drawn mixed) (by rw [vc405]; exact hv)

/- pharos/node.path -/
def an404 : An := (.nd none [] [] .leaf (.nd none [] [] (.nd (some [.slot 4 .bool]) [] [] .leaf .leaf) .leaf))
def VC404 (p : List UInt8) (least : Int) (h : Heap) (Q : Value → Heap → Prop) : Prop :=
 (∀ J : (Bool → (Heap → Prop)),
 (((∀ b : Bool,
 (∀ h1 : Heap,
  ((Q (Value.bool b) h1) →
  (J b h1))))) →
 (Spec Tryz.prog 174 [(S p)] h (fun v h2 =>
 (∃ b1 : Bool,
  ((v = (Value.bool b1)) ∧
  (((b1 = Bool.true) →
  ((((decide ((((List.length p) : Nat) : Int) ≥ least)) = Bool.true) →
   (J (decide ((((List.length p) : Nat) : Int) ≤ (16 : Int))) h2)) ∧
   (((decide ((((List.length p) : Nat) : Int) ≥ least)) = Bool.false) →
   (J Bool.false h2)))) ∧
  ((b1 = Bool.false) →
  (J Bool.false h2)))))))))
theorem vc404 (p : List UInt8) (least : Int) (h : Heap) (Q : Value → Heap → Prop) : evF Tryz.prog τ tok 404 an404 [S p, .int .i64 least] h Q = VC404 p least h Q := by kernel_rfl
theorem ok404 {p : List UInt8} {least : Int} {h : Heap} {Q : Value → Heap → Prop} (hv : VC404 p least h Q) : Spec Tryz.prog 404 [S p, .int .i64 least] h Q := evF_sound (P := Tryz.prog) (τ := τ) (ok := tok) (an := an404) (fun _ => drawn mixed) (by rw [vc404]; exact hv)

/- pharos/node.Check -/
def an386 : An := (.nd none [] [] .leaf (.nd none [] [] .leaf (.nd none [] [] .leaf (.nd none [] [] (.nd none [] [] .leaf (.nd (some [.slot 4 .bool]) [.slot 1 .ptr] [] (.nd none [] [] .leaf (.nd (some [.slot 4 .bool]) [.slot 1 .ptr] [] (.nd (some [.slot 4 .bool]) [] [] .leaf .leaf) (.nd none [] [] .leaf (.nd (some [.slot 4 .bool]) [.slot 1 .ptr] [] (.nd (some [.slot 4 .bool]) [.slot 1 .ptr] [] .leaf .leaf) (.nd none [] [] .leaf (.nd (some [.slot 4 .bool]) [] [] (.nd none [] [] .leaf (.nd none [] [] (.nd none [] [] .leaf (.nd (some [.slot 5 (.int .i64)]) [] [] .leaf .leaf)) (.nd (some [.slot 4 .bool]) [] [] .leaf .leaf))) .leaf)))))) .leaf)) .leaf))))
def VC386 (n : GApiNode) (h : Heap) (Q : Value → Heap → Prop) : Prop :=
 (((List.length (cGApiNode n)) = (19 : Nat)) ∧
 (Spec Tryz.prog 247 [(Value.agg ⟨(cGApiNode n)⟩)] h (fun v h1 =>
 (∃ sl : Sl,
 ((v = (Value.slice (sl).a (sl).len (sl).cap)) ∧
  (∀ b : Nat,
  (((h1 b) = Option.none) →
  (∀ J : (Bool → (Heap → Prop)),
  (((∀ b1 : Bool,
   (∀ h2 : Heap,
   ((((((!b1) = Bool.true) →
    (Q (Value.int IntKind.i64 (80 : Int)) h2)) ∧
    (((!b1) = Bool.false) →
    (Q (Value.int IntKind.i64 (0 : Int)) h2)))) →
   (J b1 h2))))) →
   (∀ J1 : (Bool → (Heap → Prop)),
   (((∀ b2 : Bool,
   (∀ h3 : Heap,
    ((J b2 h3) →
    (J1 b2 h3))))) →
   (((((n).Kind == (1 : Int)) = Bool.true) →
    (∀ J2 : (Bool → (Heap → Prop)),
    (((∀ b3 : Bool,
    (∀ h4 : Heap,
     ((J1 b3 h4) →
     (J2 b3 h4))))) →
    (∃ l : (List (List UInt8)),
    (((rdn (Heap.set h1 b (Obj.cells ⟨(cGApiNode n)⟩ 161 (Prod.mk 0 0))) (Addr.mk b 3 Option.none) (16 : Nat)) = (Option.some (List.map (fun (l1 : (List UInt8)) => (S l1)) l))) ∧
     (((List.replicate 16 (S [])) = (List.replicate 16 (S []))) ∧
     (∃ l2 : (List (List UInt8)),
     (∃ l3 : (List (List UInt8)),
     (((List.map (fun (l4 : (List UInt8)) => (S l4)) l) = (List.map (fun (l5 : (List UInt8)) => (S l5)) l2)) ∧
      (((List.replicate 16 (S [])) = (List.map (fun (l6 : (List UInt8)) => (S l6)) l3)) ∧
      ((((List.length l2) = 16) ∧
      ((List.length l3) = 16)) ∧
      ((((l2 == l3) = Bool.true) →
       (∃ l7 : (List UInt8),
       (((rd (Heap.set h1 b (Obj.cells ⟨(cGApiNode n)⟩ 161 (Prod.mk 0 0))) (Addr.mk b 1 Option.none)) = (Option.some (S l7))) ∧
       (Spec Tryz.prog 404 [(S l7), (Value.int IntKind.i64 (0 : Int))] (Heap.set h1 b (Obj.cells ⟨(cGApiNode n)⟩ 161 (Prod.mk 0 0))) (fun v1 h5 =>
       (∃ b4 : Bool,
        ((v1 = (Value.bool b4)) ∧
        (((b4 = Bool.true) →
        (∃ l8 : (List UInt8),
         (((rd h5 (Addr.mk b 2 Option.none)) = (Option.some (S l8))) ∧
         ((((!(l8 == [])) = Bool.true) →
         (∃ l9 : (List UInt8),
         (((rd h5 (Addr.mk b 2 Option.none)) = (Option.some (S l9))) ∧
         (J2 (decide ((((List.length l9) : Nat) : Int) ≤ (32 : Int))) h5)))) ∧
         (((!(l8 == [])) = Bool.false) →
         (J2 Bool.false h5)))))) ∧
        ((b4 = Bool.false) →
        (J2 Bool.false h5)))))))))) ∧
      (((l2 == l3) = Bool.false) →
       (J2 Bool.false (Heap.set h1 b (Obj.cells ⟨(cGApiNode n)⟩ 161 (Prod.mk 0 0))))))))))))))))) ∧
   ((((n).Kind == (1 : Int)) = Bool.false) →
    (∀ J3 : (Bool → (Heap → Prop)),
    (((∀ b5 : Bool,
    (∀ h6 : Heap,
     ((J1 b5 h6) →
     (J3 b5 h6))))) →
    (((((n).Kind == (2 : Int)) = Bool.true) →
     (∀ J4 : (Bool → (Heap → Prop)),
     (((∀ b6 : Bool,
     (∀ h7 : Heap,
      ((J3 b6 h7) →
      (J4 b6 h7))))) →
     (∃ l10 : (List (List UInt8)),
     (((rdn (Heap.set h1 b (Obj.cells ⟨(cGApiNode n)⟩ 161 (Prod.mk 0 0))) (Addr.mk b 3 Option.none) (16 : Nat)) = (Option.some (List.map (fun (l11 : (List UInt8)) => (S l11)) l10))) ∧
      ((((0 : Int) ≤ (0 : Int)) ∧
      ((0 : Int) < (16 : Int))) ∧
      (∃ l12 : (List UInt8),
      (((rd (Heap.set h1 b (Obj.cells ⟨(cGApiNode n)⟩ 161 (Prod.mk 0 0))) (Addr.mk b (3 + (0 * (1 : Nat))) Option.none)) = (Option.some (S l12))) ∧
      (((List.replicate 16 (S [])) = (List.replicate 16 (S []))) ∧
       (∃ l13 : (List (List UInt8)),
       (∃ l14 : (List (List UInt8)),
       (((List.map (fun (l15 : (List UInt8)) => (S l15)) l10) = (List.map (fun (l16 : (List UInt8)) => (S l16)) l13)) ∧
       (([(S l12), (S []), (S []), (S []), (S []), (S []), (S []), (S []), (S []), (S []), (S []), (S []), (S []), (S []), (S []), (S [])] = (List.map (fun (l17 : (List UInt8)) => (S l17)) l14)) ∧
        ((((List.length l13) = 16) ∧
        ((List.length l14) = 16)) ∧
        ((((l13 == l14) = Bool.true) →
        (((0 : Int) ≤ (1 : Int)) ∧
         (((0 ≤ 1) ∧
         ((1 ≤ 16) ∧
         (16 ≤ 16))) ∧
         (((Bool.false = Bool.true) →
         (Bool.true = Bool.true)) ∧
         (Spec Tryz.prog 405 [(Value.slice (Option.some (Addr.mk b 3 Option.none)) 1 16)] (Heap.set h1 b (Obj.cells ⟨(cGApiNode n)⟩ 161 (Prod.mk 0 0))) (fun v2 h8 =>
         (∃ b7 : Bool,
         ((v2 = (Value.bool b7)) ∧
         (((b7 = Bool.true) →
         (∃ l18 : (List UInt8),
         (((rd h8 (Addr.mk b 1 Option.none)) = (Option.some (S l18))) ∧
         (Spec Tryz.prog 404 [(S l18), (Value.int IntKind.i64 (1 : Int))] h8 (fun v3 h9 =>
         (∃ b8 : Bool,
         ((v3 = (Value.bool b8)) ∧
         (((b8 = Bool.true) →
         (∃ l19 : (List UInt8),
         (((rd h9 (Addr.mk b 2 Option.none)) = (Option.some (S l19))) ∧
         (J4 (l19 == []) h9)))) ∧
         ((b8 = Bool.false) →
         (J4 Bool.false h9)))))))))) ∧
         ((b7 = Bool.false) →
         (J4 Bool.false h8))))))))))) ∧
        (((l13 == l14) = Bool.false) →
        (J4 Bool.false (Heap.set h1 b (Obj.cells ⟨(cGApiNode n)⟩ 161 (Prod.mk 0 0)))))))))))))))))))) ∧
    ((((n).Kind == (2 : Int)) = Bool.false) →
     (∀ J5 : (Bool → (Heap → Prop)),
     (((∀ b9 : Bool,
     (∀ h10 : Heap,
      ((J3 b9 h10) →
      (J5 b9 h10))))) →
     (((((n).Kind == (3 : Int)) = Bool.true) →
      (∃ l20 : (List UInt8),
      (((rd (Heap.set h1 b (Obj.cells ⟨(cGApiNode n)⟩ 161 (Prod.mk 0 0))) (Addr.mk b 2 Option.none)) = (Option.some (S l20))) ∧
      (∀ J6 : (Int → (Heap → Prop)),
      (((∀ n1 : Int,
       (∀ h11 : Heap,
       (((∀ J7 : (Bool → (Heap → Prop)),
        (((∀ b10 : Bool,
        (∀ h12 : Heap,
        ((J5 b10 h12) →
         (J7 b10 h12))))) →
        (∃ l21 : (List UInt8),
        (((rd h11 (Addr.mk b 1 Option.none)) = (Option.some (S l21))) ∧
        ((((l21 == []) = Bool.true) →
         (Spec Tryz.prog 405 [(Value.slice (sl).a (sl).len (sl).cap)] h11 (fun v4 h13 =>
         (∃ b11 : Bool,
         ((v4 = (Value.bool b11)) ∧
         (((b11 = Bool.true) →
         ((((decide (n1 ≥ (2 : Int))) = Bool.true) →
         (∃ l22 : (List UInt8),
         (((rd h13 (Addr.mk b 2 Option.none)) = (Option.some (S l22))) ∧
         (J7 (decide ((((List.length l22) : Nat) : Int) ≤ (32 : Int))) h13)))) ∧
         (((decide (n1 ≥ (2 : Int))) = Bool.false) →
         (J7 Bool.false h13)))) ∧
         ((b11 = Bool.false) →
         (J7 Bool.false h13)))))))) ∧
         (((l21 == []) = Bool.false) →
         (J7 Bool.false h11)))))))) →
       (J6 n1 h11))))) →
       ((((!(l20 == [])) = Bool.true) →
       (J6 (IntKind.wrap IntKind.i64 ((((sl).len : Nat) : Int) + (1 : Int))) (Heap.set h1 b (Obj.cells ⟨(cGApiNode n)⟩ 161 (Prod.mk 0 0))))) ∧
       (((!(l20 == [])) = Bool.false) →
       (J6 (((sl).len : Nat) : Int) (Heap.set h1 b (Obj.cells ⟨(cGApiNode n)⟩ 161 (Prod.mk 0 0))))))))))) ∧
     ((((n).Kind == (3 : Int)) = Bool.false) →
      (J5 Bool.false (Heap.set h1 b (Obj.cells ⟨(cGApiNode n)⟩ 161 (Prod.mk 0 0)))))))))))))))))))))))))
theorem vc386 (n : GApiNode) (h : Heap) (Q : Value → Heap → Prop) : evF Tryz.prog τ tok 386 an386 [.agg ⟨cGApiNode n⟩] h Q = VC386 n h Q := by kernel_rfl
theorem ok386 {n : GApiNode} {h : Heap} {Q : Value → Heap → Prop} (hv : VC386 n h Q) : Spec Tryz.prog 386 [.agg ⟨cGApiNode n⟩] h Q := evF_sound (P := Tryz.prog) (τ := τ) (ok := tok) (an := an386) (fun _ => drawn mixed) (by rw [vc386]; exact hv)

/- pharos/node.Encode -/
def an323 : An := (.nd none [] [] .leaf (.nd none [] [] .leaf (.nd none [] [] .leaf (.nd none [] [] (.nd none [] [] .leaf (.nd none [] [] (.nd none [] [] .leaf (.nd none [] [] (.nd none [] [] .leaf (.nd none [] [] (.nd none [.slot 6 (.int .i64), .slot 28 (.int .i64)] [] (.nd none [] [] .leaf (.nd none [] [] .leaf (.nd none [] [] (.nd (some [.slot 6 (.int .i64)]) [] [] (.nd none [] [] .leaf (.nd none [] [] .leaf (.nd (some [.slot 6 (.int .i64)]) [] [] .leaf .leaf))) .leaf) .leaf))) .leaf) .leaf)) (.nd none [] [] .leaf (.nd none [] [] (.nd none [] [] .leaf (.nd none [] [] (.nd none [.slot 5 .str, .slot 52 (.int .i64)] [] .leaf .leaf) .leaf)) .leaf)))) .leaf)) .leaf))))
def VC323 (n : GApiNode) (h : Heap) (Q : Value → Heap → Prop) : Prop :=
 (((List.length (cGApiNode n)) = (19 : Nat)) ∧
 (Spec Tryz.prog 386 [(Value.agg ⟨(cGApiNode n)⟩)] h (fun v h1 =>
 (∃ n1 : Int,
 ((v = (Value.int IntKind.i64 n1)) ∧
  ((((n1 != (0 : Int)) = Bool.true) →
  (Q (Value.tuple ⟨[(S []), (Value.int IntKind.i64 n1)]⟩) h1)) ∧
  (((n1 != (0 : Int)) = Bool.false) →
  (∃ l : (List UInt8),
  (((Option.some [(Value.int IntKind.u8 (IntKind.wrap IntKind.u8 (n).Kind))]) = (Option.some (List.map byteV l))) ∧
   (((((n).Kind == (3 : Int)) = Bool.true) →
   (∃ l1 : (List (List UInt8)),
   (((sub (cGApiNode n) 3 (16 : Nat)) = (Option.some (List.map (fun (l2 : (List UInt8)) => (S l2)) l1))) ∧
    (∃ k : (Int → (Int → (Heap → (Prod Prop Nat)))),
    (((k (0 : Int) (0 : Int) h1)).fst ∧
    (∀ n2 : Int,
    (∀ n3 : Int,
     (∀ h2 : Heap,
     (((k n2 n3 h2)).fst →
     ((((decide (n3 < (16 : Int))) = Bool.true) →
      (∀ J : (Int → (Heap → Prop)),
      (((∀ n4 : Int,
      (∀ h3 : Heap,
       (((((k n4 (IntKind.wrap IntKind.i64 (n3 + (1 : Int))) h3)).fst ∧
       (((k n4 (IntKind.wrap IntKind.i64 (n3 + (1 : Int))) h3)).snd < ((k n2 n3 h2)).snd))) →
       (J n4 h3))))) →
      ((((0 : Int) ≤ n3) ∧
       (n3 < (16 : Int))) ∧
      (∃ l3 : (List UInt8),
       ((((List.map (fun (l4 : (List UInt8)) => (S l4)) l1))[((Int.toNat n3) * (1 : Nat))]? = (Option.some (S l3))) ∧
       (∀ J1 : (Int → (Heap → Prop)),
       (((∀ n5 : Int,
        (∀ h4 : Heap,
        ((J n5 h4) →
        (J1 n5 h4))))) →
       ((((!(l3 == [])) = Bool.true) →
        (((0 : Int) ≤ (IntKind.wrap IntKind.i64 ((15 : Int) - n3))) ∧
        (J1 (bitsV BinOp.or IntKind.i64 n2 (IntKind.wrap IntKind.i64 ((1 : Int) * ((2 : Int) ^ (Min.min (Int.toNat (IntKind.wrap IntKind.i64 ((15 : Int) - n3))) 64))))) h2))) ∧
        (((!(l3 == [])) = Bool.false) →
        (J1 n2 h2))))))))))) ∧
     (((decide (n3 < (16 : Int))) = Bool.false) →
      (∃ l5 : (List UInt8),
      (((Option.some [(Value.int IntKind.u8 (IntKind.wrap IntKind.u8 (Int.fdiv n2 (256 : Int)))), (Value.int IntKind.u8 (IntKind.wrap IntKind.u8 n2))]) = (Option.some (List.map byteV l5))) ∧
      ((((List.length l) + (List.length l5)) ≤ 9223372036854775807) ∧
      (((List.length (cGApiNode n)) = (19 : Nat)) ∧
       (Spec Tryz.prog 247 [(Value.agg ⟨(cGApiNode n)⟩)] h2 (fun v1 h5 =>
       (∃ sl : Sl,
       ((v1 = (Value.slice (sl).a (sl).len (sl).cap)) ∧
       (∃ k1 : ((List UInt8) → (Int → (Heap → (Prod Prop Nat)))),
        (((k1 (l ++ l5) (0 : Int) h5)).fst ∧
        (∀ l6 : (List UInt8),
        (∀ n6 : Int,
        (∀ h6 : Heap,
         (((k1 l6 n6 h6)).fst →
         ((((decide (n6 < (((sl).len : Nat) : Int))) = Bool.true) →
         ((((0 : Int) ≤ n6) ∧
         (n6 < (((sl).len : Nat) : Int))) ∧
         (∃ ad : Addr,
         (((sl).a = (Option.some ad)) ∧
         (∃ l7 : (List UInt8),
         (((rd h6 (Addr.add ad ((Int.toNat n6) * (1 : Nat)))) = (Option.some (S l7))) ∧
         ((((List.length l6) + (List.length l7)) ≤ 9223372036854775807) ∧
         (((k1 (l6 ++ l7) (IntKind.wrap IntKind.i64 (n6 + (1 : Int))) h6)).fst ∧
         (((k1 (l6 ++ l7) (IntKind.wrap IntKind.i64 (n6 + (1 : Int))) h6)).snd < ((k1 l6 n6 h6)).snd))))))))) ∧
         (((decide (n6 < (((sl).len : Nat) : Int))) = Bool.false) →
         (Spec Tryz.prog 194 [(S (n).Value)] h6 (fun v2 h7 =>
         (∃ l8 : (List UInt8),
         ((v2 = (S l8)) ∧
         ((((List.length l6) + (List.length l8)) ≤ 9223372036854775807) ∧
         (Q (Value.tuple ⟨[(S (l6 ++ l8)), (Value.int IntKind.i64 (0 : Int))]⟩) h7))))))))))))))))))))))))))))))))) ∧
   ((((n).Kind == (3 : Int)) = Bool.false) →
   (Spec Tryz.prog 387 [(S (n).Path), (Value.bool ((n).Kind == (1 : Int)))] h1 (fun v3 h8 =>
   (∃ l9 : (List UInt8),
    (∃ n7 : Int,
    ((v3 = (Value.tuple ⟨[(S l9), (Value.int IntKind.i64 n7)]⟩)) ∧
    (Spec Tryz.prog 194 [(S l9)] h8 (fun v4 h9 =>
    (∃ l10 : (List UInt8),
     ((v4 = (S l10)) ∧
     ((((List.length l) + (List.length l10)) ≤ 9223372036854775807) ∧
     (((((n).Kind == (1 : Int)) = Bool.true) →
      (Spec Tryz.prog 194 [(S (n).Value)] h9 (fun v5 h10 =>
      (∃ l11 : (List UInt8),
      ((v5 = (S l11)) ∧
      ((((List.length (l ++ l10)) + (List.length l11)) ≤ 9223372036854775807) ∧
       (Q (Value.tuple ⟨[(S ((l ++ l10) ++ l11)), (Value.int IntKind.i64 (0 : Int))]⟩) h10))))))) ∧
     ((((n).Kind == (1 : Int)) = Bool.false) →
      ((((0 : Int) ≤ (0 : Int)) ∧
      ((0 : Int) < (16 : Int))) ∧
      (∃ l12 : (List UInt8),
      ((((cGApiNode n))[(3 + (0 * (1 : Nat)))]? = (Option.some (S l12))) ∧
      ((((List.length (l ++ l10)) + (List.length l12)) ≤ 9223372036854775807) ∧
       (Q (Value.tuple ⟨[(S ((l ++ l10) ++ l12)), (Value.int IntKind.i64 (0 : Int))]⟩) h9))))))))))))))))))))))))))))
theorem vc323 (n : GApiNode) (h : Heap) (Q : Value → Heap → Prop) : evF Tryz.prog τ tok 323 an323 [.agg ⟨cGApiNode n⟩] h Q = VC323 n h Q := by kernel_rfl
theorem ok323 {n : GApiNode} {h : Heap} {Q : Value → Heap → Prop} (hv : VC323 n h Q) : Spec Tryz.prog 323 [.agg ⟨cGApiNode n⟩] h Q := evF_sound (P := Tryz.prog) (τ := τ) (ok := tok) (an := an323) (fun _ => drawn mixed) (by rw [vc323]; exact hv)

/- pharos/node.branch -/
def an384 : An := (.nd none [] [] .leaf (.nd none [] [] .leaf (.nd none [] [] (.nd none [] [0, 1, 2, 3, 4, 5, 6, 7, 8] .leaf .leaf) (.nd none [] [] (.nd none [] [] .leaf (.nd none [] [] (.nd none [.slot 19 (.int .i64)] [] (.nd none [] [] .leaf (.nd none [] [] .leaf (.nd none [] [] (.nd (some []) [] [] (.nd none [] [] .leaf (.nd none [] [] .leaf (.nd (some []) [] [] (.nd none [] [0, 1, 2, 4, 5, 3, 6, 7] .leaf .leaf) .leaf))) .leaf) .leaf))) .leaf) .leaf)) .leaf))))
def VC384 (r : Option Addr) (n : Option Addr) (h : Heap) (Q : Value → Heap → Prop) : Prop :=
 (Spec Tryz.prog 337 [(Value.pointer r), (Value.int IntKind.i64 (2 : Int))] h (fun v h1 =>
 (∃ l : (List UInt8),
 ((v = (S l)) ∧
 ((((l == []) = Bool.true) →
  (Q (Value.tuple ⟨[]⟩) h1)) ∧
  (((l == []) = Bool.false) →
  (∃ ui : UInt8,
  (((0 : Int) ≤ (0 : Int)) ∧
  (((l)[0]? = (Option.some ui)) ∧
   (∃ ui1 : UInt8,
   (((0 : Int) ≤ (1 : Int)) ∧
   (((l)[1]? = (Option.some ui1)) ∧
   (∃ k : (Int → (Heap → (Prod Prop Nat))),
    (((k (0 : Int) h1)).fst ∧
    (∀ n1 : Int,
    (∀ h2 : Heap,
    (((k n1 h2)).fst →
     ((((decide (n1 < (16 : Int))) = Bool.true) →
     (∀ J : (Heap → Prop),
     (((∀ h3 : Heap,
      (((((k (IntKind.wrap IntKind.i64 (n1 + (1 : Int))) h3)).fst ∧
      (((k (IntKind.wrap IntKind.i64 (n1 + (1 : Int))) h3)).snd < ((k n1 h2)).snd))) →
      (J h3)))) →
      (((0 : Int) ≤ (IntKind.wrap IntKind.i64 ((15 : Int) - n1))) ∧
      (∀ J1 : (Heap → Prop),
      (((∀ h4 : Heap,
       ((J h4) →
       (J1 h4)))) →
      (((((bitsV BinOp.and IntKind.i64 (Int.fdiv (bitsV BinOp.or IntKind.i64 (IntKind.wrap IntKind.i64 ((IntKind.wrap IntKind.i64 (((UInt8.toNat ui) : Nat) : Int)) * (256 : Int))) (IntKind.wrap IntKind.i64 (((UInt8.toNat ui1) : Nat) : Int))) ((2 : Int) ^ (Min.min (Int.toNat (IntKind.wrap IntKind.i64 ((15 : Int) - n1))) 64))) (1 : Int)) == (1 : Int)) = Bool.true) →
       (∃ ad : Addr,
       ((n = (Option.some ad)) ∧
       (Spec Tryz.prog 337 [(Value.pointer r), (Value.int IntKind.i64 (32 : Int))] h2 (fun v1 h5 =>
        (∃ l1 : (List UInt8),
        ((v1 = (S l1)) ∧
        ((((0 : Int) ≤ n1) ∧
         (n1 < (16 : Int))) ∧
        (∃ h6 : Heap,
         (((wr h5 (Addr.add (Addr.mk (ad).block ((ad).off + 3) Option.none) ((Int.toNat n1) * (1 : Nat))) [(S l1)]) = (Option.some h6)) ∧
         (J1 h6))))))))))) ∧
       ((((bitsV BinOp.and IntKind.i64 (Int.fdiv (bitsV BinOp.or IntKind.i64 (IntKind.wrap IntKind.i64 ((IntKind.wrap IntKind.i64 (((UInt8.toNat ui) : Nat) : Int)) * (256 : Int))) (IntKind.wrap IntKind.i64 (((UInt8.toNat ui1) : Nat) : Int))) ((2 : Int) ^ (Min.min (Int.toNat (IntKind.wrap IntKind.i64 ((15 : Int) - n1))) 64))) (1 : Int)) == (1 : Int)) = Bool.false) →
       (J1 h2))))))))) ∧
     (((decide (n1 < (16 : Int))) = Bool.false) →
     (Spec Tryz.prog 271 [(Value.pointer r), (Value.int IntKind.i64 (32 : Int))] h2 (fun v2 h7 =>
     (∃ l2 : (List UInt8),
      ((v2 = (S l2)) ∧
      (∃ ad1 : Addr,
      ((n = (Option.some ad1)) ∧
      (∃ h8 : Heap,
       (((wr h7 (Addr.mk (ad1).block ((ad1).off + 2) Option.none) [(S l2)]) = (Option.some h8)) ∧
       (Q (Value.tuple ⟨[]⟩) h8))))))))))))))))))))))))))))
theorem vc384 (r : Option Addr) (n : Option Addr) (h : Heap) (Q : Value → Heap → Prop) : evF Tryz.prog τ tok 384 an384 [.pointer r, .pointer n] h Q = VC384 r n h Q := by kernel_rfl
theorem ok384 {r : Option Addr} {n : Option Addr} {h : Heap} {Q : Value → Heap → Prop} (hv : VC384 r n h Q) : Spec Tryz.prog 384 [.pointer r, .pointer n] h Q := evF_sound (P := Tryz.prog) (τ := τ) (ok := tok) (an := an384) (fun _ => drawn mixed) (by rw [vc384]; exact hv)

/- pharos/node.other -/
def an385 : An := (.nd none [] [] .leaf (.nd none [] [] .leaf (.nd none [] [] .leaf (.nd none [] [] (.nd none [] [] .leaf (.nd (some []) [] [] .leaf (.nd none [] [0, 1, 3, 4, 2, 5, 6] .leaf .leaf))) (.nd none [] [] (.nd (some [.slot 4 .bool]) [] [] .leaf .leaf) .leaf)))))
def VC385 (r : Option Addr) (n : Option Addr) (h : Heap) (Q : Value → Heap → Prop) : Prop :=
 (Spec Tryz.prog 271 [(Value.pointer r), (Value.int IntKind.i64 (16 : Int))] h (fun v h1 =>
 (∃ l : (List UInt8),
 ((v = (S l)) ∧
 (Spec Tryz.prog 403 [(S l)] h1 (fun v1 h2 =>
  (∃ l1 : (List UInt8),
  (∃ b : Bool,
  (∃ n1 : Int,
  ((v1 = (Value.tuple ⟨[(S l1), (Value.bool b), (Value.int IntKind.i64 n1)]⟩)) ∧
   (∃ ad : Addr,
   ((n = (Option.some ad)) ∧
   (∃ h3 : Heap,
   (((wr h2 (Addr.mk (ad).block ((ad).off + 1) Option.none) [(S l1)]) = (Option.some h3)) ∧
    (∃ ad1 : Addr,
    ((n = (Option.some ad1)) ∧
    (∃ n2 : Int,
    (((rd h3 (Addr.add ad1 0)) = (Option.some (Value.int IntKind.i64 n2))) ∧
     (∀ J : (Heap → Prop),
     (((∀ h4 : Heap,
     (((∀ J1 : (Bool → (Heap → Prop)),
      (((∀ b1 : Bool,
      (∀ h5 : Heap,
       ((Q (Value.bool b1) h5) →
       (J1 b1 h5))))) →
      ((((n1 == (0 : Int)) = Bool.true) →
       (∃ ad2 : Addr,
       ((n = (Option.some ad2)) ∧
       (∃ n3 : Int,
       (((rd h4 (Addr.add ad2 0)) = (Option.some (Value.int IntKind.i64 n3))) ∧
        (J1 (b == (n3 == (1 : Int))) h4)))))) ∧
      (((n1 == (0 : Int)) = Bool.false) →
       (J1 Bool.false h4)))))) →
      (J h4)))) →
     ((((n2 == (1 : Int)) = Bool.true) →
      (Spec Tryz.prog 271 [(Value.pointer r), (Value.int IntKind.i64 (32 : Int))] h3 (fun v2 h6 =>
      (∃ l2 : (List UInt8),
      ((v2 = (S l2)) ∧
      (∃ ad3 : Addr,
       ((n = (Option.some ad3)) ∧
       (∃ h7 : Heap,
       (((wr h6 (Addr.mk (ad3).block ((ad3).off + 2) Option.none) [(S l2)]) = (Option.some h7)) ∧
       (J h7)))))))))) ∧
     (((n2 == (1 : Int)) = Bool.false) →
      (∃ ad4 : Addr,
      ((n = (Option.some ad4)) ∧
      (Spec Tryz.prog 337 [(Value.pointer r), (Value.int IntKind.i64 (32 : Int))] h3 (fun v3 h8 =>
      (∃ l3 : (List UInt8),
       ((v3 = (S l3)) ∧
       ((((0 : Int) ≤ (0 : Int)) ∧
       ((0 : Int) < (16 : Int))) ∧
       (∃ h9 : Heap,
       (((wr h8 (Addr.mk (ad4).block ((ad4).off + 3) Option.none) [(S l3)]) = (Option.some h9)) ∧
        (J h9))))))))))))))))))))))))))))))))
theorem vc385 (r : Option Addr) (n : Option Addr) (h : Heap) (Q : Value → Heap → Prop) : evF Tryz.prog τ tok 385 an385 [.pointer r, .pointer n] h Q = VC385 r n h Q := by kernel_rfl
theorem ok385 {r : Option Addr} {n : Option Addr} {h : Heap} {Q : Value → Heap → Prop} (hv : VC385 r n h Q) : Spec Tryz.prog 385 [.pointer r, .pointer n] h Q := evF_sound (P := Tryz.prog) (τ := τ) (ok := tok) (an := an385) (fun _ => drawn mixed) (by rw [vc385]; exact hv)

/- pharos/node.Decode -/
def an322 : An := (.nd none [] [] .leaf (.nd none [] [] .leaf (.nd none [] [] .leaf (.nd none [] [] (.nd none [] [] .leaf (.nd none [] [] .leaf (.nd (some [.loc 1 (.st GApiNode cGApiNode 3)]) [] [] .leaf .leaf))) (.nd none [] [] .leaf (.nd none [] [] (.nd none [] [] .leaf (.nd (some [.slot 7 .bool]) [.slot 5 .ptr] [] .leaf .leaf)) (.nd none [] [] (.nd none [] [] (.nd (some [.slot 36 .bool]) [] [] .leaf .leaf) .leaf) .leaf)))))))
def VC322 (s : List UInt8) (h : Heap) (Q : Value → Heap → Prop) : Prop :=
 (Spec Tryz.prog 183 [(S s)] h (fun v h1 =>
 (∃ p : (Option Addr),
 ((v = (Value.pointer p)) ∧
 (Spec Tryz.prog 337 [(Value.pointer p), (Value.int IntKind.i64 (1 : Int))] h1 (fun v1 h2 =>
  (∃ l : (List UInt8),
  ((v1 = (S l)) ∧
  (∀ J : (GApiNode → (Heap → Prop)),
  (((∀ ga : GApiNode,
   (∀ h3 : Heap,
   (((∀ b : Nat,
    (((h3 b) = Option.none) →
    (∀ J1 : (Bool → (Heap → Prop)),
    (((∀ b1 : Bool,
     (∀ h4 : Heap,
     (((∀ J2 : (Bool → (Heap → Prop)),
     (((∀ b2 : Bool,
      (∀ h5 : Heap,
      (((((b2 = Bool.true) →
       ((((List.length [(Value.int IntKind.i64 (0 : Int)), (S []), (S []), (S []), (S []), (S []), (S []), (S []), (S []), (S []), (S []), (S []), (S []), (S []), (S []), (S []), (S []), (S []), (S [])]) = (19 : Nat)) ∧
       ((List.length [(Value.int IntKind.i64 (0 : Int)), (S []), (S []), (S []), (S []), (S []), (S []), (S []), (S []), (S []), (S []), (S []), (S []), (S []), (S []), (S []), (S []), (S []), (S [])]) = 19)) ∧
       (((List.length [(Value.int IntKind.i64 (0 : Int)), (S []), (S []), (S []), (S []), (S []), (S []), (S []), (S []), (S []), (S []), (S []), (S []), (S []), (S []), (S []), (S []), (S []), (S [])]) = (19 : Nat)) ∧
       (Q (Value.tuple ⟨[(Value.agg ⟨[(Value.int IntKind.i64 (0 : Int)), (S []), (S []), (S []), (S []), (S []), (S []), (S []), (S []), (S []), (S []), (S []), (S []), (S []), (S []), (S []), (S []), (S []), (S [])]⟩), (Value.int IntKind.i64 (80 : Int))]⟩) h5)))) ∧
       ((b2 = Bool.false) →
       (∃ ga1 : GApiNode,
       (((rdn h5 (Addr.mk b 0 Option.none) (19 : Nat)) = (Option.some (cGApiNode ga1))) ∧
       ((((List.length (cGApiNode ga1)) = (19 : Nat)) ∧
        ((List.length (cGApiNode ga1)) = 19)) ∧
        (((List.length (cGApiNode ga1)) = (19 : Nat)) ∧
        (Q (Value.tuple ⟨[(Value.agg ⟨(cGApiNode ga1)⟩), (Value.int IntKind.i64 (0 : Int))]⟩) h5)))))))) →
      (J2 b2 h5))))) →
      (Spec Tryz.prog 185 [(Value.pointer p)] h4 (fun v2 h6 =>
      (∃ n : Int,
      ((v2 = (Value.int IntKind.i64 n)) ∧
      ((((n != (0 : Int)) = Bool.false) →
       ((((!b1) = Bool.false) →
       (∃ ga2 : GApiNode,
        (((rdn h6 (Addr.mk b 0 Option.none) (19 : Nat)) = (Option.some (cGApiNode ga2))) ∧
        (Spec Tryz.prog 386 [(Value.agg ⟨(cGApiNode ga2)⟩)] h6 (fun v3 h7 =>
        (∃ n1 : Int,
        ((v3 = (Value.int IntKind.i64 n1)) ∧
         (J2 (n1 != (0 : Int)) h7)))))))) ∧
       (((!b1) = Bool.true) →
       (J2 Bool.true h6)))) ∧
       (((n != (0 : Int)) = Bool.true) →
       (J2 Bool.true h6)))))))))) →
     (J1 b1 h4))))) →
    (((((ga).Kind == (3 : Int)) = Bool.true) →
     (Spec Tryz.prog 384 [(Value.pointer p), (Value.pointer (Option.some (Addr.mk b 0 Option.none)))] (Heap.set h3 b (Obj.cells ⟨(cGApiNode ga)⟩ 161 (Prod.mk 0 0))) (fun v4 h8 =>
     ((v4 = (Value.tuple ⟨[]⟩)) ∧
     (J1 Bool.true h8))))) ∧
     ((((ga).Kind == (3 : Int)) = Bool.false) →
     (Spec Tryz.prog 385 [(Value.pointer p), (Value.pointer (Option.some (Addr.mk b 0 Option.none)))] (Heap.set h3 b (Obj.cells ⟨(cGApiNode ga)⟩ 161 (Prod.mk 0 0))) (fun v5 h9 =>
     (∃ b3 : Bool,
     ((v5 = (Value.bool b3)) ∧
      (J1 b3 h9)))))))))))) →
   (J ga h3))))) →
   ((((!(l == [])) = Bool.true) →
   (∃ ui : UInt8,
   (((0 : Int) ≤ (0 : Int)) ∧
    (((l)[0]? = (Option.some ui)) ∧
    (∃ ga3 : GApiNode,
    (([(Value.int IntKind.i64 (IntKind.wrap IntKind.i64 (((UInt8.toNat ui) : Nat) : Int))), (S []), (S []), (S []), (S []), (S []), (S []), (S []), (S []), (S []), (S []), (S []), (S []), (S []), (S []), (S []), (S []), (S []), (S [])] = (cGApiNode ga3)) ∧
    (J ga3 h2))))))) ∧
   (((!(l == [])) = Bool.false) →
   (∃ ga4 : GApiNode,
   (([(Value.int IntKind.i64 (0 : Int)), (S []), (S []), (S []), (S []), (S []), (S []), (S []), (S []), (S []), (S []), (S []), (S []), (S []), (S []), (S []), (S []), (S []), (S [])] = (cGApiNode ga4)) ∧
    (J ga4 h2)))))))))))))))
theorem vc322 (s : List UInt8) (h : Heap) (Q : Value → Heap → Prop) : evF Tryz.prog τ tok 322 an322 [S s] h Q = VC322 s h Q := by kernel_rfl
theorem ok322 {s : List UInt8} {h : Heap} {Q : Value → Heap → Prop} (hv : VC322 s h Q) : Spec Tryz.prog 322 [S s] h Q := evF_sound (P := Tryz.prog) (τ := τ) (ok := tok) (an := an322) (fun _ => drawn mixed) (by rw [vc322]; exact hv)

/- pharos/node.Digest -/
def an324 : An := .leaf
def VC324 (n : GApiNode) (h : Heap) (Q : Value → Heap → Prop) : Prop :=
 (((List.length (cGApiNode n)) = (19 : Nat)) ∧
 (Spec Tryz.prog 323 [(Value.agg ⟨(cGApiNode n)⟩)] h (fun v h1 =>
 (∃ l : (List UInt8),
 (∃ n1 : Int,
  ((v = (Value.tuple ⟨[(S l), (Value.int IntKind.i64 n1)]⟩)) ∧
  ((((n1 != (0 : Int)) = Bool.true) →
  (Q (S []) h1)) ∧
  (((n1 != (0 : Int)) = Bool.false) →
  (Spec Tryz.prog 220 [(Value.int IntKind.i64 (1 : Int)), (S l)] h1 (fun v1 h2 =>
   (∃ l1 : (List UInt8),
   (∃ n2 : Int,
   ((v1 = (Value.tuple ⟨[(S l1), (Value.int IntKind.i64 n2)]⟩)) ∧
   (Q (S l1) h2))))))))))))))
theorem vc324 (n : GApiNode) (h : Heap) (Q : Value → Heap → Prop) : evF Tryz.prog τ tok 324 an324 [.agg ⟨cGApiNode n⟩] h Q = VC324 n h Q := by kernel_rfl
theorem ok324 {n : GApiNode} {h : Heap} {Q : Value → Heap → Prop} (hv : VC324 n h Q) : Spec Tryz.prog 324 [.agg ⟨cGApiNode n⟩] h Q := evF_sound (P := Tryz.prog) (τ := τ) (ok := tok) (an := an324) (fun _ => drawn mixed) (by rw [vc324]; exact hv)

end Go.Vw
