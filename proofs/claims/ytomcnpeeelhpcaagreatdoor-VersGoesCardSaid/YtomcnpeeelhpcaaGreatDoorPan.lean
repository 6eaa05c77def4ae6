/-
  Acts as a caller hands them, and the table of constants: what of a world is known.
-/
import Derived.Test.YtomcnpeeelhpcaaGreatDoorPam
import Derived.Deep.Slices
import Derived.Lib.LaidTab
import Derived.Carry
namespace Go.Vw
open Go Go.Proofs Go.ChangeShapes Go.WideShapes Go.RowKit

/-- All of a world but its maps. -/
def hC (W : World) : Heap := fun b => match W.heap[b]? with
  | some (.cells c e fr) => some (.cells c e fr)
  | _ => none
theorem hC_cells {W : World} {b : Nat} {c : Array Value} {e : TypeId} {fr : Nat × Nat} (h : W.heap[b]? = some (.cells c e fr)) : hC W b = some (.cells c e fr) := by
  unfold hC; rw [h]
theorem hC_rel (W : World) : Rel (hC W) W := by
  intro b o ho
  unfold hC at ho
  split at ho
  · rename_i c e fr h
    rw [h]; exact ho
  · cases ho
theorem hC_hw (W : World) : HW (hC W) := by
  intro b es k hb
  unfold hC at hb
  split at hb
  · injection hb with hb; cases hb
  · cases hb
theorem cell_block {W : World} {a : Addr} {v : Value} (h : W.cell? a = some v) : ∃ c e fr, W.heap[a.block]? = some (.cells c e fr) ∧ a.spot = none ∧ c[a.off]? = some v := by
  unfold World.cell? at h
  split at h
  · rename_i c e fr hc
    split at h
    · cases h
    · rename_i hs
      refine ⟨c, e, fr, hc, ?_, h⟩
      cases hsp : a.spot with
      | none => rfl
      | some _ => rw [hsp] at hs; exact absurd rfl hs
  · cases h
theorem rdn_one {W : World} {a : Addr} {n : Nat} {cs : List Value} (h : W.cells? 0 a n = some cs) (hn : 0 < n) : rdn (hC W) a n = some cs := by
  obtain ⟨_, hlen, hc⟩ := World.cells?_some h
  obtain ⟨v0, hv0⟩ : ∃ v, cs[0]? = some v := ⟨cs[0]'(by omega), List.getElem?_eq_getElem _⟩
  have h0 := hc 0 hn
  rw [hv0] at h0
  have hz : a.add 0 = a := by unfold Addr.add; simp
  rw [hz] at h0
  obtain ⟨c, e, fr, hb, hs, hv⟩ := cell_block h0
  obtain ⟨bb, oo, ss⟩ := a
  dsimp only at hb hs hv
  subst hs
  have hall : ∀ i, i < n → c[oo + i]? = cs[i]? := by
    intro i hi
    have := hc i hi
    rw [add_mk] at this
    unfold World.cell? at this
    dsimp only at this
    rw [hb] at this
    simpa using this
  have hsz : oo + n ≤ c.size := by
    have := hall (n - 1) (by omega)
    rw [List.getElem?_eq_getElem (by omega)] at this
    have := (Array.getElem?_eq_some_iff.1 this).1
    omega
  unfold rdn
  dsimp only
  rw [hC_cells hb]
  dsimp only
  rw [if_neg (by simp), if_pos hsz]
  congr 1
  apply List.ext_getElem?
  intro i
  by_cases hi : i < n
  · rw [List.getElem?_take_of_lt hi, List.getElem?_drop, Array.getElem?_toList, hall i hi]
  · rw [List.getElem?_eq_none (by rw [List.length_take]; omega), List.getElem?_eq_none (by omega)]
theorem rdn_two {h : Heap} {a : Addr} {m n : Nat} {l r : List Value} (h1 : rdn h a m = some l) (h2 : rdn h (a.add m) n = some r) : rdn h a (m + n) = some (l ++ r) := by
  unfold rdn at h1
  split at h1
  · rename_i c e fr hc
    split at h1
    · cases h1
    · rename_i hs
      split at h1
      · rename_i hle
        injection h1 with h1
        obtain ⟨bb, oo, ss⟩ := a
        have hsn : ss = none := by
          cases ss with
          | none => rfl
          | some _ => exact absurd rfl hs
        subst hsn
        dsimp only at hc hle h1
        rw [add_mk] at h2
        unfold rdn at h2 ⊢
        dsimp only at h2 ⊢
        rw [hc] at h2 ⊢
        dsimp only at h2 ⊢
        rw [if_neg (by simp)] at h2 ⊢
        split at h2
        · rename_i hle2
          injection h2 with h2
          rw [if_pos (by omega), ← h1, ← h2, List.take_add, List.drop_drop]
        · cases h2
      · cases h1
  · cases h1
theorem rdn_all' {α : Type} {c : α → List Value} {k : Nat} {h : Heap} {a : Addr} {f : Nat → α} (h0 : ∀ i, rdn h (a.add (i * k)) k = some (c (f i)) ∨ True) : ∀ {n : Nat}, (∀ i, i < n + 1 → rdn h (a.add (i * k)) k = some (c (f i))) → rdn h a ((n + 1) * k) = some (aggs c ((List.range (n + 1)).map f))
  | 0, hf => by
    have := hf 0 (by omega)
    rw [Nat.zero_mul] at this
    have hz : a.add 0 = a := by unfold Addr.add; simp
    rw [hz] at this
    rw [Nat.zero_add, Nat.one_mul, this]
    simp [aggs]
  | n + 1, hf => by
    have ih := rdn_all' h0 (n := n) (fun i hi => hf i (by omega))
    have := rdn_two ih (hf (n + 1) (by omega))
    have hrs : List.range (n + 1 + 1) = List.range (n + 1) ++ [n + 1] := List.range_succ
    rw [Nat.add_mul (n + 1) 1 k, Nat.one_mul, this, hrs, List.map_append]
    unfold aggs
    rw [List.flatMap_append]
    simp
theorem len2 {α : Type} {l : List α} (h : l.length = 2) : ∃ a b, l = [a, b] := by
  match l, h with
  | [a, b], _ => exact ⟨a, b, rfl⟩
theorem len3 {α : Type} {l : List α} (h : l.length = 3) : ∃ a b c, l = [a, b, c] := by
  match l, h with
  | [a, b, c], _ => exact ⟨a, b, c, rfl⟩
section
variable {H : Type} {enc : TypeId × Value → H} {W : World}
theorem open_aggs {α : Type} [Inhabited α] {c : α → List Value} {R : α → Prop} {k : Nat} (hk : 0 < k) {t e : TypeId} {fuel : Nat} {cs : List Value} {x : DataW H × List MemPlace} (ht : Tryz.prog.underlying t = some (.slice e)) (he : Tryz.prog.cellsOf e = k)
    (hel : ∀ n ys y, DataW.trod enc Tryz.prog W 0 (fun _ => true) true n e ys = some y → ∃ z : α, ys = c z ∧ R z)
    (h : DataW.trod enc Tryz.prog W 0 (fun _ => true) true fuel t cs = some x) :
    ∃ l : Sl, cs = [.slice l.a l.len l.cap] ∧ ∃ xs : List α, l.len = xs.length ∧ (xs ≠ [] → rowOf (hC W) l.a (xs.length * k) = some (aggs c xs)) ∧ ∀ z ∈ xs, R z := by
  rcases Go.Deep.open_slice ht h with ⟨rfl, _⟩ | ⟨a, len, cap, m, n, D, Pl, rfl, hb, hl, hm, hmm, rfl, hx⟩
  · exact ⟨⟨none, 0, 0⟩, rfl, [], rfl, fun h => absurd rfl h, fun z hz => by cases hz⟩
  · have hlm : len ≤ m := by rw [hmm]; simp; exact hl
    rw [he] at hx
    obtain ⟨f, hf⟩ := Go.Deep.choose_lt (α := α) (n := len) (p := fun i z => rdn (hC W) (a.add (i * k)) k = some (c z) ∧ R z) (fun i hi => by
      obtain ⟨cs', h1, h2⟩ := hx i (by omega)
      obtain ⟨z, rfl, hR⟩ := hel _ _ _ h2
      exact ⟨z, rdn_one h1 hk, hR⟩)
    refine ⟨⟨some a, len, cap⟩, rfl, (List.range len).map f, by simp, fun hne => ?_, fun z hz => ?_⟩
    · rw [List.length_map, List.length_range]
      cases len with
      | zero => exact absurd rfl hne
      | succ len => exact rdn_all' (fun _ => .inr trivial) (fun i hi => (hf i hi).1)
    · obtain ⟨i, hi, rfl⟩ := List.mem_map.1 hz
      exact (hf i (List.mem_range.1 hi)).2
theorem cells43 : Tryz.prog.cellsOf 43 = 2 := by kernel_rfl
theorem cells29 : Tryz.prog.cellsOf 29 = 3 := by kernel_rfl
theorem cells9 : Tryz.prog.cellsOf 9 = 1 := by kernel_rfl
theorem cells3 : Tryz.prog.cellsOf 3 = 1 := by kernel_rfl
theorem cells27 : Tryz.prog.cellsOf 27 = 1 := by kernel_rfl
theorem str_S (s : ByteArray) : Value.string s = S s.data.toList := rfl
instance : Inhabited GApiItem := ⟨⟨[], []⟩⟩
instance : Inhabited GPharoslaw12Act := ⟨⟨0, 0, ⟨none, 0, 0⟩⟩⟩
theorem open_item {n : Nat} {ys : List Value} {y : DataW H × List MemPlace} (h : DataW.trod enc Tryz.prog W 0 (fun _ => true) true n 43 ys = some y) : ∃ z : GApiItem, ys = cGApiItem z ∧ True := by
  obtain ⟨xs, k, _, _, hl, hxl, hf⟩ := DataW.trod_struct Tryz.underlying43 h
  rw [cells43] at hl
  obtain ⟨v0, v1, rfl⟩ := len2 hl
  obtain ⟨x0, x1, rfl⟩ := len2 hxl
  · have g0 : DataW.trod enc Tryz.prog W 0 (fun _ => true) true k 9 (([v0, v1].drop 0).take (Tryz.prog.cellsOf 9)) = some x0 := hf 0 _ rfl
    have g1 : DataW.trod enc Tryz.prog W 0 (fun _ => true) true k 9 (([v0, v1].drop 1).take (Tryz.prog.cellsOf 9)) = some x1 := hf 1 _ rfl
    rw [cells9] at g0 g1
    obtain ⟨s0, e0, _⟩ := DataW.trod_string Tryz.underlying9 (show DataW.trod enc Tryz.prog W 0 (fun _ => true) true k 9 [v0] = some x0 from g0)
    obtain ⟨s1, e1, _⟩ := DataW.trod_string Tryz.underlying9 (show DataW.trod enc Tryz.prog W 0 (fun _ => true) true k 9 [v1] = some x1 from g1)
    injection e0 with e0
    injection e1 with e1
    subst e0
    subst e1
    exact ⟨⟨s0.data.toList, s1.data.toList⟩, rfl, trivial⟩
def actR (W : World) (A : GPharoslaw12Act × List GApiItem) : Prop := A.1.Changes.len = A.2.length ∧ (A.2 ≠ [] → rowOf (hC W) A.1.Changes.a (A.2.length * 2) = some (aggs cGApiItem A.2))
theorem open_act {n : Nat} {ys : List Value} {y : DataW H × List MemPlace} (h : DataW.trod enc Tryz.prog W 0 (fun _ => true) true n 29 ys = some y) : ∃ z : GPharoslaw12Act × List GApiItem, ys = cGPharoslaw12Act z.1 ∧ actR W z := by
  obtain ⟨xs, k, _, _, hl, hxl, hf⟩ := DataW.trod_struct Tryz.underlying29 h
  rw [cells29] at hl
  obtain ⟨v0, v1, v2, rfl⟩ := len3 hl
  obtain ⟨x0, x1, x2, rfl⟩ := len3 hxl
  · have g0 : DataW.trod enc Tryz.prog W 0 (fun _ => true) true k 3 (([v0, v1, v2].drop 0).take (Tryz.prog.cellsOf 3)) = some x0 := hf 0 _ rfl
    have g1 : DataW.trod enc Tryz.prog W 0 (fun _ => true) true k 3 (([v0, v1, v2].drop 1).take (Tryz.prog.cellsOf 3)) = some x1 := hf 1 _ rfl
    have g2 : DataW.trod enc Tryz.prog W 0 (fun _ => true) true k 27 (([v0, v1, v2].drop 2).take (Tryz.prog.cellsOf 27)) = some x2 := hf 2 _ rfl
    rw [cells3] at g0 g1
    rw [cells27] at g2
    obtain ⟨n0, e0, _⟩ := DataW.trod_int Tryz.underlying3 (show DataW.trod enc Tryz.prog W 0 (fun _ => true) true k 3 [v0] = some x0 from g0)
    obtain ⟨n1, e1, _⟩ := DataW.trod_int Tryz.underlying3 (show DataW.trod enc Tryz.prog W 0 (fun _ => true) true k 3 [v1] = some x1 from g1)
    obtain ⟨l, e2, xs, hlen, hrow, _⟩ := open_aggs (c := cGApiItem) (R := fun _ => True) (by decide) Tryz.underlying27 cells43 (fun _ _ _ h => open_item h) (show DataW.trod enc Tryz.prog W 0 (fun _ => true) true k 27 [v2] = some x2 from g2)
    injection e0 with e0
    injection e1 with e1
    injection e2 with e2
    subst e0
    subst e1
    subst e2
    exact ⟨(⟨n0, n1, l⟩, xs), rfl, hlen, hrow⟩
theorem open_acts {fuel : Nat} {cs : List Value} {x : DataW H × List MemPlace} (h : DataW.trod enc Tryz.prog W 0 (fun _ => true) true fuel 22 cs = some x) : ∃ l : Sl, cs = [.slice l.a l.len l.cap] ∧ ∃ As, ActsIn (hC W) l As := by
  obtain ⟨l, e, As, hlen, hrow, hR⟩ := open_aggs (c := fun z : GPharoslaw12Act × List GApiItem => cGPharoslaw12Act z.1) (R := actR W) (by decide) Tryz.underlying22 cells29 (fun _ _ _ h => open_act h) h
  refine ⟨l, e, As, hlen, fun hn => ?_, fun A hA => (hR A hA).1, fun A hA => (hR A hA).2⟩
  have := hrow hn
  rw [List.length_map, this]
  unfold aggs
  rw [List.flatMap_map]
end
/-- What the world is behind a call of which the contract says that what was known stays. -/
theorem below_of {W W' : World} {h' : Heap} (hr : Rel h' W') (hf : Fr (hC W) W h' W') (hl : (hC W).le h') : Below W.heap.size W W' := by
  refine ⟨hf.os, hf.tape, hf.output, hf.size, fun b hb => ?_⟩
  cases ho : hC W b with
  | none => exact (hf.old b hb ho).2
  | some o =>
    rw [hr b o (hl b o ho)]
    exact (hC_rel W b o ho).symm
end Go.Vw
