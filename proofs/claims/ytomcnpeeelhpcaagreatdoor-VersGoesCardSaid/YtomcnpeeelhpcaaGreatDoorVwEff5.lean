/-
  The same: texts turned to bytes, appends.
-/
import Derived.Laws.Append
import Derived.Lib.AppendStr
import Derived.Test.YtomcnpeeelhpcaaGreatDoorVwEff4
namespace Go.Vw
open Go
variable {cx : Cx} {h₀ : Heap} {w₀ w w' : World} {s : St} {β : Nat → Nat} {a : Act} {o : Oper} {K : EV → St → Prop}

theorem freeze_alloc (w : World) (c : Array Value) (e : TypeId) (n : Nat) : (w.alloc (.cells c e)).freeze ⟨w.heap.size, n, none⟩ 1 = w.alloc (.cells c e (n, n + 1)) := by
  unfold World.freeze World.alloc
  rw [if_neg (by omega)]
  congr 1
  apply Array.ext'
  rw [Array.toList_modify, Array.toList_push, Array.toList_push]
  apply List.ext_getElem?
  intro i
  rw [List.getElem?_modify]
  rcases Nat.lt_trichotomy i w.heap.size with h | h | h
  · rw [List.getElem?_append_left (by simpa using h), List.getElem?_append_left (by simpa using h)]
    have : w.heap.size ≠ i := by omega
    cases w.heap.toList[i]? <;> simp [this]
  · subst h
    rw [List.getElem?_append_right (by simp), List.getElem?_append_right (by simp)]
    simp
  · rw [List.getElem?_eq_none (by simp; omega), List.getElem?_eq_none (by simp; omega)]
    rfl
theorem Rel.heap {h : Heap} (hr : Rel h w) (hh : w'.heap = w.heap) : Rel h w' := fun b o hb => by rw [hh]; exact hr b o hb

theorem eff_convert {st d : TypeId} {x : Operand} (hpr : isPR cx (.convert st d x) = false) (ho : o.op = .convert st d x) (rs : Rs cx h₀ w₀ s β a w) (hp : evE cx o s K) : Did cx h₀ w₀ o s β a w K := by
  unfold evE at hp
  rw [ho] at hp
  simp only at hp
  split at hp
  · rename_i e bs hs hd hx
    split at hp
    · rename_i he
      obtain ⟨hxv, _⟩ := rs.get hx
      simp only [cz] at hxv
      let cap := (Question.appendCap bs.size 0 e).cut (w.tape w.drawn (Question.appendCap bs.size 0 e))
      have hcap : bs.size ≤ cap := by show bs.size ≤ bs.size + _; omega
      have hlen : bs.data.toList.length = bs.size := rfl
      let arr : List Value := bs.data.toList.map byteV ++ List.replicate (cap - bs.size) (.int .u8 0)
      have hone : ∀ v ∈ arr, one v = true := by
        intro v hv
        rcases List.mem_append.1 hv with h1 | h1
        · obtain ⟨b, _, rfl⟩ := List.mem_map.1 h1; rfl
        · rw [(List.mem_replicate.1 h1).2]; rfl
      obtain ⟨h1, h2, h3⟩ := newBlk_rs (o := .cells ⟨arr⟩ e (bs.data.toList.length + (List.replicate (cap - bs.size) (Value.int .u8 0)).length, bs.data.toList.length + (List.replicate (cap - bs.size) (Value.int .u8 0)).length + 1)) (rs.world (w' := w.drew) rfl rfl rfl rfl) trivial
      have hK := hp w.heap.size cap (List.replicate (cap - bs.size) (.int .u8 0)) h3 (by rw [hlen]; exact hcap) (by simp [hlen]) (fun v hv => (List.mem_replicate.1 hv).2)
      refine ⟨_, _, _, _, hK, h1, h2, rfl, rfl, .inl ?_⟩
      have earr : (bs.data.map fun b => Value.int .u8 b.toNat) ++ Array.replicate (cap - bs.size) (.int .u8 0) = ⟨arr⟩ := by
        apply Array.ext'
        simp only [Array.toList_append, Array.toList_map, Array.toList_replicate]; rfl
      have hsz : (⟨arr⟩ : Array Value).size = bs.data.toList.length + (List.replicate (cap - bs.size) (Value.int .u8 0)).length := by simp [arr]
      have hshape : ((w.drew).alloc (.cells ⟨arr⟩ e)).shape? w.heap.size = some (e, (⟨arr⟩ : Array Value).size) := by
        have := heap_alloc_at w.drew (.cells ⟨arr⟩ e)
        unfold World.shape?
        rw [show w.heap.size = w.drew.heap.size from rfl, this]
      have hrun : (Conv.stringToBytes e bs).run cx.P w = .ok (.slice (some ⟨w.heap.size, 0, none⟩) bs.size cap) (w.drew.alloc (.cells ⟨arr⟩ e (bs.data.toList.length + (List.replicate (cap - bs.size) (Value.int .u8 0)).length, bs.data.toList.length + (List.replicate (cap - bs.size) (Value.int .u8 0)).length + 1))) := by
        unfold Conv.stringToBytes
        simp only [Sem.run_bind, run_choose, Question.forced, Bool.false_eq_true, if_false, World.drew_eq, Result.andThen_ok]
        rw [show (Question.appendCap bs.size 0 e).cut (w.tape w.drawn (Question.appendCap bs.size 0 e)) = cap from rfl, earr]
        simp only [newRow, Sem.run_bind, run_newObj, Result.andThen_ok, Sem.run_pure, World.alloc_eq, markStringish, run_shape]
        rw [show w.drew.heap.size = w.heap.size from rfl, hshape]
        simp only [run_freeze]
        rw [show w.heap.size = w.drew.heap.size from rfl, freeze_alloc, hsz]
        rfl
      have hconv : (convert st d (.string bs)).run cx.P w = (Conv.stringToBytes e bs).run cx.P w := by
        unfold convert
        simp only [Sem.run_bind, underlying_run w hs, underlying_run w hd, Result.andThen_ok, underlying_run w he]
      simp only [execOp, ho, hxv, Sem.run_bind, hconv, hrun]
      rfl
    · exact hp.elim
  · exact hp.elim

theorem zero_cells (z : List Value) (n : Nat) : (Builtin.zeroCells ⟨z⟩ n).toList = (List.replicate n z).flatten := by
  unfold Builtin.zeroCells
  rw [Array.toList_map, Array.toList_range]
  exact rep_range z n

theorem first_run {P : Program} {h : Heap} (hr : Rel h w) {p : Option Addr} {n len cap size : Nat} {xs : List Value} (hx : rowOf h p (n * size) = some xs) (hlen : ∀ a, p = some a → True) :
    (Builtin.firstCells size n (.slice p len cap)).run P w = .ok ⟨xs⟩ w := by
  cases p with
  | none =>
    simp only [rowOf] at hx
    split at hx
    · injection hx with hx; subst hx; simp [Builtin.firstCells]
    · cases hx
  | some a =>
    simp only [rowOf] at hx
    simpa [Builtin.firstCells] using run_loadCells_rdn (P := P) hr hx
theorem rowOf_len {h : Heap} {p : Option Addr} {n : Nat} {xs : List Value} (hx : rowOf h p n = some xs) : xs.length = n := by
  cases p with
  | none => simp only [rowOf] at hx; split at hx <;> simp_all
  | some a => exact rdn_len hx
/-- An append runs, in its place or in a new block. -/
theorem append_run (rs : Rs cx h₀ w₀ s β a w) {t u e : TypeId} {ei : TypeInfo} {ez : Value} (ht : cx.P.underlying t = some (.slice e)) (hei : cx.P.info? e = some ei) (hez : ei.zero = some ez) (hzl : (cellsL ez).length = ei.size) (hzv : vok ez = true)
    {du : TypeDesc} (hu : cx.P.underlying u = some du) (hdu : du = .string ∨ ∃ x, du = .slice x) {p : Option Addr} {n c m : Nat} {xs ys : List Value} {xv : Value} {ty : TypeId} (hx : rowOf s.h p (n * ei.size) = some xs)
    (hl : ∀ w', w'.heap = w.heap → (Builtin.lenOf xv).run cx.P w' = .ok m w') (hy : ∀ w', w'.heap = w.heap → (Builtin.firstCells ei.size m xv).run cx.P w' = .ok ⟨ys⟩ w') (hy1 : ∀ v ∈ ys, one v = true)
    (hB : (n + m) * ei.bytes ≤ 140737488355328) (hI : n + m ≤ 9223372036854775807) (hwr : n + m ≤ c → ∀ q, p = some q → (wr s.h (q.add (n * ei.size)) ys).isSome = true) (hnil : p = none → n + m ≤ c → ys = []) :
    ∃ r h' w', AppRes s.h ⟨p, n, c⟩ ei.size e xs ys m r h' ∧ (Builtin.append_ ⟨[t, u]⟩ ty ⟨[.slice p n c, xv]⟩).run cx.P w = .ok (.slice r.a r.len r.cap) w' ∧ Rs cx h₀ w₀ { s with h := h' } β a w' ∧ Ext s β { s with h := h' } β := by
  have hl1 := hl w rfl
  by_cases hfit : n + m ≤ c
  · have hy1' := hy w rfl
    cases p with
    | none =>
      have hys := hnil rfl hfit
      subst hys
      refine ⟨⟨none, n + m, c⟩, s.h, w, ⟨rfl, .inl ⟨hfit, rfl, rfl, rfl, rfl⟩⟩, ?_, rs, Ext.refl _ _⟩
      unfold Builtin.append_
      rcases hdu with rfl | ⟨x, rfl⟩
      all_goals
        simp only [Sem.run_bind, List.getElem?_toArray, List.getElem?_cons_zero, List.getElem?_cons_succ, underlying_run w ht, underlying_run w hu, Result.andThen_ok, sizeOf_run w hei, Sem.run_pure, hl1, if_pos hfit, Bool.not_false, if_true, hy1', Bool.false_eq_true, if_false]
    | some q =>
      obtain ⟨h', hw⟩ := Option.isSome_iff_exists.1 (hwr hfit q rfl)
      obtain ⟨w', hrun, h1, h2⟩ := wr_run (P := cx.P) rs hw hy1
      refine ⟨⟨some q, n + m, c⟩, h', w', ⟨rfl, .inl ⟨hfit, rfl, rfl, hw⟩⟩, ?_, h1, h2⟩
      unfold Builtin.append_
      rcases hdu with rfl | ⟨x, rfl⟩
      all_goals
        simp only [Sem.run_bind, List.getElem?_toArray, List.getElem?_cons_zero, List.getElem?_cons_succ, underlying_run w ht, underlying_run w hu, Result.andThen_ok, sizeOf_run w hei, Sem.run_pure, hl1, if_pos hfit, Bool.not_false, if_true, hy1', hrun, Bool.false_eq_true, if_false]
  · have hlt : c < n + m := by omega
    let cap := (Question.appendCap (n + m) c e).cut (w.tape w.drawn (Question.appendCap (n + m) c e))
    have hcap : n + m ≤ cap := by show n + m ≤ n + m + _; omega
    let rest := (List.replicate (cap - (n + m)) (cellsL ez)).flatten
    have hrl : rest.length = (cap - (n + m)) * ei.size := by simp [rest, List.length_flatten, List.map_replicate, hzl]
    have hr1 : ∀ v ∈ rest, one v = true := flat_one (vok_cells hzv) _
    obtain ⟨h1, h2, h3⟩ := newBlk_rs (o := .cells ⟨xs ++ ys ++ rest⟩ e (0, 0)) (rs.world (w' := w.drew) rfl rfl rfl rfl) trivial
    refine ⟨⟨some ⟨w.heap.size, 0, none⟩, n + m, cap⟩, _, _, ⟨rfl, .inr ⟨hlt, w.heap.size, rest, h3, rfl, hcap, hrl, hr1, rfl⟩⟩, ?_, h1, h2⟩
    have hz0 : ∀ w' : World, (zeroValue e).run cx.P w' = .ok ez w' := fun w' => zeroValue_run w' (by rw [hei]; exact hez)
    have hcn : ¬ (Builtin.nextslicecap (n + m) c * ei.bytes > 2 ^ 48) := by
      have := growslice_fits hlt hB
      omega
    have hmax : ¬ (((n + m : Nat) : Int) > IntKind.i64.max ∧ (False ∨ ei.bytes = 0)) := by
      have : IntKind.i64.max = 9223372036854775807 := by decide
      omega
    have hf := first_run (P := cx.P) (w := w.drew) (Rel.heap rs.kn.rel rfl) (len := n) (cap := c) hx (fun _ _ => trivial)
    have hyd := hy w.drew rfl
    have hzc : (Builtin.zeroCells (⟨cellsL ez⟩ : Array Value) (cap - (n + m))) = ⟨rest⟩ := by
      apply Array.ext'
      exact zero_cells _ _
    have hfin : (⟨xs⟩ : Array Value) ++ ⟨ys⟩ ++ ⟨rest⟩ = ⟨xs ++ ys ++ rest⟩ := by apply Array.ext'; simp
    unfold Builtin.append_
    have hmax' : ¬ (((n + m : Nat) : Int) > IntKind.i64.max ∧ ((false = true) ∨ ei.bytes = 0)) := by simpa using hmax
    rcases hdu with rfl | ⟨x, rfl⟩
    all_goals
      simp only [Sem.run_bind, List.getElem?_toArray, List.getElem?_cons_zero, List.getElem?_cons_succ, underlying_run w ht, underlying_run w hu, Result.andThen_ok, sizeOf_run w hei, Sem.run_pure, hl1, if_neg hfit, typeInfo_run w hei, Sem.run_ite, Bool.false_eq_true, if_false, Bool.not_false, if_true]
      rw [if_neg hmax]
      simp only [Sem.run_bind, typeInfo_run w hei, Result.andThen_ok, if_neg hcn, run_choose, Question.forced, Bool.false_eq_true, if_false, World.drew_eq]
      rw [show (Question.appendCap (n + m) c e).cut (w.tape w.drawn (Question.appendCap (n + m) c e)) = cap from rfl]
      simp only [typeInfo_run w.drew hei, Result.andThen_ok, run_askRoom, hf, hyd, hz0, cells_arr, newRow, Sem.run_bind, run_newObj, Sem.run_pure, World.alloc_eq, hzc, hfin]
      rfl
end Go.Vw
