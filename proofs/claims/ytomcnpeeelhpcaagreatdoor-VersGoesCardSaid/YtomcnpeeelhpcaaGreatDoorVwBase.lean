/-
  What is known of memory and what lies in it, side by side; loads from known blocks.
-/
import Derived.Laws.Cells
import Derived.Test.YtomcnpeeelhpcaaGreatDoorVwEv
namespace Go.Vw
open Go

def cz (β : Nat → Nat) : EV → Value
  | .v x => x
  | .lit b => .bool b
  | .loc i off _ => .pointer (some ⟨β i, off, none⟩)
  | .sl i off len cap => .slice (some ⟨β i, off, none⟩) len cap
def okE (n : Nat) : EV → Prop
  | .v x => vokR x = true
  | .lit _ => True
  | .loc i _ _ => i < n
  | .sl i _ _ _ => i < n

structure KN (h : Heap) (L : List LC) (β : Nat → Nat) (w : World) : Prop where
  rel : Rel h w
  live : ∀ (i : Nat) c e, L[i]? = some (LC.live c e) → w.heap[β i]? = some (.cells ⟨c⟩ e (0, 0)) ∧ h (β i) = none
  one : ∀ (i : Nat) c e, L[i]? = some (LC.live c e) → ∀ x ∈ c, Vw.one x = true
  inj : ∀ (i j : Nat) ci ei cj ej, L[i]? = some (LC.live ci ei) → L[j]? = some (LC.live cj ej) → β i = β j → i = j
  mat : ∀ (i b : Nat), L[i]? = some (LC.mat b) → β i = b
  hw : HW h

theorem Heap.set_same (h : Heap) (b : Nat) (o : Obj) : (h.set b o) b = some o := by simp [Heap.set]
theorem Heap.set_other (h : Heap) {b c : Nat} (o : Obj) (hne : c ≠ b) : (h.set b o) c = h c := by simp [Heap.set, hne]
theorem Heap.le_refl (h : Heap) : Heap.le h h := fun _ _ hh => hh
theorem Heap.le_trans {a b c : Heap} (h : Heap.le a b) (k : Heap.le b c) : Heap.le a c := fun _ _ hh => k _ _ (h _ _ hh)
theorem Heap.le_set {h : Heap} {b : Nat} (o : Obj) (hb : h b = none) : Heap.le h (h.set b o) := fun c x hc => by
  have : c ≠ b := by rintro rfl; rw [hb] at hc; cases hc
  rw [Heap.set_other _ _ this]; exact hc

theorem rd_cell {h : Heap} {w : World} (hr : Rel h w) {a : Addr} {v : Value} (hv : rd h a = some v) : w.cell? a = some v := by
  unfold rd at hv
  split at hv
  · rename_i c e fr hb
    rw [World.cell?, hr _ _ hb]
    exact hv
  · cases hv
theorem rdn_len {h : Heap} {a : Addr} {n : Nat} {cs : List Value} (hv : rdn h a n = some cs) : cs.length = n := by
  unfold rdn at hv
  split at hv
  · rename_i c e fr hb
    split at hv
    · cases hv
    · split at hv
      · injection hv with hv; subst hv; simp; omega
      · cases hv
  · cases hv
theorem add_block (a : Addr) (j : Nat) : (a.add j).block = a.block := by unfold Addr.add; split <;> rfl
theorem add_spot (a : Addr) (j : Nat) (h : a.spot.isSome = false) : (a.add j).spot.isSome = false := by unfold Addr.add; split <;> simp_all
theorem add_off (a : Addr) (j : Nat) : (a.add j).off = a.off + j := by unfold Addr.add; split <;> simp_all
theorem rdn_cells {h : Heap} {w : World} (hr : Rel h w) {a : Addr} {n : Nat} {cs : List Value} (hv : rdn h a n = some cs) :
    ∀ j v, cs[j]? = some v → w.cell? (a.add j) = some v := by
  intro j v hj
  have hlen := rdn_len hv
  unfold rdn at hv
  split at hv
  · rename_i c e fr hb
    split at hv
    · cases hv
    · rename_i hs
      split at hv
      · rename_i hle
        injection hv with hv
        rw [World.cell?, add_block, hr _ _ hb]
        simp only [add_spot a j (by simpa using hs), add_off]
        subst hv
        have hjn : j < n := by
          rcases Nat.lt_or_ge j n with h1 | h1
          · exact h1
          · rw [List.getElem?_eq_none (by omega)] at hj; cases hj
        rw [List.getElem?_take_of_lt hjn, List.getElem?_drop] at hj
        simpa using hj
      · cases hv
  · cases hv
theorem run_load_rd {P : Program} {h : Heap} {w : World} (hr : Rel h w) {a : Addr} {v : Value} (hv : rd h a = some v) (m : Mode) : (load a m).run P w = .ok v w := by
  simp [rd_cell hr hv]
theorem run_loadCells_rdn {P : Program} {h : Heap} {w : World} (hr : Rel h w) {a : Addr} {n : Nat} {cs : List Value} (hv : rdn h a n = some cs) :
    (loadCells a n).run P w = .ok ⟨cs⟩ w := by
  have hl := rdn_len hv
  subst hl
  simpa using run_loadCells_list (P := P) (w := w) a cs (rdn_cells hr hv)
theorem isAgg_run {P : Program} (w : World) {t : TypeId} {d : TypeDesc} (ht : P.underlying t = some d) : (isAgg t).run P w = .ok (aggD d) w := by
  unfold isAgg
  simp only [underlying, Sem.run_bind, run_program, Result.andThen_ok, ht, Sem.run_pure]
  cases d <;> rfl
theorem sizeOf_run {P : Program} (w : World) {t : TypeId} {i : TypeInfo} (ht : P.info? t = some i) : (Go.sizeOf t).run P w = .ok i.size w := by
  simp only [Go.sizeOf, typeInfo, Sem.run_bind, run_program, Result.andThen_ok, ht, Sem.run_pure]
theorem typeInfo_run {P : Program} (w : World) {t : TypeId} {i : TypeInfo} (ht : P.info? t = some i) : (typeInfo t).run P w = .ok i w := by
  simp only [typeInfo, Sem.run_bind, run_program, Result.andThen_ok, ht, Sem.run_pure]
theorem underlying_run {P : Program} (w : World) {t : TypeId} {d : TypeDesc} (ht : P.underlying t = some d) : (underlying t).run P w = .ok d w := by
  simp only [underlying, Sem.run_bind, run_program, Result.andThen_ok, ht, Sem.run_pure]
theorem zeroValue_run {P : Program} (w : World) {t : TypeId} {z : Value} (ht : (P.info? t).bind (·.zero) = some z) : (zeroValue t).run P w = .ok z w := by
  cases hi : P.info? t with
  | none => rw [hi] at ht; cases ht
  | some i =>
    rw [hi] at ht
    simp only [Option.bind_some] at ht
    simp only [zeroValue, typeInfo, Sem.run_bind, run_program, Result.andThen_ok, hi, Sem.run_pure, ht]
theorem loadVar_scalar {P : Program} {h : Heap} {w : World} (hr : Rel h w) {t : TypeId} {d : TypeDesc} (ht : P.underlying t = some d) (hd : aggD d = false) {a : Addr} {v : Value} (hv : rd h a = some v) :
    (loadVar t a).run P w = .ok v w := by
  unfold loadVar
  simp [isAgg_run w ht, hd, rd_cell hr hv]
theorem loadVar_agg {P : Program} {h : Heap} {w : World} (hr : Rel h w) {t : TypeId} {d : TypeDesc} (ht : P.underlying t = some d) (hd : aggD d = true) {i : TypeInfo} (hi : P.info? t = some i) {a : Addr} {cs : List Value}
    (hv : rdn h a i.size = some cs) : (loadVar t a).run P w = .ok (.agg ⟨cs⟩) w := by
  unfold loadVar
  simp [isAgg_run w ht, hd, sizeOf_run w hi, run_loadCells_rdn hr hv]

/-- What is known of everything, the locals too. -/
def G (h : Heap) (L : List LC) (β : Nat → Nat) : Heap := fun b => match h b with
  | some o => some o
  | none => (L.zipIdx.findSome? fun (l, i) => match l with
    | .live c e => if β i = b then some (Obj.cells ⟨c⟩ e (0, 0)) else none
    | .mat _ => none)

/-- A local's block, as knowledge of one block. -/
def locH (b : Nat) (c : List Value) (e : TypeId) : Heap := fun x => if x = b then some (.cells ⟨c⟩ e (0, 0)) else none
theorem KN.locRel {h : Heap} {L : List LC} {β : Nat → Nat} {w : World} (k : KN h L β w) {i : Nat} {c : List Value} {e : TypeId} (hi : L[i]? = some (LC.live c e)) : Rel (locH (β i) c e) w := by
  intro b o hb
  unfold locH at hb
  split at hb
  · rename_i hbe; injection hb with hb; subst hb; rw [hbe]; exact (k.live i c e hi).1
  · cases hb
theorem rd_locH (b : Nat) (c : List Value) (e : TypeId) (o : Nat) : rd (locH b c e) ⟨b, o, none⟩ = c[o]? := by
  simp [rd, locH]
theorem rdn_locH (b : Nat) (c : List Value) (e : TypeId) (o n : Nat) : rdn (locH b c e) ⟨b, o, none⟩ n = sub c o n := by
  simp [rdn, locH, sub]

theorem Ty.one_v {ty : Ty} (hs : ¬ ty.isSt = true) (x : ty.T) : one (ty.v x) = true := by
  cases ty <;> first | rfl | (simp [Ty.isSt] at hs; done) | skip
  cases x with
  | none => rfl
  | some f => obtain ⟨t, v⟩ := f; rfl
theorem vok_agg {l : List Value} (h : ∀ v ∈ l, one v = true) : vok (.agg ⟨l⟩) = true := by simpa [vok] using h
theorem vok_of_one {v : Value} (h : one v = true) : vok v = true := by cases v <;> simp_all [one, vok]
theorem vok_val {vt : Ty} (h : TyOk vt) (x : vt.T) : vok (vt.v x) = true := by
  cases vt <;> first | rfl | skip
  · cases x with
    | none => rfl
    | some f => obtain ⟨t, v⟩ := f; rfl
  · exact vok_agg (h x)
theorem vokR_of_vok {v : Value} (h : vok v = true) : vokR v = true := by cases v <;> simp_all [vokR, vok]
theorem sub_one {c : List Value} (h : ∀ v ∈ c, one v = true) {o n : Nat} {l : List Value} (hs : sub c o n = some l) : ∀ v ∈ l, one v = true := by
  unfold sub at hs
  split at hs
  · injection hs with hs; subst hs
    intro v hv; exact h v (List.mem_of_mem_drop (List.mem_of_mem_take hv))
  · cases hs
theorem oneCell_of_one {v : Value} (h : one v = true) : v.oneCell' = true := by cases v <;> simp_all [one, Value.oneCell']
end Go.Vw
