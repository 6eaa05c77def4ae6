/-
  How the state and the world go on: a new local, a new block, a block written, a local written.
-/
import Derived.Test.YtomcnpeeelhpcaaGreatDoorVwRs
namespace Go.Vw
open Go
variable {cx : Cx} {h₀ : Heap} {w₀ w w' : World} {s : St} {β : Nat → Nat} {a : Act}

def okObj : Obj → Prop
  | .map es k => MapKept.Stamped es k
  | _ => True
theorem HW.set {h : Heap} (hw : HW h) (b : Nat) {o : Obj} (ho : okObj o) : HW (h.set b o) := by
  intro x es k hx
  by_cases hxb : x = b
  · subst hxb; rw [Heap.set_same] at hx; injection hx with hx; subst hx; exact ho
  · rw [Heap.set_other _ _ hxb] at hx; exact hw x es k hx

/-- Two worlds alike but for what lies in one block. -/
structure But (w w' : World) (b : Nat) : Prop where
  os : w'.os = w.os
  tape : w'.tape = w.tape
  output : w'.output = w.output
  size : w'.heap.size = w.heap.size
  other : ∀ k, k ≠ b → w'.heap[k]? = w.heap[k]?

theorem Rs.world (rs : Rs cx h₀ w₀ s β a w) (hh : w'.heap = w.heap) (ho : w'.os = w.os) (ht : w'.tape = w.tape) (hu : w'.output = w.output) : Rs cx h₀ w₀ s β a w' :=
  ⟨rs.size, rs.defers, rs.env, ⟨fun b o hb => by rw [hh]; exact rs.kn.rel b o hb, fun i c e hi => by rw [hh]; exact rs.kn.live i c e hi, rs.kn.one, rs.kn.inj, rs.kn.mat, rs.kn.hw⟩,
   ⟨ho.trans rs.fr.os, ht.trans rs.fr.tape, hu.trans rs.fr.output, by rw [hh]; exact rs.fr.size, fun b hb hn => by rw [hh]; exact rs.fr.old b hb hn⟩, rs.new⟩

theorem heap_alloc_old (w : World) (o : Obj) {b : Nat} (hb : b < w.heap.size) : (w.alloc o).heap[b]? = w.heap[b]? := by
  show (w.heap.push o)[b]? = _
  rw [Array.getElem?_push, if_neg (by omega)]
theorem heap_alloc_at (w : World) (o : Obj) : (w.alloc o).heap[w.heap.size]? = some o := by
  show (w.heap.push o)[w.heap.size]? = _
  rw [Array.getElem?_push, if_pos rfl]
theorem Rel.alloc {h : Heap} (hr : Rel h w) (o : Obj) : Rel h (w.alloc o) := fun b x hb => by
  rw [heap_alloc_old w o (rel_lt hr hb)]; exact hr b x hb
theorem rel_fresh {h : Heap} (hr : Rel h w) : h w.heap.size = none := by
  cases hb : h w.heap.size with
  | none => rfl
  | some o => exact absurd (rel_lt hr hb) (Nat.lt_irrefl _)

theorem newLoc_rs (rs : Rs cx h₀ w₀ s β a w) (c : List Value) (e : TypeId) (hc : ∀ x ∈ c, one x = true) :
    Rs cx h₀ w₀ { s with loc := s.loc ++ [.live c e] } (fun i => if i = s.loc.length then w.heap.size else β i) a (w.alloc (.cells ⟨c⟩ e)) ∧
    Ext s β { s with loc := s.loc ++ [.live c e] } (fun i => if i = s.loc.length then w.heap.size else β i) := by
  have hget : ∀ (j : Nat) x, (s.loc ++ [LC.live c e])[j]? = some x → (j < s.loc.length ∧ s.loc[j]? = some x) ∨ (j = s.loc.length ∧ x = .live c e) := by
    intro j x hj
    rcases Nat.lt_trichotomy j s.loc.length with h1 | h1 | h1
    · rw [List.getElem?_append_left h1] at hj; exact .inl ⟨h1, hj⟩
    · subst h1; simp at hj; exact .inr ⟨rfl, hj.symm⟩
    · rw [List.getElem?_eq_none (by simp; omega)] at hj; cases hj
  have hold : ∀ j, j < s.loc.length → (fun i => if i = s.loc.length then w.heap.size else β i) j = β j := fun j hj => by
    dsimp only; rw [if_neg (by omega)]
  refine ⟨⟨rs.size, rs.defers, fun t ev h => ?_, ⟨rs.kn.rel.alloc _, ?_, ?_, ?_, ?_, rs.kn.hw⟩, ⟨rs.fr.os, rs.fr.tape, rs.fr.output, ?_, ?_⟩, ?_⟩, ⟨by simp, fun _ h => h, fun j hj _ => ?_, hold, fun j cj ej cj' ej' h1 h2 => ?_, fun j b hj => ?_⟩⟩
  · obtain ⟨h1, h2⟩ := rs.env t ev h
    refine ⟨by rw [h1, cz_congr hold h2], okE_mono (by simp) h2⟩
  · intro j cj ej hj
    rcases hget j _ hj with ⟨h1, h2⟩ | ⟨h1, h2⟩
    · dsimp only
      rw [if_neg (by omega)]
      obtain ⟨h3, h4⟩ := rs.kn.live j cj ej h2
      exact ⟨by rw [heap_alloc_old _ _ (rs.kn.lt h2)]; exact h3, h4⟩
    · injection h2 with h2 h3; subst h2; subst h3
      dsimp only
      rw [if_pos h1]
      exact ⟨heap_alloc_at w _, rel_fresh rs.kn.rel⟩
  · intro j cj ej hj
    rcases hget j _ hj with ⟨h1, h2⟩ | ⟨h1, h2⟩
    · exact rs.kn.one j cj ej h2
    · injection h2 with h2 h3; subst h2; exact hc
  · intro j k cj ej ck ek hj hk hjk
    skip
    rcases hget j _ hj with ⟨h1, h2⟩ | ⟨h1, h2⟩ <;> rcases hget k _ hk with ⟨h3, h4⟩ | ⟨h3, h4⟩
    · rw [if_neg (by omega), if_neg (by omega)] at hjk
      exact rs.kn.inj j k _ _ _ _ h2 h4 hjk
    · rw [if_neg (by omega), if_pos h3] at hjk
      have := rs.kn.lt h2; omega
    · rw [if_pos h1, if_neg (by omega)] at hjk
      have := rs.kn.lt h4; omega
    · omega
  · intro j b hj
    rcases hget j _ hj with ⟨h1, h2⟩ | ⟨h1, h2⟩
    · rw [if_neg (by omega)]; exact rs.kn.mat j b h2
    · cases h2
  · simp; have := rs.fr.size; omega
  · intro b hb hn
    obtain ⟨h1, h2⟩ := rs.fr.old b hb hn
    exact ⟨h1, by rw [heap_alloc_old _ _ (Nat.lt_of_lt_of_le hb rs.fr.size)]; exact h2⟩
  · intro j cj ej hj
    rcases hget j _ hj with ⟨h1, h2⟩ | ⟨h1, h2⟩
    · rw [if_neg (by omega)]; exact rs.new j cj ej h2
    · rw [if_pos h1]; exact rs.fr.size
  · dsimp only; rw [List.getElem?_append_left hj]
  · dsimp only at h2
    rw [List.getElem?_append_left (lt_of_some h1), h1] at h2
    injection h2 with h2; injection h2 with _ h2; exact h2.symm
  · dsimp only; rw [List.getElem?_append_left (lt_of_some hj)]; exact hj

theorem newBlk_rs (rs : Rs cx h₀ w₀ s β a w) {o : Obj} (ho : okObj o) :
    Rs cx h₀ w₀ { s with h := s.h.set w.heap.size o } β a (w.alloc o) ∧ Ext s β { s with h := s.h.set w.heap.size o } β ∧ s.h w.heap.size = none := by
  have hf := rel_fresh rs.kn.rel
  refine ⟨⟨rs.size, rs.defers, rs.env, ⟨?_, ?_, rs.kn.one, rs.kn.inj, rs.kn.mat, rs.kn.hw.set _ ho⟩, ⟨rs.fr.os, rs.fr.tape, rs.fr.output, ?_, ?_⟩, rs.new⟩, Ext.same β rfl (fun _ h => h), hf⟩
  · intro b x hb
    dsimp only at hb
    by_cases hbs : b = w.heap.size
    · subst hbs; rw [Heap.set_same] at hb; injection hb with hb; subst hb; exact heap_alloc_at w _
    · rw [Heap.set_other _ _ hbs] at hb; exact rs.kn.rel.alloc o b x hb
  · intro i c e hi
    obtain ⟨h1, h2⟩ := rs.kn.live i c e hi
    have hlt := rs.kn.lt hi
    exact ⟨by rw [heap_alloc_old _ _ hlt]; exact h1, by dsimp only; rw [Heap.set_other _ _ (by omega)]; exact h2⟩
  · simp; have := rs.fr.size; omega
  · intro b hb hn
    obtain ⟨h1, h2⟩ := rs.fr.old b hb hn
    have hlt := Nat.lt_of_lt_of_le hb rs.fr.size
    exact ⟨by dsimp only; rw [Heap.set_other _ _ (by omega)]; exact h1, by rw [heap_alloc_old _ _ hlt]; exact h2⟩

theorem setBlk_rs (rs : Rs cx h₀ w₀ s β a w) {b : Nat} {o o' : Obj} (hb : s.h b = some o) (ho : okObj o') (hw : But w w' b) (hn : w'.heap[b]? = some o') :
    Rs cx h₀ w₀ { s with h := s.h.set b o' } β a w' ∧ Ext s β { s with h := s.h.set b o' } β := by
  refine ⟨⟨rs.size, rs.defers, rs.env, ⟨?_, ?_, rs.kn.one, rs.kn.inj, rs.kn.mat, rs.kn.hw.set _ ho⟩, ⟨hw.os.trans rs.fr.os, hw.tape.trans rs.fr.tape, hw.output.trans rs.fr.output, by rw [hw.size]; exact rs.fr.size, ?_⟩, rs.new⟩, Ext.same β rfl (fun _ h => h)⟩
  · intro x y hx
    dsimp only at hx
    by_cases hxb : x = b
    · subst hxb; rw [Heap.set_same] at hx; injection hx with hx; subst hx; exact hn
    · rw [Heap.set_other _ _ hxb] at hx; rw [hw.other x hxb]; exact rs.kn.rel x y hx
  · intro i c e hi
    obtain ⟨h1, h2⟩ := rs.kn.live i c e hi
    have hne : β i ≠ b := by rintro rfl; rw [hb] at h2; cases h2
    exact ⟨by rw [hw.other _ hne]; exact h1, by dsimp only; rw [Heap.set_other _ _ hne]; exact h2⟩
  · intro x hx hxn
    obtain ⟨h1, h2⟩ := rs.fr.old x hx hxn
    have hne : x ≠ b := by rintro rfl; rw [hb] at h1; cases h1
    exact ⟨by dsimp only; rw [Heap.set_other _ _ hne]; exact h1, by rw [hw.other _ hne]; exact h2⟩

theorem setLoc_rs (rs : Rs cx h₀ w₀ s β a w) {i : Nat} {c c' : List Value} {e : TypeId} (hi : s.loc[i]? = some (LC.live c e)) (hc : ∀ x ∈ c', one x = true) (hw : But w w' (β i))
    (hn : w'.heap[β i]? = some (.cells ⟨c'⟩ e (0, 0))) :
    Rs cx h₀ w₀ { s with loc := s.loc.set i (.live c' e), tch := i :: s.tch } β a w' ∧ Ext s β { s with loc := s.loc.set i (.live c' e), tch := i :: s.tch } β := by
  have hil := lt_of_some hi
  obtain ⟨hb, hbn⟩ := rs.kn.live i c e hi
  have hget : ∀ j, (s.loc.set i (.live c' e))[j]? = if j = i then some (.live c' e) else s.loc[j]? := by
    intro j
    by_cases hji : j = i
    · subst hji; simp [hil]
    · rw [List.getElem?_set_ne (fun e => hji e.symm), if_neg hji]
  refine ⟨⟨rs.size, rs.defers, fun t ev h => ?_, ⟨?_, ?_, ?_, ?_, ?_, rs.kn.hw⟩, ⟨hw.os.trans rs.fr.os, hw.tape.trans rs.fr.tape, hw.output.trans rs.fr.output, by rw [hw.size]; exact rs.fr.size, ?_⟩, ?_⟩, ⟨by simp, fun j hj => by simp [hj], fun j hj hnj => ?_, fun _ _ => rfl, fun j cj ej cj' ej' h1 h2 => ?_, fun j b hj => ?_⟩⟩
  · obtain ⟨h1, h2⟩ := rs.env t ev h
    exact ⟨h1, by simpa using h2⟩
  · intro x y hx
    have hxb : x ≠ β i := by rintro rfl; rw [show s.h (β i) = none from hbn] at hx; cases hx
    rw [hw.other x hxb]; exact rs.kn.rel x y hx
  · intro j cj ej hj
    rw [hget] at hj
    split at hj
    · rename_i hji
      injection hj with hj; injection hj with hj hj2; subst hj; subst hj2
      rw [hji]; exact ⟨hn, hbn⟩
    · rename_i hji
      obtain ⟨h1, h2⟩ := rs.kn.live j cj ej hj
      exact ⟨by rw [hw.other _ (fun e => hji (rs.kn.inj j i _ _ _ _ hj hi e))]; exact h1, h2⟩
  · intro j cj ej hj
    rw [hget] at hj
    split at hj
    · injection hj with hj; injection hj with hj hj2; subst hj; exact hc
    · exact rs.kn.one j cj ej hj
  · intro j k cj ej ck ek hj hk hjk
    rw [hget] at hj hk
    split at hj <;> split at hk
    · omega
    · rename_i h1 h2; rw [h1] at hjk; rw [h1]; exact (rs.kn.inj i k _ _ _ _ hi hk hjk)
    · rename_i h1 h2; rw [h2] at hjk; rw [h2]; exact (rs.kn.inj j i _ _ _ _ hj hi hjk)
    · exact rs.kn.inj j k _ _ _ _ hj hk hjk
  · intro j b hj
    rw [hget] at hj
    split at hj
    · cases hj
    · exact rs.kn.mat j b hj
  · intro x hx hxn
    obtain ⟨h1, h2⟩ := rs.fr.old x hx hxn
    have := rs.new i c e hi
    exact ⟨h1, by rw [hw.other _ (by omega)]; exact h2⟩
  · intro j cj ej hj
    rw [hget] at hj
    split at hj
    · rename_i hji; rw [hji]; exact rs.new i c e hi
    · exact rs.new j cj ej hj
  · dsimp only
    rw [hget, if_neg (by rintro rfl; exact hnj (by simp))]
  · dsimp only at h2
    rw [hget] at h2
    split at h2
    · rename_i hji
      injection h2 with h2; injection h2 with _ h2
      rw [hji, hi] at h1; injection h1 with h1; injection h1 with _ h1
      rw [← h2, h1]
    · rw [h1] at h2; injection h2 with h2; injection h2 with _ h2; exact h2.symm
  · dsimp only
    rw [hget, if_neg (by rintro rfl; rw [hi] at hj; cases hj)]
    exact hj

/-- A row of cells, written. -/
theorem but_setRow (w : World) (g : Nat) (cs : Array Value) : But w (w.setRow g cs) g :=
  ⟨rfl, rfl, rfl, by simp, fun k hk => setRow_other w g k cs hk⟩
theorem storeCells_run (P : Program) (g o : Nat) (t : TypeId) (fz : Nat × Nat) : ∀ (vs : List Value) (i : Nat) (cur : Array Value) (w : World), w.heap[g]? = some (.cells cur t fz) →
    (fz.2 ≤ fz.1 ∨ fz.2 ≤ o + i ∨ o + i + vs.length ≤ fz.1) → o + i + vs.length ≤ cur.size → (∀ v ∈ vs, one v = true) →
    (storeCells ⟨g, o, none⟩ vs i).run P w = .ok () (w.setRow g (splice cur.toList (o + i) vs).toArray)
  | [], i, cur, w, hg, _, _, _ => by
    simp only [splice, storeCells, List.append_nil, List.length_nil, Nat.add_zero, List.take_append_drop, Array.toArray_toList]
    rw [setRow_self w g cur t fz hg]
    rfl
  | v :: rest, i, cur, w, hg, hfz, hl, h1 => by
    have hi : o + i < cur.size := by simp at hl; omega
    have hadd : (⟨g, o, none⟩ : Addr).add i = ⟨g, o + i, none⟩ := by unfold Addr.add; split <;> simp_all
    have hcell : w.cell? ⟨g, o + i, none⟩ = some cur[o + i] := by simp [World.cell?, hg, hi]
    have hfro : w.frozen? ⟨g, o + i, none⟩ = false := by
      obtain ⟨lo, hi'⟩ := fz
      simp only [List.length_cons] at hfz
      simp only [World.frozen?, hg, Bool.and_eq_false_iff, decide_eq_false_iff_not]
      omega
    have hst : (store ((⟨g, o, none⟩ : Addr).add i) v).run P w = .ok () (w.setRow g (cur.setIfInBounds (o + i) v)) := by
      rw [hadd, run_store P w _ v _ (oneCell_of_one (h1 v (by simp))), hcell]
      simp [hfro, setCell_eq_setRow w g (o + i) cur t fz v hg]
    have ih := storeCells_run P g o t fz rest (i + 1) (cur.setIfInBounds (o + i) v) (w.setRow g (cur.setIfInBounds (o + i) v)) (setRow_heap w g cur _ t _ hg) (by simp only [List.length_cons] at hfz; omega) (by simp at hl ⊢; omega) (fun x hx => h1 x (by simp [hx]))
    simp only [storeCells, Sem.run_bind, hst, Result.andThen_ok, ih, setRow_setRow]
    congr 3
    have e := list_seg_step cur.toList (o + i) v rest (by simp at hl ⊢; omega)
    simpa [splice, Array.toList_setIfInBounds, Nat.add_assoc] using e

theorem splice_one {c : List Value} (hc : ∀ x ∈ c, one x = true) (o : Nat) {vs : List Value} (hv : ∀ x ∈ vs, one x = true) : ∀ x ∈ splice c o vs, one x = true := by
  intro x hx
  simp only [splice, List.mem_append] at hx
  rcases hx with (h | h) | h
  · exact hc x (List.mem_of_mem_take h)
  · exact hv x h
  · exact hc x (List.mem_of_mem_drop h)

/-- What a store into known memory does. -/
theorem wr_run {P : Program} (rs : Rs cx h₀ w₀ s β a w) {p : Addr} {vs : List Value} {h' : Heap} (hwr : wr s.h p vs = some h') (hv : ∀ v ∈ vs, one v = true) :
    ∃ w', (storeCells p vs).run P w = .ok () w' ∧ Rs cx h₀ w₀ { s with h := h' } β a w' ∧ Ext s β { s with h := h' } β := by
  unfold wr at hwr
  split at hwr
  · rename_i c e fr hb
    split at hwr
    · cases hwr
    · rename_i hs
      split at hwr
      · rename_i hcond
        injection hwr with hwr; subst hwr
        obtain ⟨b, o, sp⟩ := p
        have hsp : sp = none := by cases sp <;> simp_all
        subst hsp
        have hw := rs.kn.rel _ _ hb
        have hrun := storeCells_run P b o e fr vs 0 c w hw (by simpa using hcond.2) (by simpa using hcond.1) hv
        have hrow : (w.setRow b (splice c.toList (o + 0) vs).toArray).heap[b]? = some (.cells ⟨splice c.toList o vs⟩ e fr) := by
          rw [setRow_heap w b c _ e fr hw]
          simp
        obtain ⟨h1, h2⟩ := setBlk_rs (w' := w.setRow b (splice c.toList (o + 0) vs).toArray) (o' := .cells ⟨splice c.toList o vs⟩ e fr) rs hb trivial (but_setRow w b _) hrow
        exact ⟨_, hrun, h1, h2⟩
      · cases hwr
  · cases hwr
/-- A store into a local. -/
theorem wrL_run {P : Program} (rs : Rs cx h₀ w₀ s β a w) {i off : Nat} {c vs : List Value} {e : TypeId} (hi : s.loc[i]? = some (LC.live c e)) (hle : off + vs.length ≤ c.length) (hv : ∀ v ∈ vs, one v = true) :
    ∃ w', (storeCells ⟨β i, off, none⟩ vs).run P w = .ok () w' ∧ Rs cx h₀ w₀ { s with loc := s.loc.set i (.live (splice c off vs) e), tch := i :: s.tch } β a w' ∧
      Ext s β { s with loc := s.loc.set i (.live (splice c off vs) e), tch := i :: s.tch } β := by
  obtain ⟨hb, _⟩ := rs.kn.live i c e hi
  have hrun := storeCells_run P (β i) off e (0, 0) vs 0 ⟨c⟩ w hb (.inl (Nat.le_refl _)) (by simpa using hle) hv
  have hrow : (w.setRow (β i) (splice c (off + 0) vs).toArray).heap[β i]? = some (.cells ⟨splice c off vs⟩ e (0, 0)) := by
    rw [setRow_heap w (β i) ⟨c⟩ _ e (0, 0) hb]
    simp
  obtain ⟨h1, h2⟩ := setLoc_rs (w' := w.setRow (β i) (splice c (off + 0) vs).toArray) (c' := splice c off vs) rs hi (splice_one (rs.kn.one i c e hi) off hv) (but_setRow w (β i) _) hrow
  exact ⟨_, hrun, h1, h2⟩
end Go.Vw
