/-
  The state of the calculus beside the act and the world; how both go on.
-/
import Derived.Lib.FrozenHead
import Derived.Test.YtomcnpeeelhpcaaGreatDoorVwPr5
namespace Go.Vw
open Go

structure Rs (cx : Cx) (h₀ : Heap) (w₀ : World) (s : St) (β : Nat → Nat) (a : Act) (w : World) : Prop where
  size : a.tmps.size = cx.N
  defers : a.defers = []
  env : ∀ t e, lk s.env t = some e → a.tmps.getD t undef = cz β e ∧ okE s.loc.length e
  kn : KN s.h s.loc β w
  fr : Fr h₀ w₀ s.h w
  new : ∀ (i : Nat) c e, s.loc[i]? = some (LC.live c e) → w₀.heap.size ≤ β i
structure Ext (s : St) (β : Nat → Nat) (s' : St) (β' : Nat → Nat) : Prop where
  len : s.loc.length ≤ s'.loc.length
  tch : ∀ i ∈ s.tch, i ∈ s'.tch
  loc : ∀ i, i < s.loc.length → i ∉ s'.tch → s'.loc[i]? = s.loc[i]?
  beta : ∀ i, i < s.loc.length → β' i = β i
  ety : ∀ (i : Nat) c e c' e', s.loc[i]? = some (LC.live c e) → s'.loc[i]? = some (LC.live c' e') → e' = e
  mono : ∀ (i : Nat) b, s.loc[i]? = some (LC.mat b) → s'.loc[i]? = some (LC.mat b)
theorem Ext.same {s s' : St} (β : Nat → Nat) (hl : s'.loc = s.loc) (ht : ∀ i ∈ s.tch, i ∈ s'.tch) : Ext s β s' β :=
  ⟨by rw [hl]; exact Nat.le_refl _, ht, fun _ _ _ => by rw [hl], fun _ _ => rfl, fun i c e c' e' h h' => by rw [hl, h] at h'; injection h' with h'; injection h' with _ h'; exact h'.symm, fun i b h => by rw [hl]; exact h⟩
theorem Ext.refl (s : St) (β : Nat → Nat) : Ext s β s β := Ext.same β rfl (fun _ h => h)
theorem Ext.trans {s s' s'' : St} {β β' β'' : Nat → Nat} (h : Ext s β s' β') (k : Ext s' β' s'' β'') : Ext s β s'' β'' :=
  ⟨Nat.le_trans h.len k.len, fun i hi => k.tch i (h.tch i hi), fun i hi hn => (k.loc i (Nat.lt_of_lt_of_le hi h.len) hn).trans (h.loc i hi (fun hm => hn (k.tch i hm))),
   fun i hi => (k.beta i (Nat.lt_of_lt_of_le hi h.len)).trans (h.beta i hi), (fun i c e c'' e'' h1 h2 => by
    have hi : i < s.loc.length := by
      rcases Nat.lt_or_ge i s.loc.length with h3 | h3
      · exact h3
      · rw [List.getElem?_eq_none h3] at h1; cases h1
    cases hm : s'.loc[i]? with
    | none =>
      rw [List.getElem?_eq_none_iff] at hm
      have := h.len; omega
    | some x =>
      cases x with
      | live c' e' => rw [k.ety i _ _ _ _ hm h2, h.ety i _ _ _ _ h1 hm]
      | mat b => rw [k.mono i b hm] at h2; cases h2),
   fun i b hb => k.mono i b (h.mono i b hb)⟩
theorem Fr.refl (h : Heap) (w : World) : Fr h w h w := ⟨rfl, rfl, rfl, Nat.le_refl _, fun _ _ hn => ⟨hn, rfl⟩⟩
theorem Fr.trans {a b c : Heap} {u v w : World} (h : Fr a u b v) (k : Fr b v c w) : Fr a u c w :=
  ⟨k.os.trans h.os, k.tape.trans h.tape, k.output.trans h.output, Nat.le_trans h.size k.size, fun x hx hn =>
    let ⟨h1, h2⟩ := h.old x hx hn
    let ⟨h3, h4⟩ := k.old x (Nat.lt_of_lt_of_le hx h.size) h1
    ⟨h3, h4.trans h2⟩⟩
theorem okE_mono {n m : Nat} (hnm : n ≤ m) {e : EV} (h : okE n e) : okE m e := by
  cases e <;> first | exact h | exact Nat.lt_of_lt_of_le h hnm
theorem cz_congr {n : Nat} {β β' : Nat → Nat} (hb : ∀ i, i < n → β' i = β i) {e : EV} (h : okE n e) : cz β' e = cz β e := by
  cases e <;> first | rfl | (simp only [cz]; rw [hb _ h])

variable {cx : Cx} {h₀ : Heap} {w₀ w : World} {s : St} {β : Nat → Nat} {a : Act}

theorem Rs.get (rs : Rs cx h₀ w₀ s β a w) {x : Operand} {e : EV} (h : getE s x = some e) : a.eval x = cz β e ∧ okE s.loc.length e := by
  unfold getE at h
  split at h
  · exact rs.env _ _ h
  · injection h with h; subst h; exact ⟨rfl, trivial⟩
  · split at h
    · rename_i v hne hv
      injection h with h; subst h
      exact ⟨rfl, vokR_of_vok hv⟩
    · cases h
  · injection h with h; subst h; exact ⟨rfl, rfl⟩
  · injection h with h; subst h; exact ⟨rfl, rfl⟩
theorem Rs.ok (rs : Rs cx h₀ w₀ s β a w) : Ok (getE s) s.h s.loc := ⟨fun x e h => (rs.get h).2, rs.kn.one, rs.kn.hw⟩

theorem rel_lt {h : Heap} {w : World} (hr : Rel h w) {b : Nat} {o : Obj} (hb : h b = some o) : b < w.heap.size := by
  have := hr b o hb
  rcases Nat.lt_or_ge b w.heap.size with h1 | h1
  · exact h1
  · rw [Array.getElem?_eq_none h1] at this; cases this
theorem KN.lt {h : Heap} {L : List LC} (kn : KN h L β w) {i : Nat} {c : List Value} {e : TypeId} (hi : L[i]? = some (LC.live c e)) : β i < w.heap.size := by
  have := (kn.live i c e hi).1
  rcases Nat.lt_or_ge (β i) w.heap.size with h1 | h1
  · exact h1
  · rw [Array.getElem?_eq_none h1] at this; cases this
theorem lt_of_some {α : Type} {l : List α} {i : Nat} {x : α} (h : l[i]? = some x) : i < l.length := by
  rcases Nat.lt_or_ge i l.length with h1 | h1
  · exact h1
  · rw [List.getElem?_eq_none h1] at h; cases h

/-- What has hidden comes to be known: nothing turns in the world. -/
theorem mat_rs (rs : Rs cx h₀ w₀ s β a w) {i : Nat} {c : List Value} {e : TypeId} (hi : s.loc[i]? = some (LC.live c e)) :
    Rs cx h₀ w₀ { s with loc := s.loc.set i (.mat (β i)), h := s.h.set (β i) (.cells ⟨c⟩ e (0, 0)), tch := i :: s.tch } β a w ∧
    Ext s β { s with loc := s.loc.set i (.mat (β i)), h := s.h.set (β i) (.cells ⟨c⟩ e (0, 0)), tch := i :: s.tch } β := by
  have hil := lt_of_some hi
  obtain ⟨hb, hn⟩ := rs.kn.live i c e hi
  have hget : ∀ j, (s.loc.set i (.mat (β i)))[j]? = if j = i then some (.mat (β i)) else s.loc[j]? := by
    intro j
    by_cases hji : j = i
    · subst hji; simp [hil]
    · rw [List.getElem?_set_ne (fun e => hji e.symm), if_neg hji]
  refine ⟨⟨rs.size, rs.defers, fun t ev h => ?_, ⟨?_, ?_, ?_, ?_, ?_, ?_⟩, ⟨rs.fr.os, rs.fr.tape, rs.fr.output, rs.fr.size, ?_⟩, ?_⟩, ⟨by simp, fun j hj => by simp [hj], fun j hj hnj => ?_, fun _ _ => rfl, fun j cj ej cj' ej' h1 h2 => ?_, fun j b hj => ?_⟩⟩
  · obtain ⟨h1, h2⟩ := rs.env t ev h
    exact ⟨h1, by simpa using h2⟩
  · intro b o hbo
    dsimp only at hbo
    by_cases hbi : b = β i
    · subst hbi
      rw [Heap.set_same] at hbo; injection hbo with hbo; subst hbo; exact hb
    · rw [Heap.set_other _ _ hbi] at hbo; exact rs.kn.rel b o hbo
  · intro j cj ej hj
    rw [hget] at hj
    split at hj
    · cases hj
    · rename_i hji
      obtain ⟨h1, h2⟩ := rs.kn.live j cj ej hj
      refine ⟨h1, ?_⟩
      dsimp only
      rw [Heap.set_other _ _ (fun e => hji (rs.kn.inj j i _ _ _ _ hj hi e))]
      exact h2
  · intro j cj ej hj
    rw [hget] at hj
    split at hj
    · cases hj
    · exact rs.kn.one j cj ej hj
  · intro j k cj ej ck ek hj hk
    rw [hget] at hj hk
    split at hj
    · cases hj
    · split at hk
      · cases hk
      · exact rs.kn.inj j k _ _ _ _ hj hk
  · intro j b hj
    rw [hget] at hj
    split at hj
    · rename_i hji; injection hj with hj; injection hj with hj; rw [hji, hj]
    · exact rs.kn.mat j b hj
  · intro b es k hbm
    dsimp only at hbm
    by_cases hbi : b = β i
    · subst hbi
      rw [Heap.set_same] at hbm; cases hbm
    · rw [Heap.set_other _ _ hbi] at hbm; exact rs.kn.hw b es k hbm
  · intro b hb0 hbn
    have hbi : b ≠ β i := by
      have := rs.new i c e hi
      omega
    obtain ⟨h1, h2⟩ := rs.fr.old b hb0 hbn
    exact ⟨by dsimp only; rw [Heap.set_other _ _ hbi]; exact h1, h2⟩
  · intro j cj ej hj
    rw [hget] at hj
    split at hj
    · cases hj
    · exact rs.new j cj ej hj
  · dsimp only
    rw [hget]
    have : j ≠ i := by rintro rfl; exact hnj (by simp)
    rw [if_neg this]
  · dsimp only at h2
    rw [hget] at h2
    split at h2
    · cases h2
    · rw [h1] at h2; injection h2 with h2; injection h2 with _ h2; exact h2.symm
  · dsimp only
    rw [hget, if_neg (by rintro rfl; rw [hi] at hj; cases hj)]
    exact hj

theorem matE_sound (rs : Rs cx h₀ w₀ s β a w) {e : EV} (he : okE s.loc.length e) {K : Value → St → Prop} (hm : matE s e K) :
    ∃ s', K (cz β e) s' ∧ Rs cx h₀ w₀ s' β a w ∧ Ext s β s' β ∧ s'.env = s.env ∧ vokR (cz β e) = true ∧ toV s'.loc e = some (cz β e) := by
  unfold matE at hm
  split at hm
  · exact ⟨s, hm, rs, Ext.refl _ _, rfl, he, rfl⟩
  · exact ⟨s, hm, rs, Ext.refl _ _, rfl, rfl, rfl⟩
  · rename_i i of d
    split at hm
    · rename_i c t hi
      obtain ⟨h1, h2⟩ := mat_rs rs hi
      exact ⟨_, hm (β i) (rs.kn.live i c t hi).2, h1, h2, rfl, rfl, by simp [toV, cz, lt_of_some hi]⟩
    · rename_i b hi
      have := rs.kn.mat i b hi
      exact ⟨s, by simpa [cz, this] using hm, rs, Ext.refl _ _, rfl, rfl, by simp [toV, cz, hi, this]⟩
    · exact hm.elim
  · rename_i i of l c'
    split at hm
    · rename_i c t hi
      obtain ⟨h1, h2⟩ := mat_rs rs hi
      exact ⟨_, hm (β i) (rs.kn.live i c t hi).2, h1, h2, rfl, rfl, by simp [toV, cz, lt_of_some hi]⟩
    · rename_i b hi
      have := rs.kn.mat i b hi
      exact ⟨s, by simpa [cz, this] using hm, rs, Ext.refl _ _, rfl, rfl, by simp [toV, cz, hi, this]⟩
    · exact hm.elim
theorem getE_env {s s' : St} (h : s'.env = s.env) (x : Operand) : getE s' x = getE s x := by
  unfold getE; cases x <;> simp [h]
theorem matL_sound : ∀ (xs : List Operand) {s : St} {K : List Value → St → Prop}, Rs cx h₀ w₀ s β a w → matL s xs K →
    ∃ s', K (xs.map a.eval) s' ∧ Rs cx h₀ w₀ s' β a w ∧ Ext s β s' β ∧ s'.env = s.env ∧ ∀ v ∈ xs.map a.eval, vokR v = true
  | [], s, K, rs, hm => ⟨s, hm, rs, Ext.refl _ _, rfl, fun v hv => by simp at hv⟩
  | x :: r, s, K, rs, hm => by
    simp only [matL] at hm
    split at hm
    · rename_i e he
      obtain ⟨h1, h2⟩ := rs.get he
      obtain ⟨s1, hK1, rs1, ex1, env1, ok1, _⟩ := matE_sound rs h2 hm
      obtain ⟨s2, hK2, rs2, ex2, env2, ok2⟩ := matL_sound r rs1 hK1
      refine ⟨s2, by rw [List.map_cons, h1]; exact hK2, rs2, ex1.trans ex2, env2.trans env1, fun v hv => ?_⟩
      rw [List.map_cons, h1] at hv
      rcases List.mem_cons.1 hv with e | e
      · subst e; exact ok1
      · exact ok2 v e
    · exact hm.elim
theorem matO_sound : ∀ (xs : List Operand) {s : St} {K : St → Prop}, Rs cx h₀ w₀ s β a w → matO s xs K →
    ∃ s', K s' ∧ Rs cx h₀ w₀ s' β a w ∧ Ext s β s' β ∧ s'.env = s.env
  | [], s, K, rs, hm => ⟨s, hm, rs, Ext.refl _ _, rfl⟩
  | x :: r, s, K, rs, hm => by
    simp only [matO] at hm
    split at hm
    · rename_i e he
      obtain ⟨h1, h2⟩ := rs.get he
      obtain ⟨s1, hK1, rs1, ex1, env1, _, _⟩ := matE_sound rs h2 hm
      obtain ⟨s2, hK2, rs2, ex2, env2⟩ := matO_sound r rs1 hK1
      exact ⟨s2, hK2, rs2, ex1.trans ex2, env2.trans env1⟩
    · exact hm.elim
end Go.Vw
