/-
  Regions in any order: what holds on the way, and every step of it.
-/
import Derived.Test.YtomcnpeeelhpcaaGreatDoorVwDraw2
namespace Go.Vw
open Go
variable {cx : Cx} {h₀ : Heap} {w₀ w w' : World} {s s' s₀ : St} {β β' β₀ : Nat → Nat} {a₀ a b b' : Act} {ops : Array Oper} {o : Oper} {bl : List Nat} {K : St → Prop} {rest : List Nat} {acc : List (Nat × List Nat)} {listed : Array Bool}

structure DInv (cx : Cx) (ops : Array Oper) (h₀ : Heap) (w₀ : World) (a₀ : Act) (s₀ : St) (β₀ : Nat → Nat) (K : St → Prop) (rest : List Nat) (acc : List (Nat × List Nat)) (s : St) (β : Nat → Nat) (a b : Act) (w : World) (listed : Array Bool) : Prop where
  oko : okOrder cx ops rest acc = true
  ev : evD cx ops rest acc s K
  acck : AccOk cx ops acc
  rs : Rs cx h₀ w₀ s β b w
  asz : a.tmps.size = cx.N
  adf : a.defers = []
  lsz : listed.size = ops.size
  av : ∀ t, (∃ p ∈ acc, ¬ Ls listed p.1 ∧ dstIs ops p.1 t) → a.tmps.getD t undef = a₀.tmps.getD t undef
  av' : ∀ t, (¬ ∃ p ∈ acc, ¬ Ls listed p.1 ∧ dstIs ops p.1 t) → a.tmps.getD t undef = b.tmps.getD t undef
  bv : ∀ t, (∀ p ∈ acc, ¬ dstIs ops p.1 t) → b.tmps.getD t undef = a₀.tmps.getD t undef
  cl : ∀ p ∈ acc, Ls listed p.1 → ∀ j ∈ p.2, Ls listed j
  un : ∀ i ∈ rest, ¬ Ls listed i
  dn : ∀ p ∈ acc, ∀ t, dstIs ops p.1 t → t < cx.N
  pf : ∀ p ∈ acc, ¬ Ls listed p.1 → ∀ o, ops[p.1]? = some o → PF cx ops a₀ b s β w o p.2
  ext : Ext s₀ β₀ s β
  same : Same (dsts ops.toList) a₀ b

theorem okOrder_cons {i : Nat} (h : okOrder cx ops (i :: rest) acc = true) : ∃ o, ops[i]? = some o ∧ (∀ p ∈ acc, p.1 ≠ i) ∧ edgesDone acc o.after.toList = true ∧ fitsBehind cx ops o (befOf acc o.after.toList) acc = true ∧ selfOk o = true ∧ okOrder cx ops rest ((i, befOf acc o.after.toList) :: acc) = true := by
  simp only [okOrder] at h
  split at h
  · rename_i o ho
    simp only [Bool.and_eq_true, Bool.not_eq_true'] at h
    obtain ⟨⟨⟨⟨h1, h2⟩, h3⟩, h4⟩, h5⟩ := h
    refine ⟨o, ho, fun p hp e => ?_, h2, h3, h4, h5⟩
    have : memN i (acc.map (·.1)) = true := (memN_mem _ _).2 (by simpa using ⟨p.2, by rw [← e]; exact hp⟩)
    rw [h1] at this; cases this
  · cases h
theorem okOrder_key : ∀ (rest : List Nat) {acc : List (Nat × List Nat)}, okOrder cx ops rest acc = true → ∀ i ∈ rest, ∀ p ∈ acc, p.1 ≠ i
  | [], acc, h, i, hi => by simp at hi
  | x :: r, acc, h, i, hi => by
    obtain ⟨o, h1, h2, h3, h4, h5, h6⟩ := okOrder_cons h
    rcases List.mem_cons.1 hi with e | e
    · subst e; exact h2
    · intro p hp
      exact okOrder_key r h6 i e p (by simp [hp])
theorem coverN_spec {ks : List Nat} : ∀ (n : Nat), coverN ks n = true → ∀ i, i < n → i ∈ ks
  | 0, _, i, h => absurd h (Nat.not_lt_zero _)
  | n + 1, hc, i, h => by
    simp only [coverN, Bool.and_eq_true] at hc
    rcases Nat.lt_or_ge i n with h1 | h1
    · exact coverN_spec n hc.2 i h1
    · have : i = n := by omega
      subst this
      exact (memN_mem _ _).1 hc.1
theorem okOrder_cover : ∀ (rest : List Nat) {acc : List (Nat × List Nat)}, okOrder cx ops rest acc = true → ∀ i, i < ops.size → (∃ p ∈ acc, p.1 = i) ∨ i ∈ rest
  | [], acc, h, i, hi => by
    have := coverN_spec _ (by simpa [okOrder] using h) i hi
    simp at this
    obtain ⟨q, hq⟩ := this
    exact .inl ⟨_, hq, rfl⟩
  | x :: r, acc, h, i, hi => by
    obtain ⟨o, h1, h2, h3, h4, h5, h6⟩ := okOrder_cons h
    rcases okOrder_cover r h6 i hi with ⟨p, hp, e⟩ | h7
    · rcases List.mem_cons.1 hp with e' | e'
      · subst e'; exact .inr (by simp [← e])
      · exact .inl ⟨p, e', e⟩
    · exact .inr (by simp [h7])

/-- Nothing that lies behind what changes memory can be ready ahead of it. -/
theorem blocked {h : Nat} {oh : Oper} (hoh : ops[h]? = some oh) (hpr : isPR cx oh.op = false) (hn : ¬ Ls listed h) : ∀ (l : List Nat) {acc : List (Nat × List Nat)}, okOrder cx ops l acc = true → (∃ p ∈ acc, p.1 = h) →
    (∀ p ∈ acc, Ls listed p.1 → ∀ j ∈ p.2, Ls listed j) → (∀ j ∈ l, ¬ Ls listed j) → ∀ i ∈ l, ∀ o, ops[i]? = some o → (∀ e ∈ o.after.toList, Region.binds .any e = true → Ls listed e.on) → False
  | [], acc, _, _, _, _, i, hi, _, _, _ => by simp at hi
  | x :: r, acc, hok, hmem, cl, un, i, hi, o, ho, hall => by
    obtain ⟨ox, h1, h2, h3, h4, h5, h6⟩ := okOrder_cons hok
    by_cases hix : i = x
    · subst hix
      rw [h1] at ho; injection ho with ho; subst ho
      obtain ⟨p, hp, hph⟩ := hmem
      obtain ⟨oq, k1, _, _, k4⟩ := fitsBehind_spec _ h4 p hp
      rw [hph, hoh] at k1; injection k1 with k1; subst k1
      rcases k4 with k4 | ⟨_, _, k5⟩
      · rw [hph] at k4
        obtain ⟨e, he, hb, h7⟩ := befOf_mem _ _ k4
        rcases h7 with h7 | ⟨q, hq, h8, h9⟩
        · exact hn (by rw [h7]; exact hall e he hb)
        · exact hn (cl q hq (by rw [h8]; exact hall e he hb) h h9)
      · rw [hpr] at k5; cases k5
    · refine blocked hoh hpr hn r h6 ?_ ?_ (fun j hj => un j (by simp [hj])) i ?_ o ho hall
      · obtain ⟨p, hp, hph⟩ := hmem
        exact ⟨p, by simp [hp], hph⟩
      · intro p hp hl j hj
        rcases List.mem_cons.1 hp with e | e
        · subst e; exact absurd hl (un x (by simp))
        · exact cl p e hl j hj
      · rcases List.mem_cons.1 hi with e | e
        · exact absurd e hix
        · exact e

theorem Quiet'.comp {s1 : St} {dst : Option Nat} (h : Quiet' s s1 none) (k : Quiet' s1 s' dst) : Quiet' s s' dst := ⟨fun t e h1 h2 h3 => k.env t e (h.env t e h1 h2 (fun d hd => by cases hd)) h2 h3⟩
theorem Quiet.comp {s1 : St} (h : Quiet s s1) (k : Quiet s1 s') : Quiet s s' := ⟨k.h.trans h.h, k.loc.trans h.loc⟩

/-- The act that is put to, at other slots. -/
theorem put_other {dst : Option Nat} {v : Value} {t : Nat} (h : ∀ d, dst = some d → t ≠ d) (hs : ∀ d, dst = some d → d < a.tmps.size) : (a.put dst v).tmps.getD t undef = a.tmps.getD t undef := by
  cases dst with
  | none => rfl
  | some d => rw [put_getD a d v (hs d rfl), if_neg (h d rfl)]
theorem put_self {d : Nat} {v : Value} (hs : d < a.tmps.size) : (a.put (some d) v).tmps.getD d undef = v := by rw [put_getD a d v hs, if_pos rfl]
theorem put_size (a : Act) (dst : Option Nat) (v : Value) : (a.put dst v).tmps.size = a.tmps.size := by cases dst <;> simp [Act.put]
theorem put_defers (a : Act) (dst : Option Nat) (v : Value) : (a.put dst v).defers = a.defers := by cases dst <;> rfl

/-- What comes next in the order, done: the rest of the bookkeeping. -/
theorem DInv.next {i : Nat} (D : DInv cx ops h₀ w₀ a₀ s₀ β₀ K (i :: rest) acc s β a b w listed) (ho : ops[i]? = some o) {v : Value} {dc : Bool} {s3 : St}
    (hev : evD cx ops rest ((i, befOf acc o.after.toList) :: acc) s3 K) (rs3 : Rs cx h₀ w₀ s3 β' (b.put o.dst v) w') (hdn : ∀ d, o.dst = some d → d < cx.N) (ex : Ext s β s3 β')
    (hbl : dc = true → ∀ j ∈ befOf acc o.after.toList, Ls listed j)
    (hpfn : dc = false → PF cx ops a₀ (b.put o.dst v) s3 β' w' o (befOf acc o.after.toList))
    (hpf : ∀ p ∈ acc, ¬ Ls listed p.1 → ∀ op, ops[p.1]? = some op → (∀ t, (∃ j ∈ p.2, dstIs ops j t) ∨ op.dst = some t → (b.put o.dst v).tmps.getD t undef = b.tmps.getD t undef) → (∀ x d, rdTmp op.op = some x → o.dst = some d → x ≠ d) → PF cx ops a₀ b s β w op p.2 → PF cx ops a₀ (b.put o.dst v) s3 β' w' op p.2) :
    DInv cx ops h₀ w₀ a₀ s₀ β₀ K rest ((i, befOf acc o.after.toList) :: acc) s3 β' (if dc then a.put o.dst v else a) (b.put o.dst v) w' (if dc then listed.setIfInBounds i true else listed) := by
  obtain ⟨o', h1, h2, h3, h4, h5, h6⟩ := okOrder_cons D.oko
  rw [ho] at h1; injection h1 with h1; subst h1
  have hil : i < ops.size := (Array.getElem?_eq_some_iff.1 ho).1
  have hni : ¬ Ls listed i := D.un i (by simp)
  have hbN : ∀ d, o.dst = some d → d < b.tmps.size := fun d hd => by rw [D.rs.size]; exact hdn d hd
  have haN : ∀ d, o.dst = some d → d < a.tmps.size := fun d hd => by rw [D.asz]; exact hdn d hd
  -- slots of those that came ahead are other slots
  have oth : ∀ p ∈ acc, ∀ t, dstIs ops p.1 t → ∀ d, o.dst = some d → t ≠ d := by
    rintro p hp t ⟨op, hop, hd⟩ d hd' rfl
    obtain ⟨oq, k1, k2, _, _⟩ := fitsBehind_spec _ h4 p hp
    rw [hop] at k1; injection k1 with k1; subst k1
    exact k2 t hd hd'
  have lsi : ∀ j, j ≠ i → (Ls (if dc then listed.setIfInBounds i true else listed) j ↔ Ls listed j) := fun j hj => by
    cases dc with
    | true => exact ls_set_ne (fun e => hj e.symm)
    | false => exact Iff.rfl
  have lsiI : Ls (if dc then listed.setIfInBounds i true else listed) i ↔ dc = true := by
    cases dc with
    | true => simpa using ls_set_self (by rw [D.lsz]; exact hil)
    | false => simpa using hni
  have aoth : ∀ t, (∀ d, o.dst = some d → t ≠ d) → (if dc then a.put o.dst v else a).tmps.getD t undef = a.tmps.getD t undef := fun t ht => by
    cases dc with
    | true => exact put_other ht haN
    | false => rfl
  have hack : AccOk cx ops ((i, befOf acc o.after.toList) :: acc) := ⟨⟨o, ho, h2, h3, h4, rfl, h5⟩, D.acck⟩
  refine ⟨h6, hev, hack, rs3, ?_, ?_, ?_, ?_, ?_, ?_, ?_, ?_, ?_, ?_, D.ext.trans ex, ?_⟩
  · cases dc with
    | true => simp only [if_true]; rw [put_size]; exact D.asz
    | false => exact D.asz
  · cases dc with
    | true => simp only [if_true]; rw [put_defers]; exact D.adf
    | false => exact D.adf
  · cases dc with
    | true => simpa using D.lsz
    | false => exact D.lsz
  · rintro t ⟨p, hp, hnl, hdp⟩
    rcases List.mem_cons.1 hp with e | e
    · subst e
      have hdc : dc = false := by
        cases dc with
        | true => exact absurd (lsiI.2 rfl) hnl
        | false => rfl
      subst hdc
      obtain ⟨op, hop, hd⟩ := hdp
      dsimp only at hop
      rw [ho] at hop; injection hop with hop; subst hop
      simp only [Bool.false_eq_true, if_false]
      rw [D.av' t (by rintro ⟨q, hq, _, hdq⟩; exact oth q hq t hdq t hd rfl)]
      exact D.bv t (fun q hq hdq => oth q hq t hdq t hd rfl)
    · rw [aoth t (oth p e t hdp)]
      exact D.av t ⟨p, e, fun hl => hnl ((lsi p.1 (h2 p e)).2 hl), hdp⟩
  · intro t hnp
    have hacc : ¬ ∃ p ∈ acc, ¬ Ls listed p.1 ∧ dstIs ops p.1 t := by
      rintro ⟨p, hp, hnl, hdp⟩
      exact hnp ⟨p, by simp [hp], fun hl => hnl ((lsi p.1 (h2 p hp)).1 hl), hdp⟩
    by_cases ht : o.dst = some t
    · have hdc : dc = true := by
        cases hdc : dc with
        | true => rfl
        | false =>
          refine (hnp ⟨(i, befOf acc o.after.toList), by simp, fun hl => ?_, o, ho, ht⟩).elim
          have := lsiI.1 hl
          rw [hdc] at this; cases this
      subst hdc
      simp only [if_true]
      rw [ht, put_self (haN t ht), put_self (hbN t ht)]
    · have ht' : ∀ d, o.dst = some d → t ≠ d := by rintro d hd rfl; exact ht hd
      rw [aoth t ht', put_other ht' hbN]
      exact D.av' t hacc
  · intro t hnp
    have ht' : ∀ d, o.dst = some d → t ≠ d := by rintro d hd rfl; exact hnp (i, befOf acc o.after.toList) (by simp) ⟨o, ho, hd⟩
    rw [put_other ht' hbN]
    exact D.bv t (fun p hp => hnp p (by simp [hp]))
  · intro p hp hl j hj
    have up : ∀ j, Ls listed j → Ls (if dc then listed.setIfInBounds i true else listed) j := fun j hj => by
      cases dc with
      | true => exact ls_set hj
      | false => exact hj
    rcases List.mem_cons.1 hp with e | e
    · subst e
      exact up j (hbl (lsiI.1 hl) j hj)
    · exact up j (D.cl p e ((lsi p.1 (h2 p e)).1 hl) j hj)
  · intro j hj hl
    have hji : j ≠ i := by rintro rfl; exact okOrder_key _ h6 j hj (j, befOf acc o.after.toList) (by simp) rfl
    exact D.un j (by simp [hj]) ((lsi j hji).1 hl)
  · intro p hp t hd
    rcases List.mem_cons.1 hp with e | e
    · subst e
      obtain ⟨op, hop, hd'⟩ := hd
      dsimp only at hop
      rw [ho] at hop; injection hop with hop; subst hop
      exact hdn t hd'
    · exact D.dn p e t hd
  · intro p hp hnl op hop
    rcases List.mem_cons.1 hp with e | e
    · subst e
      dsimp only at hop
      rw [ho] at hop; injection hop with hop; subst hop
      refine hpfn ?_
      cases dc with
      | true => exact absurd (lsiI.2 rfl) hnl
      | false => rfl
    · have hnl' : ¬ Ls listed p.1 := fun hl => hnl ((lsi p.1 (h2 p e)).2 hl)
      obtain ⟨oq, k1, k2, k3, _⟩ := fitsBehind_spec _ h4 p e
      rw [hop] at k1; injection k1 with k1; subst k1
      refine hpf p e hnl' op hop (fun t ht => put_other (fun d hd => ?_) hbN) (fun x d hx hd => k3 x d hx hd) (D.pf p e hnl' op hop)
      rcases ht with ⟨j, hj, hdj⟩ | ht
      · obtain ⟨q, hq, hqj⟩ := D.acck.befKey p e j hj
        exact oth q hq t (by rw [hqj]; exact hdj) d hd
      · exact oth p e t ⟨op, hop, ht⟩ d hd
  · refine D.same.trans (fun t ht => put_other (fun d hd => ?_) hbN)
    rintro rfl
    exact ht (dsts_mem _ o (by simpa using Array.mem_of_getElem? ho) t (by simp [hd]))
variable (D : DInv cx ops h₀ w₀ a₀ s₀ β₀ K rest acc s β a b w listed)
include D

/-- What is bound ahead has been done. -/
theorem DInv.befDone {es : List Edge} (hall : ∀ e ∈ es, Region.binds .any e = true → Ls listed e.on) : ∀ j ∈ befOf acc es, Ls listed j := by
  intro j hj
  obtain ⟨e, he, hb, h⟩ := befOf_mem _ _ hj
  rcases h with h | ⟨q, hq, h1, h2⟩
  · rw [h]; exact hall e he hb
  · exact D.cl q hq (by rw [h1]; exact hall e he hb) j h2
theorem DInv.befDone' {p : Nat × List Nat} (hp : p ∈ acc) (ho : ops[p.1]? = some o) (hall : ∀ e ∈ o.after.toList, Region.binds .any e = true → Ls listed e.on) : ∀ j ∈ p.2, Ls listed j := by
  intro j hj
  obtain ⟨e, he, hb, h⟩ := D.acck.bef p hp o ho j hj
  rcases h with h | ⟨q, hq, h1, h2⟩
  · rw [h]; exact hall e he hb
  · exact D.cl q hq (by rw [h1]; exact hall e he hb) j h2

end Go.Vw
