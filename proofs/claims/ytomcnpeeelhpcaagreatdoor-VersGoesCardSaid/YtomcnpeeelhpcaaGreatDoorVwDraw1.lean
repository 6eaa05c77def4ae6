/-
  Regions in any order, the bookkeeping: what an order that was checked tells; what does not turn while operations wait.
-/
import Derived.Test.YtomcnpeeelhpcaaGreatDoorVwWp
namespace Go.Vw
open Go
variable {cx : Cx} {h₀ : Heap} {w₀ w w' : World} {s s' : St} {β β' : Nat → Nat} {a b : Act} {ops : Array Oper} {o : Oper}

def dstIs (ops : Array Oper) (j t : Nat) : Prop := ∃ o, ops[j]? = some o ∧ o.dst = some t
def Ls (listed : Array Bool) (j : Nat) : Prop := listed.getD j false = true
theorem ls_set {listed : Array Bool} {i j : Nat} (h : Ls listed j) : Ls (listed.setIfInBounds i true) j := getD_set_true h
theorem ls_set_self {listed : Array Bool} {i : Nat} (h : i < listed.size) : Ls (listed.setIfInBounds i true) i := by simp [Ls, h]
theorem ls_set_ne {listed : Array Bool} {i j : Nat} (hne : i ≠ j) : Ls (listed.setIfInBounds i true) j ↔ Ls listed j := by
  unfold Ls; rw [getD_set_ne false hne]
theorem not_ls {listed : Array Bool} {j : Nat} (h : listed.getD j true = false) : ¬ Ls listed j := by
  unfold Ls
  rcases Nat.lt_or_ge j listed.size with h' | h'
  · simp [h'] at h ⊢; exact h
  · simp [Array.getElem?_eq_none h'] at h
theorem not_ls' {listed : Array Bool} {j : Nat} (hj : j < listed.size) (h : ¬ Ls listed j) : listed.getD j true = false := by
  unfold Ls at h
  simp [hj] at h ⊢; exact h

/-- Of an order, as far as it was taken. -/
def AccOk (cx : Cx) (ops : Array Oper) : List (Nat × List Nat) → Prop
  | [] => True
  | p :: r => (∃ o, ops[p.1]? = some o ∧ (∀ q ∈ r, q.1 ≠ p.1) ∧ edgesDone r o.after.toList = true ∧ fitsBehind cx ops o p.2 r = true ∧ p.2 = befOf r o.after.toList ∧ selfOk o = true) ∧ AccOk cx ops r

theorem unionN_mem : ∀ (l m : List Nat) (j : Nat), j ∈ unionN l m ↔ j ∈ l ∨ j ∈ m
  | [], m, j => by simp [unionN]
  | x :: l, m, j => by
    simp only [unionN]
    split
    · rename_i h
      rw [unionN_mem l m j, List.mem_cons]
      constructor
      · rintro (h1 | h1)
        · exact .inl (.inr h1)
        · exact .inr h1
      · rintro ((h1 | h1) | h1)
        · subst h1; exact .inr ((memN_mem _ _).1 h)
        · exact .inl h1
        · exact .inr h1
    · rw [List.mem_cons, unionN_mem l m j, List.mem_cons, or_assoc]
theorem befGet_mem : ∀ (acc : List (Nat × List Nat)) (i j : Nat), j ∈ befGet acc i → ∃ p ∈ acc, p.1 = i ∧ j ∈ p.2
  | [], i, j, h => by simp [befGet] at h
  | p :: r, i, j, h => by
    simp only [befGet] at h
    split at h
    · rename_i hp
      exact ⟨p, by simp, Nat.eq_of_beq_eq_true hp, h⟩
    · obtain ⟨q, hq, h1⟩ := befGet_mem r i j h
      exact ⟨q, by simp [hq], h1⟩
theorem befOf_mem {acc : List (Nat × List Nat)} : ∀ (es : List Edge) (j : Nat), j ∈ befOf acc es → ∃ e ∈ es, Region.binds .any e = true ∧ (j = e.on ∨ ∃ q ∈ acc, q.1 = e.on ∧ j ∈ q.2)
  | [], j, h => by simp [befOf] at h
  | e :: r, j, h => by
    simp only [befOf] at h
    split at h
    · rename_i hb
      rcases (unionN_mem _ _ _).1 h with h1 | h1
      · rcases List.mem_cons.1 h1 with h2 | h2
        · exact ⟨e, by simp, hb, .inl h2⟩
        · exact ⟨e, by simp, hb, .inr (befGet_mem _ _ _ h2)⟩
      · obtain ⟨e', he', h2⟩ := befOf_mem r j h1
        exact ⟨e', by simp [he'], h2⟩
    · obtain ⟨e', he', h2⟩ := befOf_mem r j h
      exact ⟨e', by simp [he'], h2⟩
theorem edgesDone_spec {acc : List (Nat × List Nat)} : ∀ (es : List Edge), edgesDone acc es = true → ∀ e ∈ es, Region.binds .any e = true → ∃ q ∈ acc, q.1 = e.on
  | [], _, e, he, _ => by simp at he
  | x :: r, h, e, he, hb => by
    simp only [edgesDone, Bool.and_eq_true, Bool.or_eq_true, Bool.not_eq_true'] at h
    rcases List.mem_cons.1 he with h1 | h1
    · subst h1
      rcases h.1 with h2 | h2
      · rw [hb] at h2; cases h2
      · have := (memN_mem _ _).1 h2
        simpa using this
    · exact edgesDone_spec r h.2 e h1 hb
/-- The slot that a read goes by. -/
def rdTmp : Op → Option Nat
  | .load _ (.tmp t) => some t
  | .convert _ _ (.tmp t) => some t
  | _ => none
theorem fitsBehind_spec {bl : List Nat} : ∀ (r : List (Nat × List Nat)), fitsBehind cx ops o bl r = true → ∀ q ∈ r, ∃ oq, ops[q.1]? = some oq ∧ (∀ d, oq.dst = some d → o.dst ≠ some d) ∧ (∀ x d, rdTmp oq.op = some x → o.dst = some d → x ≠ d) ∧
      (q.1 ∈ bl ∨ ((∀ d, oq.dst = some d → d ∉ o.looksAt ops) ∧ (∀ d, o.dst = some d → d ∉ oq.looksAt ops) ∧ isPR cx oq.op = true))
  | [], _, q, hq => by simp at hq
  | p :: r, h, q, hq => by
    simp only [fitsBehind, Bool.and_eq_true] at h
    rcases List.mem_cons.1 hq with h1 | h1
    · subst h1
      split at h
      · rename_i oq hoq
        obtain ⟨h1, _⟩ := h
        simp only [Bool.and_eq_true, Bool.or_eq_true] at h1
        obtain ⟨⟨h2, h3⟩, h4⟩ := h1
        refine ⟨oq, hoq, fun d hd hd' => ?_, fun x d hx hd hxd => ?_, ?_⟩
        · rw [hd, hd'] at h2; simp at h2
        · subst hxd
          unfold rdTmp at hx
          split at hx
          · rename_i hop
            injection hx with hx; subst hx
            rw [hop, hd] at h3; simp at h3
          · rename_i hop
            injection hx with hx; subst hx
            rw [hop, hd] at h3; simp at h3
          · cases hx
        · rcases h4 with h4 | ⟨⟨h5, h6⟩, h7⟩
          · exact .inl ((memN_mem _ _).1 h4)
          · exact .inr ⟨(Oper.apart_spec h5).1, (Oper.apart_spec h6).1, h7⟩
      · exact absurd h.1 (by simp)
    · exact fitsBehind_spec r h.2 q h1

theorem AccOk.op {acc : List (Nat × List Nat)} (h : AccOk cx ops acc) : ∀ p ∈ acc, ∃ o, ops[p.1]? = some o ∧ selfOk o = true := by
  induction acc with
  | nil => intro p hp; simp at hp
  | cons x r ih =>
    intro p hp
    obtain ⟨⟨o, h1, h2, h3, h4, h5, h6⟩, h7⟩ := h
    rcases List.mem_cons.1 hp with e | e
    · subst e; exact ⟨o, h1, h6⟩
    · exact ih h7 p e
theorem AccOk.bef {acc : List (Nat × List Nat)} (h : AccOk cx ops acc) : ∀ p ∈ acc, ∀ o, ops[p.1]? = some o → ∀ j ∈ p.2, ∃ e ∈ o.after.toList, Region.binds .any e = true ∧ (j = e.on ∨ ∃ q ∈ acc, q.1 = e.on ∧ j ∈ q.2) := by
  induction acc with
  | nil => intro p hp; simp at hp
  | cons x r ih =>
    intro p hp o ho j hj
    obtain ⟨⟨o', h1, h2, h3, h4, h5, h6⟩, h7⟩ := h
    rcases List.mem_cons.1 hp with e | e
    · subst e
      rw [h1] at ho; injection ho with ho; subst ho
      rw [h5] at hj
      obtain ⟨e, he, hb, h8⟩ := befOf_mem _ _ hj
      refine ⟨e, he, hb, h8.imp id ?_⟩
      rintro ⟨q, hq, h9⟩
      exact ⟨q, by simp [hq], h9⟩
    · obtain ⟨e, he, hb, h8⟩ := ih h7 p e o ho j hj
      refine ⟨e, he, hb, h8.imp id ?_⟩
      rintro ⟨q, hq, h9⟩
      exact ⟨q, by simp [hq], h9⟩
theorem AccOk.edge {acc : List (Nat × List Nat)} (h : AccOk cx ops acc) : ∀ p ∈ acc, ∀ o, ops[p.1]? = some o → ∀ e ∈ o.after.toList, Region.binds .any e = true → ∃ q ∈ acc, q.1 = e.on := by
  induction acc with
  | nil => intro p hp; simp at hp
  | cons x r ih =>
    intro p hp o ho e he hb
    obtain ⟨⟨o', h1, h2, h3, h4, h5, h6⟩, h7⟩ := h
    rcases List.mem_cons.1 hp with e' | e'
    · subst e'
      rw [h1] at ho; injection ho with ho; subst ho
      obtain ⟨q, hq, h9⟩ := edgesDone_spec _ h3 e he hb
      exact ⟨q, by simp [hq], h9⟩
    · obtain ⟨q, hq, h9⟩ := ih h7 p e' o ho e he hb
      exact ⟨q, by simp [hq], h9⟩
theorem AccOk.befKey {acc : List (Nat × List Nat)} (h : AccOk cx ops acc) : ∀ p ∈ acc, ∀ j ∈ p.2, ∃ q ∈ acc, q.1 = j := by
  induction acc with
  | nil => intro p hp; simp at hp
  | cons x r ih =>
    intro p hp j hj
    obtain ⟨⟨o', h1, h2, h3, h4, h5, h6⟩, h7⟩ := h
    rcases List.mem_cons.1 hp with e' | e'
    · subst e'
      rw [h5] at hj
      obtain ⟨e, he, hb, h8⟩ := befOf_mem _ _ hj
      rcases h8 with h8 | ⟨q, hq, h9, h10⟩
      · obtain ⟨q, hq, h11⟩ := edgesDone_spec _ h3 e he hb
        exact ⟨q, by simp [hq], by rw [h11, h8]⟩
      · obtain ⟨q', hq', h11⟩ := ih h7 q hq j h10
        exact ⟨q', by simp [hq'], h11⟩
    · obtain ⟨q, hq, h9⟩ := ih h7 p e' j hj
      exact ⟨q, by simp [hq], h9⟩
theorem AccOk.pair {acc : List (Nat × List Nat)} (h : AccOk cx ops acc) : ∀ p ∈ acc, ∀ q ∈ acc, p = q ∨ (p.1 ≠ q.1 ∧ ∀ op oq, ops[p.1]? = some op → ops[q.1]? = some oq → (∀ d, op.dst = some d → oq.dst ≠ some d) ∧
    (q.1 ∈ p.2 ∨ p.1 ∈ q.2 ∨ ((∀ d, op.dst = some d → d ∉ oq.looksAt ops) ∧ (∀ d, oq.dst = some d → d ∉ op.looksAt ops)))) := by
  induction acc with
  | nil => intro p hp; simp at hp
  | cons x r ih =>
    intro p hp q hq
    obtain ⟨⟨o', h1, h2, h3, h4, h5, h6⟩, h7⟩ := h
    have one : ∀ q ∈ r, ∀ oq, ops[q.1]? = some oq → (∀ d, oq.dst = some d → o'.dst ≠ some d) ∧ (q.1 ∈ x.2 ∨ ((∀ d, oq.dst = some d → d ∉ o'.looksAt ops) ∧ (∀ d, o'.dst = some d → d ∉ oq.looksAt ops))) := by
      intro q hq oq hoq
      obtain ⟨oq', k1, k2, k3, k4⟩ := fitsBehind_spec _ h4 q hq
      rw [k1] at hoq; injection hoq with hoq; subst hoq
      exact ⟨k2, k4.imp id (fun k => ⟨k.1, k.2.1⟩)⟩
    rcases List.mem_cons.1 hp with e | e <;> rcases List.mem_cons.1 hq with e' | e'
    · exact .inl (e.trans e'.symm)
    · subst e
      refine .inr ⟨fun hh => h2 q e' hh.symm, fun op oq hop hoq => ?_⟩
      rw [h1] at hop; injection hop with hop; subst hop
      obtain ⟨k1, k2⟩ := one q e' oq hoq
      exact ⟨fun d hd hd' => k1 d hd' hd, k2.imp id (fun k => .inr ⟨k.2, k.1⟩)⟩
    · subst e'
      refine .inr ⟨fun hh => h2 p e hh, fun op oq hop hoq => ?_⟩
      rw [h1] at hoq; injection hoq with hoq; subst hoq
      obtain ⟨k1, k2⟩ := one p e op hop
      exact ⟨k1, .inr (k2.imp id (fun k => ⟨k.1, k.2⟩))⟩
    · exact ih h7 p e q e'

/-! ### Acts that look alike -/

def Agree (ops : Array Oper) (o : Oper) (a b : Act) : Prop := ∀ t ∈ o.looksAt ops, a.tmps.getD t undef = b.tmps.getD t undef
theorem Agree.eval (h : Agree ops o a b) : ∀ x ∈ o.op.operands, a.eval x = b.eval x := by
  intro x hx
  cases x with
  | tmp t => exact h t (List.mem_append_left _ (List.mem_filterMap.2 ⟨.tmp t, by simpa using hx, rfl⟩))
  | _ => rfl
theorem Agree.wanted (h : Agree ops o a b) : Region.wanted o (yielded ops a.tmps) = Region.wanted o (yielded ops b.tmps) := by
  unfold Region.wanted
  cases hg : o.guard with
  | none => rfl
  | some gw =>
    obtain ⟨g, want⟩ := gw
    have hy : yielded ops a.tmps g = yielded ops b.tmps g := by
      cases ht : (ops[g]?).bind (·.dst) with
      | none => simp [yielded, ht]
      | some t =>
        rw [yielded_getD ht, yielded_getD ht, h t (by simp [Oper.looksAt, hg, ht])]
    simp only [hy]
theorem selfOk_select (h : selfOk o = true) (cs : Array SelectCase) (bl : Bool) : o.op ≠ .select cs bl := by
  intro e
  unfold selfOk at h
  rw [e] at h
  cases hd : o.dst <;> simp [hd] at h
theorem selfOk_load (h : selfOk o = true) {x d : Nat} (ho : rdTmp o.op = some x) (hd : o.dst = some d) : x ≠ d := by
  intro e
  subst e
  unfold rdTmp at ho
  unfold selfOk at h
  split at ho
  · rename_i hop
    injection ho with ho; subst ho
    rw [hop, hd] at h; simp at h
  · rename_i hop
    injection ho with ho; subst ho
    rw [hop, hd] at h; simp at h
  · cases ho
theorem Agree.exec (h : Agree ops o a b) (hs : selfOk o = true) : execOp a.eval o = execOp b.eval o := execOp_congr o (selfOk_select hs) h.eval

/-! ### Loads -/

theorem readH_run {h : Heap} (hr : Rel h w) {t : TypeId} {p : Addr} {v : Value} (hv : readH cx h p t = some v) : (loadVar t p).run cx.P w = .ok v w := by
  unfold readH at hv
  split at hv
  · rename_i d hd
    split at hv
    · rename_i ha
      split at hv
      · rename_i i hi
        cases hx : rdn h p i.size with
        | none => rw [hx] at hv; cases hv
        | some l =>
          rw [hx] at hv
          injection hv with hv; subst hv
          exact loadVar_agg hr hd ha hi hx
      · cases hv
    · rename_i ha
      exact loadVar_scalar hr hd ha hv
  · cases hv
theorem readC_run {c : List Value} {e : TypeId} {q off : Nat} {t : TypeId} (hr : Rel (locH q c e) w) {v : Value} (hv : readC cx c off t = some v) : (loadVar t ⟨q, off, none⟩).run cx.P w = .ok v w := by
  refine readH_run hr (t := t) (v := v) (cx := cx) ?_
  unfold readC at hv
  unfold readH
  split at hv
  · split at hv
    · split at hv
      · rename_i i hi
        simp only [hi, rdn_locH]; exact hv
      · cases hv
    · simp only [rd_locH]; exact hv
  · cases hv
theorem readE_run {L : List LC} {h : Heap} (kn : KN h L β w) {t : TypeId} {x : Operand} (ho : o.op = .load t x) {ev : EV} {v : Value} (hv : readE cx h L t ev = some v) {ρ : Operand → Value} (hρ : ρ x = cz β ev) :
    (execOp ρ o).run cx.P w = .ok (.value v) w := by
  unfold readE at hv
  split at hv
  · rename_i i off d
    split at hv
    · rename_i c e hi
      simp [execOp, ho, hρ, cz, Instr.loadAt, Instr.sureAddr, readC_run (kn.locRel hi) hv]
    · rename_i q hi
      simp [execOp, ho, hρ, cz, Instr.loadAt, Instr.sureAddr, kn.mat _ _ hi, readH_run kn.rel hv]
    · cases hv
  · simp [execOp, ho, hρ, cz, Instr.loadAt, Instr.sureAddr, readH_run kn.rel hv]
  · cases hv

theorem loadH_read {h : Heap} (_hw : HW h) {t : TypeId} {p : Addr} {K : EV → Prop} (hl : loadH cx h t p K) : ∃ v, K (.v v) ∧ vok v = true ∧ readH cx h p t = some v := by
  unfold loadH at hl
  unfold readH
  split at hl
  · exact hl.elim
  · rename_i d hd
    simp only [hd]
    split at hl
    · rename_i α c s ha hτ
      split at hl
      · rename_i i hi
        obtain ⟨x, hx, hK⟩ := hl
        exact ⟨_, hK, vok_agg (cx.ok _ _ hτ x), by simp [ha, hi, hx]⟩
      · exact hl.elim
    · rename_i ty ha hτ
      split at hl
      · exact hl.elim
      · rename_i hs
        obtain ⟨x, hx, hK⟩ := hl
        exact ⟨_, hK, vok_of_one (Ty.one_v hs x), by simp [ha, hx]⟩
    · exact hl.elim
theorem loadL_read {c : List Value} {e : TypeId} {off : Nat} {dyn : Bool} {t : TypeId} {K : EV → Prop} (hc : ∀ x ∈ c, one x = true) (hl : loadL cx c e off dyn t K) : ∃ v, K (.v v) ∧ vok v = true ∧ readC cx c off t = some v := by
  unfold loadL at hl
  unfold readC
  split at hl
  · exact hl.elim
  · rename_i d hd
    simp only [hd]
    split at hl
    · rename_i ha
      split at hl
      · rename_i i hi
        simp only [ha, hi]
        have fin : ∀ l, sub c off i.size = some l → K (.v (.agg ⟨l⟩)) → ∃ v, K (.v v) ∧ vok v = true ∧ (sub c off i.size).map (fun l => Value.agg ⟨l⟩) = some v := by
          intro l hs hK
          exact ⟨_, hK, vok_agg (sub_one hc hs), by rw [hs]; rfl⟩
        split at hl
        · split at hl
          · obtain ⟨x, hx, hK⟩ := hl
            exact fin _ hx hK
          · exact hl.elim
        · split at hl
          · rename_i hb
            obtain ⟨hlen, hK⟩ := hl
            simp only [Bool.and_eq_true] at hb
            have h0 : off = 0 := Nat.eq_of_beq_eq_true hb.1
            subst h0
            exact fin c (by unfold sub; rw [if_pos (by omega)]; simp [hlen.symm]) hK
          · split at hl
            · obtain ⟨x, hx, hK⟩ := hl
              exact fin _ hx hK
            · exact hl.elim
      · exact hl.elim
    · rename_i ha
      simp only [ha]
      split at hl
      · split at hl
        · split at hl
          · exact hl.elim
          · obtain ⟨x, hx, hK⟩ := hl
            exact ⟨_, hK, vok_of_one (hc _ (List.mem_of_getElem? hx)), hx⟩
        · exact hl.elim
      · split at hl
        · rename_i v hv
          exact ⟨v, hl, vok_of_one (hc v (List.mem_of_getElem? hv)), hv⟩
        · exact hl.elim
theorem load_read {g : Operand → Option EV} {h : Heap} {L : List LC} (ok : Ok g h L) {t : TypeId} {x : Operand} {K : EV → Prop} (hp : prOp cx (.load t x) g h L K) :
    ∃ v ev, K (.v v) ∧ g x = some ev ∧ readE cx h L t ev = some v ∧ vok v = true := by
  simp only [prOp] at hp
  split at hp
  · rename_i i of d hx
    split at hp
    · rename_i c e hi
      obtain ⟨v, h1, h2, h3⟩ := loadL_read (ok.L _ _ _ hi) hp
      exact ⟨v, _, h1, hx, by simp only [readE, hi]; exact h3, h2⟩
    · rename_i q hi
      obtain ⟨v, h1, h2, h3⟩ := loadH_read ok.h hp
      exact ⟨v, _, h1, hx, by simp only [readE, hi]; exact h3, h2⟩
    · exact hp.elim
  · rename_i p hx
    obtain ⟨v, h1, h2, h3⟩ := loadH_read ok.h hp
    exact ⟨v, _, h1, hx, h3, h2⟩
  · exact hp.elim

/-! ### Conversions -/

def ConvR (cx : Cx) (h : Heap) (L : List LC) (st d : TypeId) (ev : EV) (v : Value) : Prop :=
  match cx.P.underlying st, cx.P.underlying d, ev with
  | some (.int _), some (.int k), .v (.int _ n) => v = .int k (k.wrap n)
  | some .string, some .string, .v (.string b) => v = .string b
  | some (.slice e), some .string, .v (.slice a len _) => match cx.P.underlying e with
    | some (.int .u8) => match a with
      | none => v = S []
      | some a => ∃ bs : List UInt8, rdn h a len = some (bs.map byteV) ∧ v = S bs
    | _ => False
  | some (.slice e), some .string, .sl i off len _ => match cx.P.underlying e, L[i]? with
    | some (.int .u8), some (.live c _) => ∃ bs : List UInt8, sub c off len = some (bs.map byteV) ∧ v = S bs
    | _, _ => False
  | _, _, _ => False
theorem conv_read {g : Operand → Option EV} {h : Heap} {L : List LC} {st d : TypeId} {x : Operand} {K : EV → Prop} (hp : prOp cx (.convert st d x) g h L K) :
    ∃ v ev, K (.v v) ∧ g x = some ev ∧ ConvR cx h L st d ev v ∧ vokR v = true := by
  simp only [prOp] at hp
  unfold ConvR
  split at hp
  · rename_i k0 k k1 n hs hd hx
    exact ⟨_, _, hp, hx, by simp only [hs, hd], rfl⟩
  · rename_i b hs hd hx
    exact ⟨_, _, hp, hx, by simp only [hs, hd], rfl⟩
  · rename_i e a len cap hs hd hx
    split at hp
    · rename_i he
      split at hp
      · exact ⟨_, _, hp, hx, by simp only [hs, hd, he], rfl⟩
      · obtain ⟨bs, hb, hK⟩ := hp
        exact ⟨_, _, hK, hx, by simp only [hs, hd, he]; exact ⟨bs, hb, rfl⟩, rfl⟩
    · exact hp.elim
  · rename_i e i of len cap hs hd hx
    split at hp
    · rename_i c et he hi
      obtain ⟨bs, hb, hK⟩ := hp
      exact ⟨_, _, hK, hx, by simp only [hs, hd, he, hi]; exact ⟨bs, hb, rfl⟩, rfl⟩
    · exact hp.elim
  · exact hp.elim
theorem conv_run {h : Heap} {L : List LC} (kn : KN h L β w) {st d : TypeId} {x : Operand} (ho : o.op = .convert st d x) {ev : EV} {v : Value} (hv : ConvR cx h L st d ev v) {ρ : Operand → Value} (h1 : ρ x = cz β ev) :
    (execOp ρ o).run cx.P w = .ok (.value v) w := by
  unfold ConvR at hv
  split at hv
  · rename_i k0 k k1 n hs hd
    subst hv
    simp [execOp, ho, h1, cz, convert, underlying_run w hs, underlying_run w hd, Conv.intToInt]
  · rename_i b hs hd
    subst hv
    simp [execOp, ho, h1, cz, convert, underlying_run w hs, underlying_run w hd]
  · rename_i e a len cap hs hd
    split at hv
    · rename_i he
      split at hv
      · subst hv
        simp [execOp, ho, h1, cz, convert, underlying_run w hs, underlying_run w hd, underlying_run w he, Conv.bytesToString]
        rfl
      · obtain ⟨bs, hb, rfl⟩ := hv
        simp [execOp, ho, h1, cz, convert, underlying_run w hs, underlying_run w hd, underlying_run w he, bytes_run kn.rel cap hb]
    · exact hv.elim
  · rename_i e i of len cap hs hd
    split at hv
    · rename_i c et he hi
      obtain ⟨bs, hb, rfl⟩ := hv
      have hr := bytes_run (P := cx.P) (kn.locRel hi) cap (a := ⟨β i, of, none⟩) (by rw [rdn_locH]; exact hb)
      simp [execOp, ho, h1, cz, convert, underlying_run w hs, underlying_run w hd, underlying_run w he, hr]
    · exact hv.elim
  · exact hv.elim
theorem conv_nobool {h : Heap} {L : List LC} {st d : TypeId} {ev : EV} {v : Value} (hv : ConvR cx h L st d ev v) : ∀ c, ev ≠ .v (.bool c) := by
  rintro c rfl
  unfold ConvR at hv
  split at hv
  all_goals first
    | exact hv
    | (rename_i he; cases he)
    | simp_all
theorem conv_turn {s s' : St} {st d : TypeId} {ev : EV} {v : Value} (hv : ConvR cx s.h s.loc st d ev v) (ha : convAgain s s' ev) : ConvR cx s'.h s'.loc st d ev v := by
  unfold ConvR at hv ⊢
  unfold convAgain at ha
  split at hv
  · simp_all
  · simp_all
  · rename_i e a len cap hs hd
    try simp only [hs, hd]
    split at hv
    · rename_i he
      try simp only [he]
      split at hv
      · exact hv
      · simp only at ha ⊢
        rw [ha]; exact hv
    · exact hv.elim
  · rename_i e i of len cap hs hd
    try simp only [hs, hd]
    split at hv
    · rename_i c et he hi
      simp only [hi] at ha
      split at ha
      · rename_i c1 e1 c2 e2 h1 h2
        injection h1 with h1; injection h1 with h1 _; subst h1
        simp only [he, h2, ha]; exact hv
      · exact ha.elim
    · exact hv.elim
  · exact hv.elim
theorem conv_quiet {s s' : St} (h : s'.h = s.h) (hl : s'.loc = s.loc) {st d : TypeId} {ev : EV} {v : Value} (hv : ConvR cx s.h s.loc st d ev v) : ConvR cx s'.h s'.loc st d ev v := by rw [h, hl]; exact hv
theorem conv_undef {h : Heap} {L : List LC} {st d : TypeId} {ev : EV} {v : Value} (hv : ConvR cx h L st d ev v) : v ≠ undef := by
  rintro rfl
  unfold ConvR at hv
  split at hv
  · cases hv
  · cases hv
  · split at hv
    · split at hv
      · cases hv
      · obtain ⟨_, _, h⟩ := hv; cases h
    · exact hv
  · split at hv
    · obtain ⟨_, _, h⟩ := hv; cases h
    · exact hv
  · exact hv
end Go.Vw
