/-
  Regions in any order: operations that waited, operations that change memory, and the whole.
-/
import Derived.Test.YtomcnpeeelhpcaaGreatDoorVwDraw4
namespace Go.Vw
open Go
variable {cx : Cx} {h₀ : Heap} {w₀ w w' : World} {s s' s₀ : St} {β β' β₀ : Nat → Nat} {a₀ a b b' : Act} {ops : Array Oper} {o : Oper} {bl : List Nat} {K : St → Prop} {rest : List Nat} {acc : List (Nat × List Nat)} {listed : Array Bool}

/-- An operation that waited is done. -/
theorem DInv.take (D : DInv cx ops h₀ w₀ a₀ s₀ β₀ K rest acc s β a b w listed) {p : Nat × List Nat} (hp : p ∈ acc) (hnl : ¬ Ls listed p.1) (ho : ops[p.1]? = some o) (hall : ∀ e ∈ o.after.toList, Region.binds .any e = true → Ls listed e.on)
    {Q : Exit → Act → World → Prop} {Kc : Act → World → Prop} (hk : ∀ v, DInv cx ops h₀ w₀ a₀ s₀ β₀ K rest acc s β (a.put o.dst v) b w (listed.setIfInBounds p.1 true) → Kc (a.put o.dst v) w) : wpOp cx.P ops Q p.1 Kc a w := by
  have hbd := D.befDone' hp ho hall
  have hps : p.1 < ops.size := (Array.getElem?_eq_some_iff.1 ho).1
  have mat : Mat ops a₀ b o p.2 a := by
    refine fun t ht => ⟨?_, fun hn => ?_⟩
    · rintro ⟨j, hj, oj, hoj, hdj⟩
      refine D.av' t ?_
      rintro ⟨q', hq', hnl', oq', hoq', hdq'⟩
      obtain ⟨q, hq, hqj⟩ := D.acck.befKey p hp j hj
      rcases D.acck.pair q hq q' hq' with e | ⟨hne, hh⟩
      · subst e
        exact hnl' (by rw [hqj]; exact hbd j hj)
      · exact (hh oj oq' (by rw [hqj]; exact hoj) hoq').1 t hdj hdq'
    · by_cases hpend : ∃ q ∈ acc, ¬ Ls listed q.1 ∧ dstIs ops q.1 t
      · exact D.av t hpend
      · rw [D.av' t hpend]
        refine D.bv t (fun q hq hd => ?_)
        have hlq : Ls listed q.1 := Classical.byContradiction fun h => hpend ⟨q, hq, h, hd⟩
        obtain ⟨oq, hoq, hdq⟩ := hd
        rcases D.acck.pair p hp q hq with e | ⟨hne, hh⟩
        · subst e; exact hnl hlq
        · rcases (hh o oq ho hoq).2 with h1 | h1 | ⟨h1, h2⟩
          · exact hn ⟨q.1, h1, oq, hoq, hdq⟩
          · exact hnl (D.cl q hq hlq p.1 h1)
          · exact h2 t hdq ht
  have haN : ∀ d, o.dst = some d → d < a.tmps.size := fun d hd => by rw [D.asz]; exact D.dn p hp d ⟨o, ho, hd⟩
  have next : ∀ v, (∀ d, o.dst = some d → b.tmps.getD d undef = v) → DInv cx ops h₀ w₀ a₀ s₀ β₀ K rest acc s β (a.put o.dst v) b w (listed.setIfInBounds p.1 true) := by
    intro v hv
    have lsp : Ls (listed.setIfInBounds p.1 true) p.1 := ls_set_self (by rw [D.lsz]; exact hps)
    have lsq : ∀ q ∈ acc, ¬ Ls (listed.setIfInBounds p.1 true) q.1 → ¬ Ls listed q.1 ∧ q ≠ p := fun q hq h => ⟨fun h1 => h (ls_set h1), fun e => h (by rw [e]; exact lsp)⟩
    have oth : ∀ q ∈ acc, q ≠ p → ∀ t, dstIs ops q.1 t → ∀ d, o.dst = some d → t ≠ d := by
      rintro q hq hne t ⟨oq, hoq, hdq⟩ d hd rfl
      rcases D.acck.pair q hq p hp with e | ⟨_, hh⟩
      · exact hne e
      · exact (hh oq o hoq ho).1 t hdq hd
    refine ⟨D.oko, D.ev, D.acck, D.rs, by rw [put_size]; exact D.asz, by rw [put_defers]; exact D.adf, by simpa using D.lsz, ?_, ?_, D.bv, ?_, ?_, D.dn, fun q hq h => D.pf q hq (lsq q hq h).1, D.ext, D.same⟩
    · rintro t ⟨q, hq, h, hd⟩
      obtain ⟨h1, h2⟩ := lsq q hq h
      rw [put_other (oth q hq h2 t hd) haN]
      exact D.av t ⟨q, hq, h1, hd⟩
    · intro t hn
      by_cases ht : o.dst = some t
      · rw [ht, put_self (haN t ht), hv t ht]
      · rw [put_other (by rintro d hd rfl; exact ht hd) haN]
        refine D.av' t ?_
        rintro ⟨q, hq, h, hd⟩
        by_cases hqp : q = p
        · subst hqp
          obtain ⟨oq, hoq, hdq⟩ := hd
          rw [ho] at hoq; injection hoq with hoq; subst hoq
          exact ht hdq
        · refine hn ⟨q, hq, fun hl => h ?_, hd⟩
          have hne : p.1 ≠ q.1 := by
            rcases D.acck.pair q hq p hp with e | ⟨hne, _⟩
            · exact absurd e hqp
            · exact fun e => hne e.symm
          exact (ls_set_ne hne).1 hl
    · intro q hq hl j hj
      by_cases hqp : q = p
      · subst hqp; exact ls_set (hbd j hj)
      · have hne : p.1 ≠ q.1 := by
          rcases D.acck.pair q hq p hp with e | ⟨hne, _⟩
          · exact absurd e hqp
          · exact fun e => hne e.symm
        exact ls_set (D.cl q hq ((ls_set_ne hne).1 hl) j hj)
    · intro i hi hl
      exact D.un i hi ((ls_set_ne (okOrder_key _ D.oko i hi p hp)).1 hl)
  obtain ⟨v, hv, hc⟩ := D.pf p hp hnl o ho
  have hkv := hk v (next v hv)
  unfold wpOp
  rw [ho]
  simp only
  rcases hc with ⟨rfl, hw⟩ | ⟨hw, hh⟩
  · rw [if_neg (by rw [hw a mat]; simp)]; exact hkv
  · rw [if_pos (hw a mat)]
    have hrun : (execOp a.eval o).run cx.P w = .ok (.value v) w := by
      rcases hh with ⟨_, h1⟩ | ⟨t, x, ev, h1, h2, h3, h4, h5, h6⟩ | ⟨st, cd, x, ev, h1, h2, h3, h4, h5⟩ | ⟨_, _, _, _, h1⟩
      · exact h1 a mat w
      · exact readE_run D.rs.kn h1 h5 (h4 a mat)
      · exact conv_run D.rs.kn h1 h5 (h4 a mat)
      · exact h1 a mat
    refine .inl ?_
    unfold Oper.wp
    rw [hrun]
    exact hkv

/-- An operation that changes memory is done: at its turn, in the world as in the calculus. -/
theorem DInv.eff {i : Nat} (D : DInv cx ops h₀ w₀ a₀ s₀ β₀ K (i :: rest) acc s β a b w listed) (ho : ops[i]? = some o) (hpr : isPR cx o.op = false) (hall : ∀ e ∈ o.after.toList, Region.binds .any e = true → Ls listed e.on)
    {Q : Exit → Act → World → Prop} {Kc : Act → World → Prop} (hk : ∀ s3 β' v w', DInv cx ops h₀ w₀ a₀ s₀ β₀ K rest ((i, befOf acc o.after.toList) :: acc) s3 β' (a.put o.dst v) (b.put o.dst v) w' (listed.setIfInBounds i true) → Kc (a.put o.dst v) w') : wpOp cx.P ops Q i Kc a w := by
  have hbd := D.befDone hall
  obtain ⟨o', h1, h2, h3, h4, h5, h6⟩ := okOrder_cons D.oko
  rw [ho] at h1; injection h1 with h1; subst h1
  have hag : Agree ops o a b := by
    intro t ht
    refine D.av' t ?_
    rintro ⟨q, hq, hnl, oq', hoq', hdq⟩
    obtain ⟨oq, k1, k2, k3, k4⟩ := fitsBehind_spec _ h4 q hq
    rw [hoq'] at k1; injection k1 with k1; subst k1
    rcases k4 with k4 | ⟨k4, _, _⟩
    · exact hnl (hbd _ k4)
    · exact k4 t hdq ht
  have hev := D.ev
  simp only [evD, ho, hpr] at hev
  obtain ⟨s1, rs1, ex1, q1, q1', hc⟩ := guard_quiet D.rs hev
  unfold wpOp
  rw [ho]
  simp only
  rcases hc with ⟨hw, hp⟩ | ⟨hw, hp⟩
  · rw [if_pos (by rw [hag.wanted]; exact hw)]
    refine .inl (evE_sound (hag.exec h5) hpr rs1 hp ?_)
    intro e s2 β2 w2 hK rs2 ex2 env2 ok2
    obtain ⟨hput, hagain⟩ := againAll_spec _ hK
    obtain ⟨s3, hev3, rs3, ex3, _, q3, q3', hself, hdn⟩ := put_quiet rs2 ok2 hput
    refine hk s3 β2 (cz β2 e) w2 ?_
    have := D.next (dc := true) ho hev3 rs3 hdn ((ex1.trans ex2).trans ex3) (fun _ => hbd) (fun h => by cases h) (fun p hp hnl op hop hb hl hpf => ?_)
    · simpa using this
    · have hpf1 : PF cx ops a₀ b s1 β w op p.2 := hpf.quiet q1 q1' (fun _ _ => rfl) (fun _ _ _ h => by cases h)
      refine PF.across env2 q3' q3 (Nat.le_trans ex2.len (Nat.le_of_eq (by rw [q3.loc]))) ex2.beta hb hl (fun t e he => (rs1.env t e he).1) (fun hr => ?_) hpf1
      obtain ⟨oq, k1, k2⟩ := hagain p.1 (by simp only [List.mem_map]; exact ⟨p, hp, rfl⟩) (fun hm => hnl (hbd _ hm))
      rw [hop] at k1; injection k1 with k1; subst k1
      exact k2 hr
  · rw [if_neg (by rw [hag.wanted, hw]; simp)]
    obtain ⟨s3, hev3, rs3, ex3, _, q3, q3', hself, hdn⟩ := put_quiet (e := .v undef) rs1 rfl hp
    refine hk s3 β undef w ?_
    have := D.next (dc := true) ho hev3 rs3 hdn (ex1.trans ex3) (fun _ => hbd) (fun h => by cases h) (fun p hp hnl op hop hb hl hpf => hpf.quiet (q1.comp q3) (q1'.comp q3') hb hl)
    exact this

/-- What can be, is taken ahead. -/
theorem DInv.norm : ∀ (rest : List Nat) {acc : List (Nat × List Nat)} {s : St} {b : Act}, DInv cx ops h₀ w₀ a₀ s₀ β₀ K rest acc s β a b w listed →
    ∃ rest' acc' s' b', DInv cx ops h₀ w₀ a₀ s₀ β₀ K rest' acc' s' β a b' w listed ∧ ∀ i r, rest' = i :: r → ∃ o, ops[i]? = some o ∧ isPR cx o.op = false
  | [], acc, s, b, D => ⟨[], acc, s, b, D, fun i r h => by cases h⟩
  | i :: r, acc, s, b, D => by
    obtain ⟨o, h1, _⟩ := okOrder_cons D.oko
    cases hpr : isPR cx o.op with
    | false => exact ⟨i :: r, acc, s, b, D, fun i' r' h => by injection h with h h'; subst h; exact ⟨o, h1, hpr⟩⟩
    | true =>
      obtain ⟨s3, v, D'⟩ := D.adv h1 hpr
      exact DInv.norm r D'

/-- How many have not been done. -/
def left (listed : Array Bool) : Nat → Nat
  | 0 => 0
  | n + 1 => left listed n + if listed.getD n true then 0 else 1
theorem left_le (listed : Array Bool) : ∀ n, left listed n ≤ n
  | 0 => Nat.le_refl _
  | n + 1 => by have := left_le listed n; simp only [left]; split <;> omega
theorem left_set {listed : Array Bool} {i : Nat} (hi : listed.getD i true = false) : ∀ n, left (listed.setIfInBounds i true) n + (if i < n then 1 else 0) = left listed n
  | 0 => by simp [left]
  | n + 1 => by
    have ih := left_set hi n
    have his : i < listed.size := by
      rcases Nat.lt_or_ge i listed.size with h | h
      · exact h
      · simp [Array.getElem?_eq_none h] at hi
    simp only [left]
    by_cases hin : i = n
    · subst hin
      have h1 : (listed.setIfInBounds i true).getD i true = true := by simp [his]
      rw [h1, hi]
      simp at ih ⊢; exact ih
    · have h1 : (listed.setIfInBounds i true).getD n true = listed.getD n true := getD_set_ne true hin
      rw [h1]
      have h2 : (i < n + 1) = (i < n) := by apply propext; omega
      simp only [h2]
      omega
theorem left_zero {listed : Array Bool} : ∀ n, left listed n = 0 → ∀ i, i < n → listed.getD i true = true
  | 0, _, i, h => absurd h (Nat.not_lt_zero _)
  | n + 1, h, i, hi => by
    simp only [left] at h
    rcases Nat.lt_or_ge i n with h1 | h1
    · exact left_zero n (by omega) i h1
    · have : i = n := by omega
      subst this
      split at h
      · rename_i h2; exact h2
      · omega

/-- Where none can be done, all have been. -/
theorem all_done {cx : Cx} {acc : List (Nat × List Nat)} (hsz : listed.size = ops.size) (hr : Region.ready .any ops listed = []) : AccOk cx ops acc → ∀ p ∈ acc, Ls listed p.1 := by
  induction acc with
  | nil => intro _ p hp; simp at hp
  | cons x r ih =>
    rintro ⟨⟨o, h1, h2, h3, h4, h5, h6⟩, h7⟩ p hp
    have ih := ih h7
    rcases List.mem_cons.1 hp with e | e
    · subst e
      refine Classical.byContradiction fun hn => ?_
      have hm : p.1 ∈ Region.ready .any ops listed := mem_ready.2 ⟨not_ls' (by rw [hsz]; exact (Array.getElem?_eq_some_iff.1 h1).1) hn, o, h1, fun e he hb => ?_⟩
      · rw [hr] at hm; simp at hm
      · obtain ⟨q, hq, hqe⟩ := edgesDone_spec _ h3 e (by simpa using he) hb
        rw [← hqe]; exact ih q hq
    · exact ih p e

theorem DInv.fin (D : DInv cx ops h₀ w₀ a₀ s₀ β₀ K rest acc s β a b w listed) (hr : Region.ready .any ops listed = []) : K s ∧ Rs cx h₀ w₀ s β a w ∧ Ext s₀ β₀ s β ∧ Same (dsts ops.toList) a₀ a := by
  have hd := all_done D.lsz hr D.acck
  have hab : a = b := by
    have ht : a.tmps = b.tmps := by
      apply Array.ext
      · rw [D.asz, D.rs.size]
      · intro t h1 h2
        have := D.av' t (by rintro ⟨p, hp, hnl, _⟩; exact hnl (hd p hp))
        simpa [Array.getD_eq_getD_getElem?, h1, h2] using this
    have hf : a.defers = b.defers := by rw [D.adf, D.rs.defers]
    cases a; cases b
    simp only at ht hf
    rw [ht, hf]
  have hrest : rest = [] := by
    cases rest with
    | nil => rfl
    | cons i r =>
      obtain ⟨o, h1, h2, h3, h4, h5, h6⟩ := okOrder_cons D.oko
      have hm : i ∈ Region.ready .any ops listed := mem_ready.2 ⟨not_ls' (by rw [D.lsz]; exact (Array.getElem?_eq_some_iff.1 h1).1) (D.un i (by simp)), o, h1, fun e he hb => ?_⟩
      · rw [hr] at hm; simp at hm
      · obtain ⟨q, hq, hqe⟩ := edgesDone_spec _ h3 e (by simpa using he) hb
        rw [← hqe]; exact hd q hq
  subst hrest
  subst hab
  exact ⟨by simpa [evD] using D.ev, D.rs, D.ext, D.same⟩

theorem drawn_any {Q : Exit → Act → World → Prop} (hq : ∀ s' β' a' w', K s' → Rs cx h₀ w₀ s' β' a' w' → Ext s₀ β₀ s' β' → Same (dsts ops.toList) a₀ a' → Q .normal a' w') : ∀ (fuel : Nat) {rest : List Nat} {acc : List (Nat × List Nat)} {s : St} {β : Nat → Nat} {a b : Act} {w : World} {listed : Array Bool},
    DInv cx ops h₀ w₀ a₀ s₀ β₀ K rest acc s β a b w listed → left listed ops.size ≤ fuel → wpAny cx.P .any ops Q fuel listed a w
  | 0, rest, acc, s, β, a, b, w, listed, D, hf => by
    have hr : Region.ready .any ops listed = [] := by
      cases hr : Region.ready .any ops listed with
      | nil => rfl
      | cons i r =>
        have hm : i ∈ Region.ready .any ops listed := by rw [hr]; simp
        obtain ⟨h1, o, ho, _⟩ := mem_ready.1 hm
        have := left_zero _ (Nat.le_zero.1 hf) i (Array.getElem?_eq_some_iff.1 ho).1
        rw [h1] at this; cases this
    obtain ⟨h1, h2, h3, h4⟩ := D.fin hr
    exact ⟨hr, hq _ _ _ _ h1 h2 h3 h4⟩
  | fuel + 1, rest, acc, s, β, a, b, w, listed, D, hf => by
    refine ⟨fun hr => ?_, fun i hi => ?_⟩
    · obtain ⟨h1, h2, h3, h4⟩ := D.fin hr
      exact hq _ _ _ _ h1 h2 h3 h4
    · obtain ⟨hnl, o, ho, hall⟩ := mem_ready.1 hi
      have hil := (Array.getElem?_eq_some_iff.1 ho).1
      have hall' : ∀ e ∈ o.after.toList, Region.binds .any e = true → Ls listed e.on := fun e he hb => hall e (by simpa using he) hb
      have hlf : left (listed.setIfInBounds i true) ops.size ≤ fuel := by
        have := left_set hnl ops.size
        rw [if_pos hil] at this
        omega
      obtain ⟨rest', acc', s', b', D', hhead⟩ := D.norm
      rcases okOrder_cover rest' D'.oko i hil with ⟨p, hp, hpi⟩ | hir
      · subst hpi
        exact D'.take hp (not_ls hnl) ho hall' (fun v D2 => drawn_any hq fuel D2 hlf)
      · cases rest' with
        | nil => simp at hir
        | cons h r =>
          obtain ⟨oh, hoh, hpr⟩ := hhead h r rfl
          by_cases hih : i = h
          · subst hih
            rw [ho] at hoh; injection hoh with hoh; subst hoh
            exact D'.eff ho hpr hall' (fun s3 β3 v w3 D2 => drawn_any hq fuel D2 hlf)
          · exfalso
            obtain ⟨oh', h1, h2, h3, h4, h5, h6⟩ := okOrder_cons D'.oko
            refine blocked hoh hpr (D'.un h (by simp)) r h6 ⟨(h, befOf acc' oh'.after.toList), by simp, rfl⟩ ?_ (fun j hj => D'.un j (by simp [hj])) i ?_ o ho hall'
            · intro p hp hl j hj
              rcases List.mem_cons.1 hp with e | e
              · subst e; exact absurd hl (D'.un h (by simp))
              · exact D'.cl p e hl j hj
            · rcases List.mem_cons.1 hir with e | e
              · exact absurd e hih
              · exact e

/-! ### Which of two comes first -/

theorem bound_size (ops : Array Oper) (x y : Nat) : (bound ops x y).size = ops.size := by
  unfold bound; split <;> simp
theorem bound_get (ops : Array Oper) (x y i : Nat) : (bound ops x y)[i]? = (ops[i]?).map fun o => if i = y then { o with after := o.after.push ⟨x, .data⟩ } else o := by
  unfold bound
  split
  · rename_i o ho
    rw [Array.getElem?_setIfInBounds]
    by_cases h : y = i
    · subst h
      have hlt := (Array.getElem?_eq_some_iff.1 ho).1
      rw [ho, if_pos rfl, if_pos hlt]
      simp
    · rw [if_neg h]
      cases hi : ops[i]? with
      | none => rfl
      | some o' => simp [Ne.symm h]
  · rename_i ho
    cases hi : ops[i]? with
    | none => rfl
    | some o =>
      have : i ≠ y := by rintro rfl; rw [hi] at ho; cases ho
      simp [this]
theorem bound_yielded (ops : Array Oper) (x y : Nat) (tmps : Array Value) (j : Nat) : yielded (bound ops x y) tmps j = yielded ops tmps j := by
  have : ((bound ops x y)[j]?).bind (·.dst) = (ops[j]?).bind (·.dst) := by
    rw [bound_get]
    cases ops[j]? with
    | none => rfl
    | some o => simp only [Option.map_some, Option.bind_some]; split <;> rfl
  unfold yielded
  rw [this]
theorem bound_wpOp {P : Program} (ops : Array Oper) (x y : Nat) (Q : Exit → Act → World → Prop) (i : Nat) (Kc : Act → World → Prop) (a : Act) (w : World) : wpOp P (bound ops x y) Q i Kc a w = wpOp P ops Q i Kc a w := by
  have hy : yielded (bound ops x y) a.tmps = yielded ops a.tmps := funext (bound_yielded ops x y a.tmps)
  unfold wpOp
  rw [bound_get, hy]
  cases ops[i]? with
  | none => rfl
  | some o =>
    simp only [Option.map_some]
    split <;> rfl
theorem bound_ready {ops : Array Oper} {x y j : Nat} {listed : Array Bool} : j ∈ Region.ready .any (bound ops x y) listed ↔ j ∈ Region.ready .any ops listed ∧ (j = y → Ls listed x) := by
  rw [mem_ready, mem_ready, bound_get]
  constructor
  · rintro ⟨h0, o, ho, hall⟩
    cases hj : ops[j]? with
    | none => rw [hj] at ho; cases ho
    | some o' =>
      rw [hj] at ho
      simp only [Option.map_some, Option.some.injEq] at ho
      subst ho
      refine ⟨⟨h0, o', rfl, fun e he hb => hall e ?_ hb⟩, fun hjy => hall ⟨x, .data⟩ ?_ rfl⟩
      · split
        · simp [he]
        · exact he
      · rw [if_pos hjy]; simp
  · rintro ⟨⟨h0, o, ho, hall⟩, hy⟩
    refine ⟨h0, _, by rw [ho]; rfl, fun e he hb => ?_⟩
    split at he
    · rename_i hjy
      simp only [Array.mem_push] at he
      rcases he with he | he
      · exact hall e he hb
      · subst he; exact hy hjy
    · exact hall e he hb

theorem ready_fuel {P : Program} {Q : Exit → Act → World → Prop} {ops : Array Oper} : ∀ {fuel : Nat} {listed : Array Bool} {a : Act} {w : World}, wpAny P .any ops Q fuel listed a w → Region.ready .any ops listed = [] → Q .normal a w
  | 0, _, _, _, h, _ => h.2
  | _ + 1, _, _, _, h, hr => h.1 hr
/-- One order that may be taken. -/
def Path (ops : Array Oper) : List Nat → Array Bool → Prop
  | [], listed => Region.ready .any ops listed = []
  | i :: r, listed => i ∈ Region.ready .any ops listed ∧ Path ops r (listed.setIfInBounds i true)
theorem ready_left {i : Nat} {listed : Array Bool} (hi : i ∈ Region.ready .any ops listed) : left (listed.setIfInBounds i true) ops.size + 1 = left listed ops.size := by
  obtain ⟨h1, o, ho, _⟩ := mem_ready.1 hi
  have := left_set h1 ops.size
  rw [if_pos (Array.getElem?_eq_some_iff.1 ho).1] at this
  exact this
theorem path_go : ∀ (fuel t : Nat) (listed : Array Bool), left listed ops.size ≤ fuel → Path ops (Region.linearise.go .any ops fuel t listed []) listed
  | 0, t, listed, hf => by
    simp only [Region.linearise.go, List.reverse_nil, Path]
    cases hr : Region.ready .any ops listed with
    | nil => rfl
    | cons i r =>
      have := ready_left (ops := ops) (i := i) (listed := listed) (by rw [hr]; simp)
      omega
  | fuel + 1, t, listed, hf => by
    simp only [Region.linearise.go]
    change Path ops (match (Region.ready .any ops listed)[t % (Region.ready .any ops listed).length]? with
      | some i => Region.linearise.go .any ops fuel (t / (Region.ready .any ops listed).length) (listed.setIfInBounds i true) [i]
      | none => [].reverse) listed
    cases hi : (Region.ready .any ops listed)[t % (Region.ready .any ops listed).length]? with
    | none =>
      simp only [List.reverse_nil, Path]
      cases hr : Region.ready .any ops listed with
      | nil => rfl
      | cons x xs =>
        rw [hr] at hi
        have hlt : t % (x :: xs).length < (x :: xs).length := Nat.mod_lt _ (by simp)
        simp at hi
        simp at hlt
        omega
    | some i =>
      simp only []
      rw [linearise_go_acc, List.reverse_singleton, List.singleton_append]
      have hm := List.mem_of_getElem? hi
      exact ⟨hm, path_go fuel _ _ (by have := ready_left hm; omega)⟩
theorem path_any {P : Program} {Q : Exit → Act → World → Prop} : ∀ (l : List Nat) (fuel : Nat) (listed : Array Bool) (a : Act) (w : World), wpAny P .any ops Q fuel listed a w → Path ops l listed → left listed ops.size ≤ fuel → wpOps P ops Q l a w
  | [], fuel, listed, a, w, h, hp, hf => ready_fuel h hp
  | i :: r, fuel, listed, a, w, h, hp, hf => by
    have hl := ready_left hp.1
    cases fuel with
    | zero => omega
    | succ fuel =>
      rw [wpOps_cons]
      exact wpOp_mono (fun a' w' hk => path_any r fuel _ a' w' hk hp.2 (by omega)) (h.2 i hp.1)
theorem path_on {x y : Nat} : ∀ (l : List Nat) (listed : Array Bool), Ls listed x → Path ops l listed → Path (bound ops x y) l listed
  | [], listed, hx, h => by
    simp only [Path] at h ⊢
    cases hr : Region.ready .any (bound ops x y) listed with
    | nil => rfl
    | cons i r =>
      have hm := (bound_ready.1 (by rw [hr]; simp : i ∈ Region.ready .any (bound ops x y) listed)).1
      rw [h] at hm; simp at hm
  | i :: r, listed, hx, h => ⟨bound_ready.2 ⟨h.1, fun _ => hx⟩, path_on r _ (ls_set hx) h.2⟩
theorem path_split {x y : Nat} (hxy : x ≠ y) : ∀ (l : List Nat) (listed : Array Bool), listed.size = ops.size → Path ops l listed → Path (bound ops x y) l listed ∨ Path (bound ops y x) l listed
  | [], listed, hsz, h => by
    left
    simp only [Path] at h ⊢
    cases hr : Region.ready .any (bound ops x y) listed with
    | nil => rfl
    | cons i r =>
      have hm := (bound_ready.1 (by rw [hr]; simp : i ∈ Region.ready .any (bound ops x y) listed)).1
      rw [h] at hm; simp at hm
  | i :: r, listed, hsz, h => by
    have his : i < listed.size := by
      obtain ⟨_, o, ho, _⟩ := mem_ready.1 h.1
      rw [hsz]; exact (Array.getElem?_eq_some_iff.1 ho).1
    by_cases hix : i = x
    · subst hix
      exact .inl ⟨bound_ready.2 ⟨h.1, fun e => absurd e hxy⟩, path_on r _ (ls_set_self his) h.2⟩
    · by_cases hiy : i = y
      · subst hiy
        exact .inr ⟨bound_ready.2 ⟨h.1, fun e => absurd e hix⟩, path_on r _ (ls_set_self his) h.2⟩
      · rcases path_split hxy r (listed.setIfInBounds i true) (by simpa using hsz) h.2 with k | k
        · exact .inl ⟨bound_ready.2 ⟨h.1, fun e => absurd e hiy⟩, k⟩
        · exact .inr ⟨bound_ready.2 ⟨h.1, fun e => absurd e hix⟩, k⟩
theorem bound_wpOps {P : Program} (ops : Array Oper) (x y : Nat) (Q : Exit → Act → World → Prop) : ∀ (l : List Nat) (a : Act) (w : World), wpOps P (bound ops x y) Q l a w = wpOps P ops Q l a w
  | [], a, w => rfl
  | i :: r, a, w => by
    rw [wpOps_cons, wpOps_cons, bound_wpOp]
    congr 1
    funext a' w'
    exact bound_wpOps ops x y Q r a' w'
theorem bound_dsts (ops : Array Oper) (x y : Nat) : dsts (bound ops x y).toList = dsts ops.toList := by
  unfold bound
  split
  · rename_i o ho
    have key : ∀ (l : List Oper) (k : Nat), l[k]? = some o → dsts (l.set k { o with after := o.after.push ⟨x, .data⟩ }) = dsts l := by
      intro l
      induction l with
      | nil => intro k hk; simp at hk
      | cons p l ih =>
        intro k hk
        cases k with
        | zero =>
          simp only [List.getElem?_cons_zero, Option.some.injEq] at hk
          subst hk
          simp only [List.set_cons_zero, dsts]
        | succ k =>
          simp only [List.getElem?_cons_succ] at hk
          simp only [List.set_cons_succ, dsts, ih k hk]
    rw [Array.toList_setIfInBounds]
    exact key _ _ (by simpa using ho)
  · rfl

theorem evR_path {Q : Exit → Act → World → Prop} {l : List Nat} : ∀ (an : An) (ops : Array Oper), evR cx an ops s K → Rs cx h₀ w₀ s β a w →
    (∀ s' β' a' w', K s' → Rs cx h₀ w₀ s' β' a' w' → Ext s β s' β' → Same (dsts ops.toList) a a' → Q .normal a' w') → Path ops l (Array.replicate ops.size false) → wpOps cx.P ops Q l a w := by
  have base : ∀ (ord : List Nat) (ops : Array Oper), (match okOrder cx ops ord [] with | true => evD cx ops ord [] s K | false => False) → Rs cx h₀ w₀ s β a w →
      (∀ s' β' a' w', K s' → Rs cx h₀ w₀ s' β' a' w' → Ext s β s' β' → Same (dsts ops.toList) a a' → Q .normal a' w') → Path ops l (Array.replicate ops.size false) → wpOps cx.P ops Q l a w := by
    intro ord ops hev rs hq hp
    split at hev
    · rename_i hok
      have hun : ∀ i, ¬ Ls (Array.replicate ops.size false) i := fun i h => by
        unfold Ls at h
        rcases Nat.lt_or_ge i ops.size with h1 | h1
        · simp [h1] at h
        · simp [Nat.not_lt.2 h1] at h
      have D : DInv cx ops h₀ w₀ a s β K ord [] s β a a w (Array.replicate ops.size false) :=
        ⟨hok, hev, trivial, rs, rs.size, rs.defers, by simp, fun t h => by obtain ⟨p, hp, _⟩ := h; simp at hp, fun t _ => rfl, fun t _ => rfl, fun p hp => by simp at hp, fun i _ => hun i, fun p hp => by simp at hp, fun p hp => by simp at hp, Ext.refl _ _, Same.refl _ _⟩
      exact path_any l ops.size _ a w (drawn_any (fun s' β' a' w' => hq s' β' a' w') ops.size D (left_le _ _)) hp (left_le _ _)
    · exact hev.elim
  intro an
  induction an with
  | leaf => intro ops hev rs hq hp; exact base _ ops hev rs hq hp
  | nd j lo ord c b ihc ihb =>
    intro ops hev rs hq hp
    cases c with
    | leaf =>
      have hev' : (match okOrder cx ops ord [] with | true => evD cx ops ord [] s K | false => False) := by
        cases ord with
        | nil => exact hev
        | cons x r => cases r <;> exact hev
      exact base _ ops hev' rs hq hp
    | nd j' lo' ord' c' b' =>
      cases ord with
      | nil => exact base _ ops hev rs hq hp
      | cons x r =>
        cases r with
        | nil => exact base _ ops hev rs hq hp
        | cons y r =>
          simp only [evR] at hev
          split at hev
          · exact hev.elim
          · rename_i hxy
            have hne : x ≠ y := by rintro rfl; simp at hxy
            rcases path_split hne l _ (by simp) hp with k | k
            · have := ihc (bound ops x y) hev.1 rs (by rw [bound_dsts]; exact hq) (by rw [bound_size]; exact k)
              rw [bound_wpOps] at this; exact this
            · have := ihb (bound ops y x) hev.2 rs (by rw [bound_dsts]; exact hq) (by rw [bound_size]; exact k)
              rw [bound_wpOps] at this; exact this

theorem drawn (hm : cx.P.follows .mixedOrders = true) : Drawn cx := by
  intro h₀ w₀ id ops an s β a w K hev rs Q hq
  refine wp_region_draw fun t => ?_
  simp only [Region.schedule, hm, Bool.true_or, if_true]
  have rs' : Rs cx h₀ w₀ s β a { w with drawn := w.drawn + 1 } := rs.world rfl rfl rfl rfl
  exact evR_path an ops hev rs' hq (path_go ops.size t _ (left_le _ _))
end Go.Vw
