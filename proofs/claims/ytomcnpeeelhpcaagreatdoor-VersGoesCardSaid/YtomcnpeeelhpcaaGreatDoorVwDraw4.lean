/-
  Regions in any order: each step, and the whole.
-/
import Derived.Test.YtomcnpeeelhpcaaGreatDoorVwDraw3
namespace Go.Vw
open Go
variable {cx : Cx} {h₀ : Heap} {w₀ w w' : World} {s s' s₀ : St} {β β' β₀ : Nat → Nat} {a₀ a b b' : Act} {ops : Array Oper} {o : Oper} {bl : List Nat} {K : St → Prop} {rest : List Nat} {acc : List (Nat × List Nat)} {listed : Array Bool}

/-- The act that the state goes by sees what it should. -/
theorem DInv.matB {i : Nat} (D : DInv cx ops h₀ w₀ a₀ s₀ β₀ K (i :: rest) acc s β a b w listed) (ho : ops[i]? = some o) : Mat ops a₀ b o (befOf acc o.after.toList) b := by
  obtain ⟨o', h1, h2, h3, h4, h5, h6⟩ := okOrder_cons D.oko
  rw [ho] at h1; injection h1 with h1; subst h1
  refine fun t ht => ⟨fun _ => rfl, fun hn => D.bv t (fun p hp hd => ?_)⟩
  obtain ⟨oq, k1, k2, k3, k4⟩ := fitsBehind_spec _ h4 p hp
  rcases k4 with k4 | ⟨k4, _, _⟩
  · exact hn ⟨p.1, k4, hd⟩
  · obtain ⟨op, hop, hdp⟩ := hd
    rw [hop] at k1; injection k1 with k1; subst k1
    exact k4 t hdp ht

/-- What a new operation answers in the act that was put to: the same. -/
theorem DInv.matPut {i : Nat} (D : DInv cx ops h₀ w₀ a₀ s₀ β₀ K (i :: rest) acc s β a b w listed) (ho : ops[i]? = some o) {v : Value} (hdn : ∀ d, o.dst = some d → d < cx.N) : ∀ a', Mat ops a₀ (b.put o.dst v) o (befOf acc o.after.toList) a' → Agree ops o a' b := by
  intro a' ha'
  obtain ⟨o', h1, h2, h3, h4, h5, h6⟩ := okOrder_cons D.oko
  rw [ho] at h1; injection h1 with h1; subst h1
  refine Mat.agree (ha'.turn (fun t ht => put_other (fun d hd => ?_) (fun d hd => by rw [D.rs.size]; exact hdn d hd))) (D.matB ho)
  obtain ⟨j, hj, op, hop, hdp⟩ := ht
  have : ∃ q ∈ acc, q.1 = j := by
    obtain ⟨e, he, hb, h⟩ := befOf_mem _ _ hj
    rcases h with h | ⟨q, hq, _, h9⟩
    · obtain ⟨q, hq, h10⟩ := edgesDone_spec _ h3 e he hb
      exact ⟨q, hq, by rw [h10, h]⟩
    · exact D.acck.befKey q hq j h9
  obtain ⟨q, hq, hqj⟩ := this
  obtain ⟨oq, k1, k2, _, _⟩ := fitsBehind_spec _ h4 q hq
  rw [hqj, hop] at k1; injection k1 with k1; subst k1
  rintro rfl
  exact k2 t hdp hd

/-- An operation that computes or reads is taken ahead in the calculus: in the world it waits. -/
theorem DInv.adv {i : Nat} (D : DInv cx ops h₀ w₀ a₀ s₀ β₀ K (i :: rest) acc s β a b w listed) (ho : ops[i]? = some o) (hpr : isPR cx o.op = true) :
    ∃ s3 v, DInv cx ops h₀ w₀ a₀ s₀ β₀ K rest ((i, befOf acc o.after.toList) :: acc) s3 β a (b.put o.dst v) w listed := by
  have hev := D.ev
  simp only [evD, ho, hpr] at hev
  obtain ⟨s1, rs1, ex1, q1, q1', hc⟩ := guard_quiet D.rs hev
  obtain ⟨o', h1, h2, h3, h4, h5, h6⟩ := okOrder_cons D.oko
  rw [ho] at h1; injection h1 with h1; subst h1
  rcases hc with ⟨hw, hp⟩ | ⟨hw, hp⟩
  · -- what it answers
    have key : ∃ e, s1.put cx o.dst e (fun s'' => evD cx ops rest ((i, befOf acc o.after.toList) :: acc) s'' K) ∧ okE s1.loc.length e ∧
        ∀ b' s3, (∀ a', Mat ops a₀ b' o (befOf acc o.after.toList) a' → Agree ops o a' b) → Quiet s1 s3 → Quiet' s1 s3 o.dst → Hold cx ops a₀ b' s3 β w o (befOf acc o.after.toList) (cz β e) := by
      by_cases hld : ∃ t x, o.op = .load t x
      · obtain ⟨t, x, hld⟩ := hld
        rw [hld] at hp
        obtain ⟨v, ev, h1, h2, h3, h4⟩ := load_read rs1.ok hp
        split at h1
        · exact h1.elim
        refine ⟨_, h1, vokR_of_vok h4, fun b' s3 hag q q' => .inr (.inl ⟨t, x, ev, hld, getE_turn q' h2 (readE_nobool h3) (fun t' d hx hd => selfOk_load h5 (by rw [hld, hx]; rfl) hd), by rw [q.loc]; exact (rs1.get h2).2, fun a' ha' => ?_, by rw [q.h, q.loc]; exact h3, h4⟩)⟩
        rw [(hag a' ha').eval x (by rw [hld]; simp [Op.operands])]
        exact (rs1.get h2).1
      by_cases hcv : ∃ st d x, o.op = .convert st d x
      · obtain ⟨st, cd, x, hcv⟩ := hcv
        rw [hcv] at hp
        obtain ⟨v, ev, h1, h2, h3, h4⟩ := conv_read hp
        split at h1
        · exact h1.elim
        refine ⟨_, h1, h4, fun b' s3 hag q q' => .inr (.inr (.inl ⟨st, cd, x, ev, hcv, getE_turn q' h2 (conv_nobool h3) (fun t' d hx hd => selfOk_load h5 (by rw [hcv, hx]; rfl) hd), by rw [q.loc]; exact (rs1.get h2).2, fun a' ha' => ?_, conv_quiet q.h q.loc h3⟩))⟩
        rw [(hag a' ha').eval x (by rw [hcv]; simp [Op.operands])]
        exact (rs1.get h2).1
      · obtain ⟨e, hK, hok, hrun⟩ := prSound rs1.ok hp
        split at hK
        · exact hK.elim
        rename_i hun
        refine ⟨e, hK, hok, fun b' s3 hag q q' => ?_⟩
        cases hrm : readsMem o.op with
        | false =>
          refine .inl ⟨hrm, fun a' ha' w'' => ?_⟩
          rw [(hag a' ha').exec h5]
          exact hrun β w'' b.eval rs1.kn.mat (fun h => by rw [hrm] at h; cases h) (fun x _ v hv => (rs1.get hv).1)
        | true =>
          refine .inr (.inr (.inr ⟨hrm, fun t x h => hld ⟨t, x, h⟩, fun st d x h => hcv ⟨st, d, x, h⟩, fun he => ?_, fun a' ha' => ?_⟩))
          · have hee : e = .v (.tuple ⟨[]⟩) := by
              cases e <;> simp [cz, undef] at he ⊢
              exact he
            rw [hrm, hee] at hun
            have : isUn o.op (.v (.tuple ⟨[]⟩)) = true := by
              cases hop : o.op with
              | load t x => exact absurd ⟨t, x, hop⟩ hld
              | convert st d x => exact absurd ⟨st, d, x, hop⟩ hcv
              | _ => rfl
            rw [this] at hun
            cases hun
          · rw [(hag a' ha').exec h5]
            exact hrun β w b.eval rs1.kn.mat (fun _ => rs1.kn) (fun x _ v hv => (rs1.get hv).1)
    obtain ⟨e, hput, hok, hhold⟩ := key
    obtain ⟨s3, hev3, rs3, ex3, _, q3, q3', hself, hdn⟩ := put_quiet rs1 hok hput
    refine ⟨s3, cz β e, ?_⟩
    have := D.next (dc := false) ho hev3 rs3 hdn (ex1.trans ex3) (fun h => by cases h) (fun _ => ?_) (fun p hp hnl op hop hb hl hpf => hpf.quiet (q1.comp q3) (q1'.comp q3') hb hl)
    · simpa using this
    · have hag := D.matPut (v := cz β e) ho hdn
      exact ⟨cz β e, hself, .inr ⟨fun a' ha' => by rw [(hag a' ha').wanted]; exact hw, hhold _ _ hag q3 q3'⟩⟩
  · obtain ⟨s3, hev3, rs3, ex3, _, q3, q3', hself, hdn⟩ := put_quiet (e := .v undef) rs1 rfl hp
    refine ⟨s3, undef, ?_⟩
    have := D.next (dc := false) ho hev3 rs3 hdn (ex1.trans ex3) (fun h => by cases h) (fun _ => ?_) (fun p hp hnl op hop hb hl hpf => hpf.quiet (q1.comp q3) (q1'.comp q3') hb hl)
    · exact this
    · have hag := D.matPut (v := undef) ho hdn
      exact ⟨undef, hself, .inl ⟨rfl, fun a' ha' => by rw [(hag a' ha').wanted]; exact hw⟩⟩
end Go.Vw
