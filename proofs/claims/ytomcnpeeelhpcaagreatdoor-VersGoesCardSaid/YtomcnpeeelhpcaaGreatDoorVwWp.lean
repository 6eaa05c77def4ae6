/-
  Statements in one: what 'evC' says of a piece of code holds of the model, regions that draw their order taken as a premise; then whole functions.
-/
import Derived.Deep.LoopGhost
import Derived.Scope
import Derived.Test.YtomcnpeeelhpcaaGreatDoorVwCode
namespace Go.Vw
open Go
variable {cx : Cx} {h₀ : Heap} {w₀ w w' : World} {s : St} {β : Nat → Nat} {a : Act}

def PostC (cx : Cx) (h₀ : Heap) (w₀ : World) (ws : List Nat) (s : St) (β : Nat → Nat) (a : Act) (K : Exi → St → Prop) : Exit → Act → World → Prop
  | .normal, a', w' => ∃ s' β', K .normal s' ∧ Rs cx h₀ w₀ s' β' a' w' ∧ Ext s β s' β' ∧ Same ws a a'
  | .exit i, a', w' => ∃ s' β', K (.exit i) s' ∧ Rs cx h₀ w₀ s' β' a' w' ∧ Ext s β s' β' ∧ Same ws a a'
  | .ret, a', w' => ∃ s' β', K .ret s' ∧ Rs cx h₀ w₀ s' β' a' w' ∧ Ext s β s' β' ∧ Same ws a a'
  | _, _, _ => False

/-- That a region that draws its order does, in any order, what it is told to. -/
def Drawn (cx : Cx) : Prop := ∀ (h₀ : Heap) (w₀ : World) (id : Nat) (ops : Array Oper) (an : An) (s : St) (β : Nat → Nat) (a : Act) (w : World) (K : St → Prop), evR cx an ops s K → Rs cx h₀ w₀ s β a w →
  ∀ Q : Exit → Act → World → Prop, (∀ s' β' a' w', K s' → Rs cx h₀ w₀ s' β' a' w' → Ext s β s' β' → Same (dsts ops.toList) a a' → Q .normal a' w') → (Code.region id ops true).wp cx.P Q a w

theorem joinW_sound {c : Code} {ws : List Nat} {j : Option (List Out)} {K : Exi → St → Prop} {body : St → (Exi → St → Prop) → Prop} (hj : joinW ws j s K body) (rs : Rs cx h₀ w₀ s β a w)
    (hb : ∀ s₁ K₁, body s₁ K₁ → Rs cx h₀ w₀ s₁ β a w → c.wp cx.P (PostC cx h₀ w₀ ws s₁ β a K₁) a w) : c.wp cx.P (PostC cx h₀ w₀ ws s β a K) a w := by
  unfold joinW at hj
  cases j with
  | none => exact hb s K hj rs
  | some os =>
    simp only at hj
    split at hj
    · exact hj.elim
    · rename_i hok
      -- what is told where the ways meet is what follows there
      have mk : ∀ (os : List Out) (s₀ : St), ∃ J : TO Prop os, allO Prop os s₀ J (fun s' Jx => K .normal s' → Jx) ∧ allO Prop os s₀ J (fun s' Jx => Jx → K .normal s') := by
        intro os
        induction os with
        | nil => intro s₀; exact ⟨fun h => K .normal { s₀ with h := h }, fun h hk => hk, fun h hk => hk⟩
        | cons x r ih =>
          intro s₀
          cases x with
          | slot t ty =>
            refine ⟨fun x => Classical.choose (ih { s₀ with env := (t, .v (ty.v x)) :: s₀.env }), fun x => ?_, fun x => ?_⟩
            · exact (Classical.choose_spec (ih { s₀ with env := (t, .v (ty.v x)) :: s₀.env })).1
            · exact (Classical.choose_spec (ih { s₀ with env := (t, .v (ty.v x)) :: s₀.env })).2
          | loc i ty =>
            cases hi : s₀.loc[i]? with
            | none =>
              refine ⟨fun x => Classical.choose (ih s₀), fun x => ?_, fun x => ?_⟩ <;> (simp only [hi])
            | some l =>
              cases l with
              | mat b => refine ⟨fun x => Classical.choose (ih s₀), fun x => ?_, fun x => ?_⟩ <;> (simp only [hi])
              | live c e =>
                refine ⟨fun x => Classical.choose (ih { s₀ with loc := s₀.loc.set i (.live (cellsL (ty.v x)) e) }), fun x => ?_, fun x => ?_⟩
                · simp only [hi]; exact (Classical.choose_spec (ih { s₀ with loc := s₀.loc.set i (.live (cellsL (ty.v x)) e) })).1
                · simp only [hi]; exact (Classical.choose_spec (ih { s₀ with loc := s₀.loc.set i (.live (cellsL (ty.v x)) e) })).2
      obtain ⟨J, hJ1, hJ2⟩ := mk os (s.forget ws os)
      have rs0 : Rs cx h₀ w₀ { s with tch := [] } β a w := ⟨rs.size, rs.defers, rs.env, rs.kn, rs.fr, rs.new⟩
      refine Code.wp_mono ?_ (hb _ _ (hj J hJ1) rs0)
      intro e a' w' hq
      have up : ∀ {s' : St} {β' : Nat → Nat}, Ext { s with tch := [] } β s' β' → Ext s β { s' with tch := s'.tch ++ s.tch } β' := fun ex =>
        ⟨ex.len, fun i hi => by simp [hi], fun i hi hn => ex.loc i hi (fun hm => hn (by simp [hm])), ex.beta, ex.ety, ex.mono⟩
      have rsu : ∀ {s' : St} {β' : Nat → Nat}, Rs cx h₀ w₀ s' β' a' w' → Rs cx h₀ w₀ { s' with tch := s'.tch ++ s.tch } β' a' w' := fun r => ⟨r.size, r.defers, r.env, r.kn, r.fr, r.new⟩
      cases e with
      | normal =>
        obtain ⟨s', β', hm, rs', ex', same'⟩ := hq
        obtain ⟨s2, hK2, rs2, ex2, env2⟩ := matOuts_sound os rs' hm
        split at hK2
        · rename_i ht
          have exm := ex'.trans ex2
          obtain ⟨s₁, Jx, g1, g2, g3, g4, _, _⟩ := meet rs rs2 exm.len exm.beta (untouched exm ht) exm.ety exm.mono same' hok hK2 hJ2
          exact ⟨s₁, β', g2 g1, g3, g4, same'⟩
        · exact hK2.elim
      | exit i =>
        obtain ⟨s', β', hK, rs', ex', same'⟩ := hq
        exact ⟨_, β', hK, rsu rs', up ex', same'⟩
      | ret =>
        obtain ⟨s', β', hK, rs', ex', same'⟩ := hq
        exact ⟨_, β', hK, rsu rs', up ex', same'⟩
      | goto l => exact hq.elim
      | panic c => exact hq.elim
      | outgrown => exact hq.elim

theorem PostC.up {ws vs : List Nat} {s s₁ : St} {β₁ : Nat → Nat} {a₁ : Act} {K : Exi → St → Prop} (ex : Ext s β s₁ β₁) (same : Same vs a a₁) (hsub : ∀ t ∈ ws, t ∈ vs) {e : Exit} {a' : Act} {w' : World} (h : PostC cx h₀ w₀ ws s₁ β₁ a₁ K e a' w') :
    PostC cx h₀ w₀ vs s β a K e a' w' := by
  cases e with
  | normal => obtain ⟨s', β', h1, h2, h3, h4⟩ := h; exact ⟨s', β', h1, h2, ex.trans h3, same.trans (h4.mono hsub)⟩
  | exit i => obtain ⟨s', β', h1, h2, h3, h4⟩ := h; exact ⟨s', β', h1, h2, ex.trans h3, same.trans (h4.mono hsub)⟩
  | ret => obtain ⟨s', β', h1, h2, h3, h4⟩ := h; exact ⟨s', β', h1, h2, ex.trans h3, same.trans (h4.mono hsub)⟩
  | goto l => exact h.elim
  | panic c => exact h.elim
  | outgrown => exact h.elim

/-- What is put ahead of a piece of code: locals come out of hiding. -/
theorem mat_then {c : Code} {ws : List Nat} {os : List Out} {K : Exi → St → Prop} {body : St → Prop} (hm : matOuts os s body) (rs : Rs cx h₀ w₀ s β a w) (hb : ∀ s₁, body s₁ → Rs cx h₀ w₀ s₁ β a w → c.wp cx.P (PostC cx h₀ w₀ ws s₁ β a K) a w) :
    c.wp cx.P (PostC cx h₀ w₀ ws s β a K) a w := by
  obtain ⟨s1, h1, rs1, ex1, env1⟩ := matOuts_sound os rs hm
  exact Code.wp_mono (fun e a' w' hq => PostC.up ex1 (Same.refl _ _) (fun t ht => ht) hq) (hb s1 h1 rs1)
theorem matS_sound : ∀ (xs : List Operand) {s : St} {K : St → Prop}, Rs cx h₀ w₀ s β a w → matS xs s K → ∃ s', K s' ∧ Rs cx h₀ w₀ s' β a w ∧ Ext s β s' β
  | [], s, K, rs, hm => ⟨s, hm, rs, Ext.refl _ _⟩
  | x :: r, s, K, rs, hm => by
    simp only [matS] at hm
    split at hm
    · rename_i e he
      obtain ⟨s1, hK1, rs1, ex1, env1, _, _⟩ := matE_sound rs (rs.get he).2 hm
      obtain ⟨s2, hK2, rs2, ex2⟩ := matS_sound r rs1 hK1
      exact ⟨s2, hK2, rs2, ex1.trans ex2⟩
    · exact matS_sound r rs hm

theorem evC_sound (hD : Drawn cx) : ∀ (c : Code) (an : An) (s : St) (β : Nat → Nat) (a : Act) (w : World) (K : Exi → St → Prop), evC cx c an s K → Rs cx h₀ w₀ s β a w → c.wp cx.P (PostC cx h₀ w₀ (writes c) s β a K) a w
  | .skip, an, s, β, a, w, K, h, rs => wp_skip ⟨s, β, h, rs, Ext.refl _ _, Same.refl _ _⟩
  | .region id ops draw, an, s, β, a, w, K, h, rs => by
    refine mat_then h rs (fun s h rs => ?_)
    refine joinW_sound (ws := dsts ops.toList) h rs (fun s₁ K₁ hb rs₁ => ?_)
    cases draw with
    | false => exact wp_region_list (evOps_sound (ws := dsts ops.toList) ops _ ops.toList (fun o ho t ht => dsts_mem _ o ho t ht) hb rs₁ (fun s' β' a' w' hK rs' ex' same' => ⟨s', β', hK, rs', ex', same'⟩))
    | true =>
      simp only at hb
      obtain ⟨s2, hb, rs2, ex2⟩ := matS_sound _ rs₁ hb
      exact hD h₀ w₀ id ops an s2 β a w _ hb rs2 _ (fun s' β' a' w' hK rs' ex' same' => ⟨s', β', hK, rs', ex2.trans ex', same'⟩)
  | .seq x y, an, s, β, a, w, K, h, rs => by
    refine joinW_sound (ws := writes x ++ writes y) h rs (fun s₁ K₁ hb rs₁ => ?_)
    refine wp_seq (Code.wp_mono ?_ (evC_sound hD x an.l s₁ β a w _ hb rs₁))
    intro e a' w' hq
    cases e with
    | normal =>
      obtain ⟨s', β', hK, rs', ex', same'⟩ := hq
      exact Code.wp_mono (fun e a2 w2 hq2 => PostC.up ex' (same'.mono (fun t ht => by simp [ht])) (fun t ht => by simp [ht]) hq2) (evC_sound hD y an.r s' β' a' w' K₁ hK rs')
    | exit i => exact PostC.up (K := fun e s => match e with | .normal => False | .exit i => K₁ (.exit i) s | .ret => K₁ .ret s) (Ext.refl _ _) (Same.refl _ _) (fun t ht => by simp [ht]) (e := .exit i) hq
    | ret => exact PostC.up (K := fun e s => match e with | .normal => False | .exit i => K₁ (.exit i) s | .ret => K₁ .ret s) (Ext.refl _ _) (Same.refl _ _) (fun t ht => by simp [ht]) (e := .ret) hq
    | goto l => exact hq.elim
    | panic c => exact hq.elim
    | outgrown => exact hq.elim
  | .cond c x y, an, s, β, a, w, K, h, rs => by
    refine mat_then h rs (fun s h rs => ?_)
    refine joinW_sound (ws := writes x ++ writes y) h rs (fun s₁ K₁ hb rs₁ => ?_)
    have left : evC cx x an.l s₁ K₁ → x.wp cx.P (PostC cx h₀ w₀ (writes x ++ writes y) s₁ β a K₁) a w := fun hx =>
      Code.wp_mono (fun e a' w' hq => PostC.up (Ext.refl _ _) (Same.refl _ _) (fun t ht => by simp [ht]) hq) (evC_sound hD x an.l s₁ β a w K₁ hx rs₁)
    have right : evC cx y an.r s₁ K₁ → y.wp cx.P (PostC cx h₀ w₀ (writes x ++ writes y) s₁ β a K₁) a w := fun hy =>
      Code.wp_mono (fun e a' w' hq => PostC.up (Ext.refl _ _) (Same.refl _ _) (fun t ht => by simp [ht]) hq) (evC_sound hD y an.r s₁ β a w K₁ hy rs₁)
    split at hb
    · rename_i hc
      exact wp_cond_true (rs₁.get hc).1 (left hb)
    · rename_i hc
      exact wp_cond_false (rs₁.get hc).1 (right hb)
    · rename_i t hc
      exact wp_cond_split (rs₁.get hc).1 (fun ht => left (hb.1 ht)) (fun ht => right (hb.2 ht))
    · exact hb.elim
  | .block id b, an, s, β, a, w, K, h, rs => by
    refine mat_then h rs (fun s h rs => ?_)
    refine joinW_sound (ws := writes b) h rs (fun s₁ K₁ hb rs₁ => ?_)
    refine wp_block (Code.wp_mono ?_ (evC_sound hD b an.l s₁ β a w _ hb rs₁))
    intro e a' w' hq
    cases e with
    | normal => exact hq
    | exit i =>
      obtain ⟨s', β', hK, rs', ex', same'⟩ := hq
      simp only at hK
      simp only [Exit.inBlock]
      split at hK
      · rename_i hi
        rw [if_pos (Nat.eq_of_beq_eq_true hi)]
        exact ⟨s', β', hK, rs', ex', same'⟩
      · rename_i hi
        rw [if_neg (by rintro rfl; simp at hi)]
        exact ⟨s', β', hK, rs', ex', same'⟩
    | ret => exact hq
    | goto l => exact hq.elim
    | panic c => exact hq.elim
    | outgrown => exact hq.elim
  | .loop b, an, s, β, a, w, K, h, rs => by
    simp only [evC] at h
    obtain ⟨s1, h1, rs1, ex1, env1⟩ := matOuts_sound an.lo rs h
    split at h1
    · exact h1.elim
    · rename_i hok
      obtain ⟨F, hat, hall⟩ := h1
      obtain ⟨s₁, p, g1, g2, g3, g4, g5, g6⟩ := meet (ws := writes b) rs1 rs1 (Nat.le_refl _) (fun _ _ => rfl) (fun _ _ _ => rfl) (fun i c e c' e' q1 q2 => by rw [q1] at q2; injection q2 with q2; injection q2 with _ q2; exact q2.symm) (fun _ _ h => h) (Same.refl _ _) hok hat hall
      -- the relation of the loop: a state put together of what F is told of
      refine wp_loop_ghost (fun n a' w' => ∃ (s₁ : St) (β₁ : Nat → Nat) (p : Prop × Nat), p.2 = n ∧ p.1 ∧ (p.1 → evC cx b an.l { s₁ with tch := [] } fun e s' => match e with
          | .normal => matOuts an.lo s' fun s' => match okTouch s1.loc.length (outLocs an.lo) s'.tch with
            | true => atO (Prop × Nat) an.lo s' F fun p' => p'.1 ∧ p'.2 < p.2
            | false => False
          | .exit i => K (.exit i) { s' with tch := s'.tch ++ s₁.tch }
          | .ret => K .ret { s' with tch := s'.tch ++ s₁.tch }) ∧ Rs cx h₀ w₀ s₁ β₁ a' w' ∧ Ext s1 β s₁ β₁ ∧ s₁.loc.length = s1.loc.length ∧ (∀ i, i < s1.loc.length → i ∉ outLocs an.lo → s₁.loc[i]? = s1.loc[i]?) ∧ Same (writes b) a a') p.2 ⟨s₁, β, p, rfl, g1, g2, g3, g4, g5, g6, Same.refl _ _⟩ ?_
      rintro n a₁ w₁ ⟨s₁, β₁, p, rfl, hp1, hbody, rs₁, ext₁, hlen₁, hloc₁, same₁⟩
      have rsz : Rs cx h₀ w₀ { s₁ with tch := [] } β₁ a₁ w₁ := ⟨rs₁.size, rs₁.defers, rs₁.env, rs₁.kn, rs₁.fr, rs₁.new⟩
      refine Code.wp_mono ?_ (evC_sound hD b an.l _ β₁ a₁ w₁ _ (hbody hp1) rsz)
      intro e a' w' hq
      have up : ∀ {s' : St} {β' : Nat → Nat}, Ext { s₁ with tch := [] } β₁ s' β' → Ext s₁ β₁ { s' with tch := s'.tch ++ s₁.tch } β' := fun ex =>
        ⟨ex.len, fun i hi => by simp [hi], fun i hi hn => ex.loc i hi (fun hm => hn (by simp [hm])), ex.beta, ex.ety, ex.mono⟩
      cases e with
      | normal =>
        obtain ⟨s', β', hm, rs', ex', same'⟩ := hq
        obtain ⟨s2, hK2, rs2, ex2, env2⟩ := matOuts_sound an.lo rs' hm
        split at hK2
        · rename_i ht
          have exm : Ext { s₁ with tch := [] } β₁ s2 β' := ex'.trans ex2
          have exu := ext₁.trans (up exm)
          have hlt : ∀ i, i < s1.loc.length → i < s₁.loc.length := fun i hi => by rw [hlen₁]; exact hi
          have hun := untouched (s := s₁) (os := an.lo) exm (by rw [hlen₁]; exact ht)
          obtain ⟨s₃, p', q1, q2, q3, q4, q5, q6⟩ := meet (ws := writes b) rs1 rs2 exu.len exu.beta (fun i hi hni => by rw [← hloc₁ i hi hni]; exact hun i (hlt i hi) hni) exu.ety exu.mono (same₁.trans same') hok hK2 hall
          exact ⟨p'.2, q1.2, s₃, β', p', rfl, q1.1, q2, q3, q4, q5, q6, same₁.trans same'⟩
        · exact hK2.elim
      | exit i =>
        obtain ⟨s', β', hK, rs', ex', same'⟩ := hq
        exact ⟨_, β', hK, ⟨rs'.size, rs'.defers, rs'.env, rs'.kn, rs'.fr, rs'.new⟩, (ex1.trans ext₁).trans (up ex'), same₁.trans same'⟩
      | ret =>
        obtain ⟨s', β', hK, rs', ex', same'⟩ := hq
        exact ⟨_, β', hK, ⟨rs'.size, rs'.defers, rs'.env, rs'.kn, rs'.fr, rs'.new⟩, (ex1.trans ext₁).trans (up ex'), same₁.trans same'⟩
      | goto l => exact hq.elim
      | panic c => exact hq.elim
      | outgrown => exact hq.elim
  | .exit id, an, s, β, a, w, K, h, rs => wp_exit ⟨s, β, h, rs, Ext.refl _ _, Same.refl _ _⟩
  | .ret, an, s, β, a, w, K, h, rs => wp_ret ⟨s, β, h, rs, Ext.refl _ _, Same.refl _ _⟩
  | .scope b, an, s, β, a, w, K, h, rs => by
    refine wp_scope_straight (Code.wp_mono ?_ (evC_sound hD b an.l s β a w K h rs))
    intro e a' w' hq
    cases e <;> first | exact hq | exact hq.elim
  | .rangeFunc .., an, s, β, a, w, K, h, rs => h.elim
  | .label .., an, s, β, a, w, K, h, rs => h.elim
  | .goto .., an, s, β, a, w, K, h, rs => h.elim
  | .refuse .., an, s, β, a, w, K, h, rs => h.elim
end Go.Vw
