/-
  Regions in their order, ways that meet, loops: what the calculus says of statements holds of the model.
-/
import Derived.Test.YtomcnpeeelhpcaaGreatDoorVwEff6
namespace Go.Vw
open Go
variable {cx : Cx} {h₀ : Heap} {w₀ w w' : World} {s : St} {β : Nat → Nat} {a : Act} {o : Oper}

/-- Slots that are not told keep what they hold. -/
def Same (ws : List Nat) (a a' : Act) : Prop := ∀ t, t ∉ ws → a'.tmps.getD t undef = a.tmps.getD t undef
theorem Same.refl (ws : List Nat) (a : Act) : Same ws a a := fun _ _ => rfl
theorem Same.trans {ws : List Nat} {a b c : Act} (h : Same ws a b) (k : Same ws b c) : Same ws a c := fun t ht => (k t ht).trans (h t ht)
theorem Same.mono {ws vs : List Nat} (hsub : ∀ t ∈ ws, t ∈ vs) {a b : Act} (h : Same ws a b) : Same vs a b := fun t ht => h t (fun hm => ht (hsub t hm))

theorem put_getD (a : Act) (d : Nat) (v : Value) (hd : d < a.tmps.size) (t : Nat) : (a.put (some d) v).tmps.getD t undef = if t = d then v else a.tmps.getD t undef := by
  simp only [Act.put]
  by_cases h : t = d
  · subst h
    rw [if_pos rfl]
    simp [Array.getD_eq_getD_getElem?, hd]
  · rw [if_neg h]
    simp [Array.getD_eq_getD_getElem?, Array.getElem?_setIfInBounds, Ne.symm h]
theorem lk_cons (d : Nat) (e : EV) (env : List (Nat × EV)) (t : Nat) : lk ((d, e) :: env) t = if t = d then some e else lk env t := by
  simp only [lk]
  by_cases h : t = d
  · subst h; simp
  · rw [if_neg h]
    have : Nat.beq d t = false := by
      cases hb : Nat.beq d t with
      | true => exact absurd (Nat.eq_of_beq_eq_true hb).symm h
      | false => rfl
    rw [this]

theorem put_rs (rs : Rs cx h₀ w₀ s β a w) {e : EV} (he : okE s.loc.length e) {dst : Option Nat} {K : St → Prop} (hp : s.put cx dst e K) :
    ∃ s', K s' ∧ Rs cx h₀ w₀ s' β (a.put dst (cz β e)) w ∧ Ext s β s' β ∧ Same dst.toList a (a.put dst (cz β e)) := by
  unfold St.put at hp
  cases dst with
  | none => exact ⟨s, hp, rs, Ext.refl _ _, Same.refl _ _⟩
  | some d =>
    simp only at hp
    split at hp
    · rename_i hd
      have hdn : d < cx.N := by simp [Nat.blt] at hd; omega
      have hds : d < a.tmps.size := by rw [rs.size]; exact hdn
      refine ⟨_, hp, ⟨by simp [Act.put, rs.size], rs.defers, fun t ev ht => ?_, rs.kn, rs.fr, rs.new⟩, Ext.same β rfl (fun _ h => h), fun t ht => ?_⟩
      · dsimp only at ht
        rw [lk_cons] at ht
        rw [put_getD a d _ hds]
        split at ht
        · rename_i htd
          injection ht with ht; subst ht
          rw [if_pos htd]; exact ⟨rfl, he⟩
        · rename_i htd
          rw [if_neg htd]; exact rs.env t ev ht
      · rw [put_getD a d _ hds, if_neg (by simpa using ht)]
    · exact hp.elim

theorem yielded_getD {ops : Array Oper} {tmps : Array Value} {j d : Nat} (hd : (ops[j]?).bind (·.dst) = some d) : yielded ops tmps j = match tmps.getD d undef with | .bool b => some b | _ => none := by
  unfold yielded
  rw [hd]
  simp only [Option.bind_some]
  cases h : tmps[d]? with
  | none => simp [Array.getD_eq_getD_getElem?, h, undef]
  | some v => simp [Array.getD_eq_getD_getElem?, h]; cases v <;> rfl

theorem guard_sound (rs : Rs cx h₀ w₀ s β a w) {ops : Array Oper} {run skip : St → Prop} (hg : evGuard cx ops o s run skip) :
    (Region.wanted o (yielded ops a.tmps) = true ∧ ∃ s', run s' ∧ Rs cx h₀ w₀ s' β a w ∧ Ext s β s' β) ∨
    (Region.wanted o (yielded ops a.tmps) = false ∧ ∃ s', skip s' ∧ Rs cx h₀ w₀ s' β a w ∧ Ext s β s' β) := by
  unfold evGuard at hg
  unfold Region.wanted
  split at hg
  · rename_i hgd
    rw [hgd]
    exact .inl ⟨rfl, s, hg, rs, Ext.refl _ _⟩
  · rename_i j want hgd
    rw [hgd]
    simp only
    split at hg
    · rename_i d hd
      rw [yielded_getD hd]
      split at hg
      · rename_i b hb
        rw [(rs.env _ _ hb).1]
        simp only [cz]
        split at hg
        · rename_i hbw; subst hbw
          exact .inl ⟨by simp, s, hg, rs, Ext.refl _ _⟩
        · rename_i hbw
          exact .inr ⟨by simpa using hbw, s, hg, rs, Ext.refl _ _⟩
      · rename_i b hb
        obtain ⟨hv, hok⟩ := rs.env _ _ hb
        have lit : ∀ c, b = c → Rs cx h₀ w₀ { s with env := (d, .lit c) :: s.env } β a w := by
          intro c hc
          subst hc
          refine ⟨rs.size, rs.defers, fun t ev ht => ?_, rs.kn, rs.fr, rs.new⟩
          dsimp only at ht
          rw [lk_cons] at ht
          split at ht
          · rename_i htd
            injection ht with ht; subst ht
            rw [htd]; exact ⟨hv, trivial⟩
          · exact rs.env t ev ht
        rw [hv]
        simp only [cz]
        by_cases hbw : b = want
        · exact .inl ⟨by simp [hbw], _, hg.1 hbw, lit want hbw, Ext.same β rfl (fun _ h => h)⟩
        · have hn : b = !want := by cases b <;> cases want <;> simp_all
          exact .inr ⟨by simpa using hbw, _, hg.2 hn, lit (!want) hn, Ext.same β rfl (fun _ h => h)⟩
      · rename_i vs hb
        rw [(rs.env _ _ hb).1]
        exact .inr ⟨by simp [cz], s, hg, rs, Ext.refl _ _⟩
      · exact hg.elim
    · exact hg.elim

theorem dsts_mem : ∀ (l : List Oper) (o : Oper), o ∈ l → ∀ t ∈ o.dst.toList, t ∈ dsts l
  | [], o, h, t, ht => by simp at h
  | x :: l, o, h, t, ht => by
    rcases List.mem_cons.1 h with e | e
    · subst e
      cases hd : o.dst with
      | none => rw [hd] at ht; simp at ht
      | some d => rw [hd] at ht; simp at ht; simp [dsts, hd, ht]
    · have := dsts_mem l o e t ht
      simp only [dsts]
      split
      · exact List.mem_cons_of_mem _ this
      · exact this

theorem evOps_sound (ops : Array Oper) (Q : Exit → Act → World → Prop) {K : St → Prop} {ws : List Nat} : ∀ (l : List Oper), (∀ o ∈ l, ∀ t ∈ o.dst.toList, t ∈ ws) → ∀ {s : St} {β : Nat → Nat} {a : Act} {w : World}, evOps cx ops l s K → Rs cx h₀ w₀ s β a w →
    (∀ s' β' a' w', K s' → Rs cx h₀ w₀ s' β' a' w' → Ext s β s' β' → Same ws a a' → Q .normal a' w') → wpList cx.P ops Q l a w
  | [], _, s, β, a, w, hp, rs, hq => hq s β a w hp rs (Ext.refl _ _) (Same.refl _ _)
  | o :: rest, hws, s, β, a, w, hp, rs, hq => by
    simp only [evOps] at hp
    have hsub : ∀ t ∈ o.dst.toList, t ∈ ws := hws o (by simp)
    unfold wpList
    rcases guard_sound rs hp with ⟨hw, s1, hrun, rs1, ex1⟩ | ⟨hw, s1, hskip, rs1, ex1⟩
    · rw [if_pos hw]
      refine .inl (evOp_sound rs1 hrun ?_)
      intro e s2 β2 w2 hK rs2 ex2 env2 ok2
      obtain ⟨s3, hK3, rs3, ex3, same3⟩ := put_rs rs2 ok2 hK
      refine evOps_sound ops Q rest (fun x hx => hws x (by simp [hx])) hK3 rs3 ?_
      intro s4 β4 a4 w4 hK4 rs4 ex4 same4
      exact hq s4 β4 a4 w4 hK4 rs4 (((ex1.trans ex2).trans ex3).trans ex4) ((same3.mono hsub).trans same4)
    · rw [if_neg (by rw [hw]; simp)]
      obtain ⟨s3, hK3, rs3, ex3, same3⟩ := put_rs (e := .v undef) rs1 rfl hskip
      refine evOps_sound ops Q rest (fun x hx => hws x (by simp [hx])) hK3 rs3 ?_
      intro s4 β4 a4 w4 hK4 rs4 ex4 same4
      exact hq s4 β4 a4 w4 hK4 rs4 ((ex1.trans ex3).trans ex4) ((same3.mono hsub).trans same4)

/-! ### Ways that meet -/

theorem matchT_spec {ty : Ty} {v : Value} {K : ty.T → Prop} (h : matchT ty v K) : ∃ x, v = ty.v x ∧ K x := by
  unfold matchT at h
  split at h <;> first
    | exact h.elim
    | (split at h
       · rename_i hk; subst hk; exact ⟨_, rfl, h⟩
       · exact h.elim)
    | exact ⟨_, rfl, h⟩
    | (obtain ⟨y, hy, hK⟩ := h; exact ⟨y, by show Value.agg _ = Value.agg _; congr 1; exact Array.ext' hy, hK⟩)
theorem content_spec {ty : Ty} {c : List Value} {x : ty.T} (h : contentV ty c = ty.v x) : cellsL (ty.v x) = c := by
  unfold contentV at h
  split at h
  · rw [← h]
  · split at h
    · rename_i v
      rw [h]
      cases ty <;> first | rfl | (rename_i hst; exact absurd rfl (hst _ _ _)) | skip
      cases x <;> rfl
    · exfalso
      cases ty <;> first | cases h | skip
      cases x <;> cases h

/-- A state that is put together again out of what is told of the outs. -/
structure Inv (n : Nat) (os : List Out) (s₀ s' : St) (β' : Nat → Nat) (a' : Act) : Prop where
  env : ∀ t e, lk s₀.env t = some e → a'.tmps.getD t undef = cz β' e ∧ okE n e
  len : s₀.loc.length = n
  loc : ∀ i, i < n → i ∉ outLocs os → s₀.loc[i]? = s'.loc[i]?
  live : ∀ i ∈ outLocs os, ∃ c e, s₀.loc[i]? = some (LC.live c e)
  ety : ∀ (i : Nat) c e c' e', s₀.loc[i]? = some (LC.live c e) → s'.loc[i]? = some (LC.live c' e') → e' = e

theorem restore {C : Type} {s' : St} {β' : Nat → Nat} {a' : Act} {w' : World} (rs' : Rs cx h₀ w₀ s' β' a' w') {n : Nat} (hn : n ≤ s'.loc.length) (tc : List Nat) : ∀ (os : List Out) (s₀ : St) (F : TO C os) (G : C → Prop) (H : St → C → Prop), Inv n os s₀ s' β' a' → s₀.tch = tc →
    atO C os s' F G → allO C os s₀ F H → ∃ s₁ c, G c ∧ H s₁ c ∧ Rs cx h₀ w₀ s₁ β' a' w' ∧ s₁.loc.length = n ∧ s₁.tch = tc ∧ (∀ i, i < n → s₁.loc[i]? = s'.loc[i]?) ∧ (∀ i, i < n → i ∉ outLocs os → s₁.loc[i]? = s₀.loc[i]?)
  | [], s₀, F, G, H, inv, htc, hat, hall => by
    have hloc : ∀ i, i < n → s₀.loc[i]? = s'.loc[i]? := fun i hi => inv.loc i hi (by simp [outLocs])
    have get : ∀ (i : Nat) x, s₀.loc[i]? = some x → s'.loc[i]? = some x := fun i x hx => by
      rw [← hloc i (by rw [← inv.len]; exact lt_of_some hx)]; exact hx
    refine ⟨{ s₀ with h := s'.h }, _, hat, hall s'.h, ⟨rs'.size, rs'.defers, fun t e ht => ?_, ⟨rs'.kn.rel, fun i c e hi => rs'.kn.live i c e (get i _ hi), fun i c e hi => rs'.kn.one i c e (get i _ hi),
      fun i j ci ei cj ej hi hj => rs'.kn.inj i j _ _ _ _ (get i _ hi) (get j _ hj), fun i b hi => rs'.kn.mat i b (get i _ hi), rs'.kn.hw⟩, rs'.fr, fun i c e hi => rs'.new i c e (get i _ hi)⟩, inv.len, htc, hloc, fun _ _ _ => rfl⟩
    obtain ⟨h1, h2⟩ := inv.env t e ht
    exact ⟨h1, by rw [inv.len]; exact h2⟩
  | .slot t ty :: r, s₀, F, G, H, inv, htc, hat, hall => by
    simp only [atO] at hat
    split at hat
    · rename_i v hv
      obtain ⟨x, hx, hat⟩ := matchT_spec hat
      cases hl : lk s'.env t with
      | none => rw [hl] at hv; cases hv
      | some e =>
        rw [hl] at hv
        obtain ⟨h1, h2⟩ := rs'.env t e hl
        have hcz := toV_cz rs'.kn.mat hv
        have hok := toV_ok h2 hv
        obtain ⟨s₁, c, g1, g2, g3, g4, g5, g6, g7⟩ := restore rs' hn tc r { s₀ with env := (t, .v (ty.v x)) :: s₀.env } (F x) G H ⟨fun t' e' ht' => by
          dsimp only at ht'
          rw [lk_cons] at ht'
          split at ht'
          · rename_i htt
            injection ht' with ht'; subst ht'
            rw [htt, h1, hcz, hx]
            exact ⟨rfl, by rw [← hx]; exact hok⟩
          · exact inv.env t' e' ht', inv.len, inv.loc, inv.live, inv.ety⟩ htc hat (hall x)
        exact ⟨s₁, c, g1, g2, g3, g4, g5, g6, g7⟩
    · exact hat.elim
  | .loc i ty :: r, s₀, F, G, H, inv, htc, hat, hall => by
    simp only [atO] at hat
    split at hat
    · rename_i c e hi
      obtain ⟨x, hx, hat⟩ := matchT_spec hat
      obtain ⟨c0, e0, hl0⟩ := inv.live i (by simp [outLocs])
      have hee : e = e0 := inv.ety i _ _ _ _ hl0 hi
      have hall' := hall x
      simp only [hl0] at hall'
      have hcells := content_spec hx
      rw [hcells] at hall'
      have hil : i < s₀.loc.length := lt_of_some hl0
      have hget : ∀ j, (s₀.loc.set i (LC.live c e0))[j]? = if j = i then some (LC.live c e0) else s₀.loc[j]? := by
        intro j
        by_cases hji : j = i
        · subst hji; simp [hil]
        · rw [List.getElem?_set_ne (fun e => hji e.symm), if_neg hji]
      obtain ⟨s₁, c', g1, g2, g3, g4, g5, g6, g7⟩ := restore rs' hn tc r { s₀ with loc := s₀.loc.set i (LC.live c e0) } (F x) G H ⟨inv.env, by simpa using inv.len, fun j hj hjr => by
          dsimp only
          rw [hget]
          split
          · rename_i hji; rw [hji, hi, hee]
          · rename_i hji
            exact inv.loc j hj (by simp [outLocs]; exact ⟨hji, hjr⟩), fun j hj => by
          dsimp only
          rw [hget]
          split
          · exact ⟨_, _, rfl⟩
          · exact inv.live j (by simp [outLocs, hj]), fun j cj ej cj' ej' h1 h2 => by
          dsimp only at h1
          rw [hget] at h1
          split at h1
          · rename_i hji
            injection h1 with h1; injection h1 with _ h1
            rw [hji, hi] at h2; injection h2 with h2; injection h2 with _ h2
            rw [← h2, hee, h1]
          · exact inv.ety j _ _ _ _ h1 h2⟩ htc hat hall'
      refine ⟨s₁, c', g1, g2, g3, g4, g5, g6, fun j hj hjr => ?_⟩
      simp only [outLocs, List.mem_cons, not_or] at hjr
      rw [g7 j hj hjr.2]
      dsimp only
      rw [hget, if_neg hjr.1]
    · exact hat.elim

theorem memN_mem : ∀ (l : List Nat) (t : Nat), memN t l = true ↔ t ∈ l
  | [], t => by simp [memN]
  | u :: l, t => by
    simp only [memN, List.mem_cons]
    by_cases h : t = u
    · subst h; simp
    · have : Nat.beq t u = false := by
        cases hb : Nat.beq t u with
        | true => exact absurd (Nat.eq_of_beq_eq_true hb) h
        | false => rfl
      rw [this]
      simp only [h, false_or]
      exact memN_mem l t
theorem keep_lk (ws : List Nat) : ∀ (env : List (Nat × EV)) (t : Nat) (e : EV), lk (keep ws env) t = some e → t ∉ ws ∧ lk env t = some e
  | [], t, e, h => by simp [keep, lk] at h
  | p :: env, t, e, h => by
    simp only [keep] at h
    split at h
    · rename_i hm
      obtain ⟨h1, h2⟩ := keep_lk ws env t e h
      refine ⟨h1, ?_⟩
      have hne : t ≠ p.1 := by
        rintro rfl
        exact h1 ((memN_mem _ _).1 hm)
      rw [show p = (p.1, p.2) from rfl, lk_cons, if_neg hne]; exact h2
    · rename_i hm
      rw [show p = (p.1, p.2) from rfl, lk_cons] at h ⊢
      split at h
      · rename_i ht
        refine ⟨fun hmem => ?_, by rw [if_pos ht]; exact h⟩
        rw [ht] at hmem
        rw [(memN_mem _ _).2 hmem] at hm; cases hm
      · rename_i ht
        obtain ⟨h1, h2⟩ := keep_lk ws env t e h
        exact ⟨h1, by rw [if_neg ht]; exact h2⟩
theorem okTouch_spec {n : Nat} {ls : List Nat} : ∀ (l : List Nat), okTouch n ls l = true → ∀ i ∈ l, n ≤ i ∨ i ∈ ls
  | [], _, i, h => by simp at h
  | j :: l, hk, i, h => by
    simp only [okTouch, Bool.and_eq_true, Bool.or_eq_true] at hk
    rcases List.mem_cons.1 h with e | e
    · subst e
      rcases hk.1 with h1 | h1
      · exact .inl (Nat.le_of_ble_eq_true h1)
      · exact .inr ((memN_mem _ _).1 h1)
    · exact okTouch_spec l hk.2 i e
theorem outsOk_spec {L : List LC} : ∀ (os : List Out), outsOk L os = true → ∀ i ∈ outLocs os, ∃ c e, L[i]? = some (LC.live c e)
  | [], _, i, h => by simp [outLocs] at h
  | .slot t ty :: r, hk, i, h => outsOk_spec r hk i h
  | .loc j ty :: r, hk, i, h => by
    simp only [outsOk] at hk
    split at hk
    · rename_i c e hj
      simp only [outLocs, List.mem_cons] at h
      rcases h with h | h
      · exact ⟨c, e, by rw [h]; exact hj⟩
      · exact outsOk_spec r hk i h
    · cases hk
theorem matOuts_sound : ∀ (os : List Out) {s : St} {K : St → Prop}, Rs cx h₀ w₀ s β a w → matOuts os s K → ∃ s', K s' ∧ Rs cx h₀ w₀ s' β a w ∧ Ext s β s' β ∧ s'.env = s.env
  | [], s, K, rs, hm => ⟨s, hm, rs, Ext.refl _ _, rfl⟩
  | .slot t ty :: r, s, K, rs, hm => by
    simp only [matOuts] at hm
    split at hm
    · rename_i e he
      obtain ⟨s1, hK1, rs1, ex1, env1, _, _⟩ := matE_sound rs (rs.env t e he).2 hm
      obtain ⟨s2, hK2, rs2, ex2, env2⟩ := matOuts_sound r rs1 hK1
      exact ⟨s2, hK2, rs2, ex1.trans ex2, env2.trans env1⟩
    · exact hm.elim
  | .loc i ty :: r, s, K, rs, hm => matOuts_sound r rs hm

/-- Where ways meet: out of what a way came to, a state as it is told there. -/
theorem meet {C : Type} {ws : List Nat} {os : List Out} {s' : St} {β' : Nat → Nat} {a' : Act} {w' : World} (rs : Rs cx h₀ w₀ s β a w) (rs' : Rs cx h₀ w₀ s' β' a' w') (hlen : s.loc.length ≤ s'.loc.length) (hbeta : ∀ i, i < s.loc.length → β' i = β i)
    (hloc : ∀ i, i < s.loc.length → i ∉ outLocs os → s.loc[i]? = s'.loc[i]?) (hety : ∀ (i : Nat) c e c' e', s.loc[i]? = some (LC.live c e) → s'.loc[i]? = some (LC.live c' e') → e' = e)
    (hmono : ∀ (i : Nat) b, s.loc[i]? = some (LC.mat b) → s'.loc[i]? = some (LC.mat b)) (same : Same ws a a')
    (hok : outsOk s.loc os = true) {F : TO C os} {G : C → Prop} {H : St → C → Prop} (hat : atO C os s' F G) (hall : allO C os (s.forget ws os) F H) :
    ∃ s₁ c, G c ∧ H s₁ c ∧ Rs cx h₀ w₀ s₁ β' a' w' ∧ Ext s β s₁ β' ∧ s₁.loc.length = s.loc.length ∧ ∀ i, i < s.loc.length → i ∉ outLocs os → s₁.loc[i]? = s.loc[i]? := by
  obtain ⟨s₁, c, g1, g2, g3, g4, g5, g6, g7⟩ := restore rs' hlen (outLocs os ++ s.tch) os (s.forget ws os) F G H ⟨fun t e hte => by
      obtain ⟨h1, h2⟩ := keep_lk ws _ t e hte
      obtain ⟨h3, h4⟩ := rs.env t e h2
      refine ⟨?_, h4⟩
      rw [same t h1, h3, cz_congr hbeta h4], rfl, hloc, outsOk_spec os hok, fun i c e c' e' h1 h2 => hety i c e c' e' h1 h2⟩ rfl hat hall
  refine ⟨s₁, c, g1, g2, g3, ⟨by rw [g4]; exact Nat.le_refl _, fun i hi => by rw [g5]; simp [hi], fun i hi hni => ?_, hbeta, fun i c e c' e' h1 h2 => ?_, fun i b hb => ?_⟩, g4, g7⟩
  · rw [g5] at hni
    simp only [List.mem_append, not_or] at hni
    exact g7 i hi hni.1
  · rw [g6 i (lt_of_some h1)] at h2
    exact hety i c e c' e' h1 h2
  · rw [g6 i (lt_of_some hb)]
    exact hmono i b hb
/-- What was not touched lies as it did. -/
theorem untouched {s' : St} {β' : Nat → Nat} {os : List Out} (ex : Ext { s with tch := [] } β s' β') (ht : okTouch s.loc.length (outLocs os) s'.tch = true) : ∀ i, i < s.loc.length → i ∉ outLocs os → s.loc[i]? = s'.loc[i]? := fun i hi hni => by
  refine (ex.loc i hi (fun hm => ?_)).symm
  rcases okTouch_spec _ ht i hm with h1 | h1
  · exact absurd hi (Nat.not_lt.2 h1)
  · exact hni h1
end Go.Vw
