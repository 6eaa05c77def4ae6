/-
  Regions in any order: what operations that wait will answer; how that goes on.
-/
import Derived.Test.YtomcnpeeelhpcaaGreatDoorVwDraw1
namespace Go.Vw
open Go
variable {cx : Cx} {h₀ : Heap} {w₀ w w' : World} {s s' : St} {β β' : Nat → Nat} {a₀ a b b' : Act} {ops : Array Oper} {o : Oper} {bl : List Nat}

/-- What an operation will see: what it is bound behind has been done, of what it looks at; the rest is as at the region's head. -/
def Mat (ops : Array Oper) (a₀ b : Act) (o : Oper) (bl : List Nat) (a : Act) : Prop :=
  ∀ t ∈ o.looksAt ops, ((∃ j ∈ bl, dstIs ops j t) → a.tmps.getD t undef = b.tmps.getD t undef) ∧ ((¬ ∃ j ∈ bl, dstIs ops j t) → a.tmps.getD t undef = a₀.tmps.getD t undef)
theorem Mat.agree (h : Mat ops a₀ b o bl a) (k : Mat ops a₀ b o bl b') : Agree ops o a b' := by
  intro t ht
  by_cases hd : ∃ j ∈ bl, dstIs ops j t
  · rw [(h t ht).1 hd, (k t ht).1 hd]
  · rw [(h t ht).2 hd, (k t ht).2 hd]
theorem Mat.turn (hb : ∀ t, (∃ j ∈ bl, dstIs ops j t) → b'.tmps.getD t undef = b.tmps.getD t undef) (h : Mat ops a₀ b' o bl a) : Mat ops a₀ b o bl a := fun t ht => ⟨fun hd => ((h t ht).1 hd).trans (hb t hd), (h t ht).2⟩

/-- What an operation that waits will answer. -/
def Hold (cx : Cx) (ops : Array Oper) (a₀ b : Act) (s : St) (β : Nat → Nat) (w : World) (o : Oper) (bl : List Nat) (v : Value) : Prop :=
  (readsMem o.op = false ∧ ∀ a, Mat ops a₀ b o bl a → ∀ w, (execOp a.eval o).run cx.P w = .ok (.value v) w) ∨
  (∃ t x ev, o.op = .load t x ∧ getE s x = some ev ∧ okE s.loc.length ev ∧ (∀ a, Mat ops a₀ b o bl a → a.eval x = cz β ev) ∧ readE cx s.h s.loc t ev = some v ∧ vok v = true) ∨
  (∃ st d x ev, o.op = .convert st d x ∧ getE s x = some ev ∧ okE s.loc.length ev ∧ (∀ a, Mat ops a₀ b o bl a → a.eval x = cz β ev) ∧ ConvR cx s.h s.loc st d ev v) ∨
  (readsMem o.op = true ∧ (∀ t x, o.op ≠ .load t x) ∧ (∀ st d x, o.op ≠ .convert st d x) ∧ v ≠ undef ∧ ∀ a, Mat ops a₀ b o bl a → (execOp a.eval o).run cx.P w = .ok (.value v) w)
def PF (cx : Cx) (ops : Array Oper) (a₀ b : Act) (s : St) (β : Nat → Nat) (w : World) (o : Oper) (bl : List Nat) : Prop :=
  ∃ v, (∀ d, o.dst = some d → b.tmps.getD d undef = v) ∧
    ((v = undef ∧ ∀ a, Mat ops a₀ b o bl a → Region.wanted o (yielded ops a.tmps) = false) ∨
     ((∀ a, Mat ops a₀ b o bl a → Region.wanted o (yielded ops a.tmps) = true) ∧ Hold cx ops a₀ b s β w o bl v))

/-- How a state may turn under operations that wait, while nothing is written. -/
structure Quiet (s s' : St) : Prop where
  h : s'.h = s.h
  loc : s'.loc = s.loc
structure Quiet' (s s' : St) (dst : Option Nat) : Prop where
  env : ∀ t e, lk s.env t = some e → (∀ c, e ≠ .v (.bool c)) → (∀ d, dst = some d → t ≠ d) → lk s'.env t = some e

theorem readE_nobool {h : Heap} {L : List LC} {t : TypeId} {ev : EV} {v : Value} (hv : readE cx h L t ev = some v) : ∀ c, ev ≠ .v (.bool c) := by
  rintro c rfl
  simp [readE] at hv
theorem getE_turn {dst : Option Nat} (q : Quiet' s s' dst) {x : Operand} {ev : EV} (hx : getE s x = some ev) (hn : ∀ c, ev ≠ .v (.bool c)) (hd : ∀ t d, x = .tmp t → dst = some d → t ≠ d) : getE s' x = some ev := by
  cases x with
  | tmp t => exact q.env t ev hx hn (fun d hd' => hd t d rfl hd')
  | const v =>
    rw [show getE s' (.const v) = getE s (.const v) from by cases v <;> rfl]
    exact hx
  | global g => exact hx
  | func f => exact hx

theorem PF.quiet {dst : Option Nat} (q : Quiet s s') (q' : Quiet' s s' dst) (hb : ∀ t, (∃ j ∈ bl, dstIs ops j t) ∨ o.dst = some t → b'.tmps.getD t undef = b.tmps.getD t undef) (hl : ∀ x d, rdTmp o.op = some x → dst = some d → x ≠ d)
    (h : PF cx ops a₀ b s β w o bl) : PF cx ops a₀ b' s' β w o bl := by
  obtain ⟨v, h1, h2⟩ := h
  have tn : ∀ {a}, Mat ops a₀ b' o bl a → Mat ops a₀ b o bl a := fun h => h.turn (fun t ht => hb t (.inl ht))
  refine ⟨v, fun d hd => (hb d (.inr hd)).trans (h1 d hd), h2.imp (fun k => ⟨k.1, fun a ha => k.2 a (tn ha)⟩) (fun k => ⟨fun a ha => k.1 a (tn ha), ?_⟩)⟩
  rcases k.2 with ⟨k1, k2⟩ | ⟨t, x, ev, k1, k2, k0, k3, k4, k5⟩ | ⟨st, cd, x, ev, k1, k2, k0, k3, k4⟩ | ⟨k1, k2, k2', k3, k4⟩
  · exact .inl ⟨k1, fun a ha => k2 a (tn ha)⟩
  · refine .inr (.inl ⟨t, x, ev, k1, getE_turn q' k2 (readE_nobool k4) (fun t' d hx hd => hl t' d (by rw [k1, hx]; rfl) hd), by rw [q.loc]; exact k0, fun a ha => k3 a (tn ha), by rw [q.h, q.loc]; exact k4, k5⟩)
  · exact .inr (.inr (.inl ⟨st, cd, x, ev, k1, getE_turn q' k2 (conv_nobool k4) (fun t' d hx hd => hl t' d (by rw [k1, hx]; rfl) hd), by rw [q.loc]; exact k0, fun a ha => k3 a (tn ha), conv_quiet q.h q.loc k4⟩))
  · exact .inr (.inr (.inr ⟨k1, k2, k2', k3, fun a ha => k4 a (tn ha)⟩))

/-- Across an operation that changes memory. -/
theorem PF.across {s1 : St} {dst : Option Nat} (he : s1.env = s.env) (q' : Quiet' s1 s' dst) (q : Quiet s1 s') (hlen : s.loc.length ≤ s'.loc.length) (hbeta : ∀ i, i < s.loc.length → β' i = β i) (hb : ∀ t, (∃ j ∈ bl, dstIs ops j t) ∨ o.dst = some t → b'.tmps.getD t undef = b.tmps.getD t undef)
    (hl : ∀ x d, rdTmp o.op = some x → dst = some d → x ≠ d) (henv : ∀ t e, lk s.env t = some e → b.tmps.getD t undef = cz β e) (hag : readsMem o.op = true → again cx o s s1)
    (h : PF cx ops a₀ b s β w o bl) : PF cx ops a₀ b' s' β' w' o bl := by
  obtain ⟨v, h1, h2⟩ := h
  have tn : ∀ {a}, Mat ops a₀ b' o bl a → Mat ops a₀ b o bl a := fun h => h.turn (fun t ht => hb t (.inl ht))
  refine ⟨v, fun d hd => (hb d (.inr hd)).trans (h1 d hd), h2.imp (fun k => ⟨k.1, fun a ha => k.2 a (tn ha)⟩) (fun k => ⟨fun a ha => k.1 a (tn ha), ?_⟩)⟩
  have nt : ∀ (hn : v ≠ undef) d, o.dst = some d → lk s.env d ≠ some (.v (.tuple ⟨[]⟩)) := by
    intro hn d hd hlk
    have := henv d _ hlk
    rw [h1 d hd] at this
    exact hn this
  rcases k.2 with ⟨k1, k2⟩ | ⟨t, x, ev, k1, k2, k0, k3, k4, k5⟩ | ⟨st, cd, x, ev, k1, k2, k0, k3, k4⟩ | ⟨k1, k2, k2', k3, k4⟩
  · exact .inl ⟨k1, fun a ha => k2 a (tn ha)⟩
  · have hag' := hag (by rw [k1]; rfl)
    unfold again at hag'
    have hn : v ≠ undef := fun e => by rw [e] at k5; cases k5
    have hr : readE cx s1.h s1.loc t ev = readE cx s.h s.loc t ev := by
      split at hag'
      · exact hag'.elim
      · rename_i d hd
        split at hag'
        · rename_i hvs
          exact absurd hvs (nt hn d hd)
        · split at hag'
          · rename_i t' x' hop
            rw [k1] at hop; injection hop with e1 e2; subst e1; subst e2
            rw [k2] at hag'
            exact hag'
          · rename_i hop
            rw [k1] at hop; cases hop
          · exact hag'.elim
    refine .inr (.inl ⟨t, x, ev, k1, getE_turn q' ((getE_env he x).trans k2) (readE_nobool k4) (fun t' d hx hd => hl t' d (by rw [k1, hx]; rfl) hd), okE_mono hlen k0, fun a ha => ?_, ?_, k5⟩)
    · rw [cz_congr hbeta k0]; exact k3 a (tn ha)
    · rw [q.h, q.loc, hr]; exact k4
  · have hag' := hag (by rw [k1]; rfl)
    unfold again at hag'
    have hn : v ≠ undef := conv_undef k4
    have hr : convAgain s s1 ev := by
      split at hag'
      · exact hag'.elim
      · rename_i d hd
        split at hag'
        · rename_i hvs
          exact absurd hvs (nt hn d hd)
        · split at hag'
          · rename_i hop
            rw [k1] at hop; cases hop
          · rename_i hop
            rw [k1] at hop; injection hop with e1 e2 e3; subst e3
            rw [k2] at hag'
            exact hag'
          · exact hag'.elim
    refine .inr (.inr (.inl ⟨st, cd, x, ev, k1, getE_turn q' ((getE_env he x).trans k2) (conv_nobool k4) (fun t' d hx hd => hl t' d (by rw [k1, hx]; rfl) hd), okE_mono hlen k0, fun a ha => ?_, conv_quiet q.h q.loc (conv_turn k4 hr)⟩))
    rw [cz_congr hbeta k0]; exact k3 a (tn ha)
  · have hag' := hag k1
    unfold again at hag'
    split at hag'
    · exact hag'.elim
    · rename_i d hd
      split at hag'
      · rename_i hvs
        exact absurd hvs (nt k3 d hd)
      · split at hag'
        · rename_i t' x' hop
          exact absurd hop (k2 _ _)
        · rename_i hop
          exact absurd hop (k2' _ _ _)
        · exact hag'.elim

theorem againAll_spec {b : List Nat} : ∀ (l : List Nat) {K : Prop}, againAll cx ops b s s' l K → K ∧ ∀ i ∈ l, i ∉ b → ∃ o, ops[i]? = some o ∧ (readsMem o.op = true → again cx o s s')
  | [], K, h => ⟨h, fun i hi => by simp at hi⟩
  | i :: r, K, h => by
    simp only [againAll] at h
    split at h
    · rename_i o ho
      split at h
      · obtain ⟨h1, h2⟩ := againAll_spec r h.2
        refine ⟨h1, fun j hj hjb => ?_⟩
        rcases List.mem_cons.1 hj with e | e
        · subst e; exact ⟨o, ho, fun _ => h.1⟩
        · exact h2 j e hjb
      · rename_i hc
        obtain ⟨h1, h2⟩ := againAll_spec r h
        refine ⟨h1, fun j hj hjb => ?_⟩
        rcases List.mem_cons.1 hj with e | e
        · subst e
          refine ⟨o, ho, fun hr => ?_⟩
          have : memN j b = false := by
            cases hm : memN j b with
            | true => exact absurd ((memN_mem _ _).1 hm) hjb
            | false => rfl
          rw [hr, this] at hc; cases hc
        · exact h2 j e hjb
    · exact h.elim

/-- A guard, and what of the state it leaves as it was. -/
theorem guard_quiet (rs : Rs cx h₀ w₀ s β a w) {run skip : St → Prop} (hg : evGuard cx ops o s run skip) :
    ∃ s', Rs cx h₀ w₀ s' β a w ∧ Ext s β s' β ∧ Quiet s s' ∧ Quiet' s s' none ∧ ((Region.wanted o (yielded ops a.tmps) = true ∧ run s') ∨ (Region.wanted o (yielded ops a.tmps) = false ∧ skip s')) := by
  have q0 : Quiet s s ∧ Quiet' s s none := ⟨⟨rfl, rfl⟩, ⟨fun t e h _ _ => h⟩⟩
  unfold evGuard at hg
  unfold Region.wanted
  split at hg
  · rename_i hgd
    rw [hgd]
    exact ⟨s, rs, Ext.refl _ _, q0.1, q0.2, .inl ⟨rfl, hg⟩⟩
  · rename_i j want hgd
    rw [hgd]
    simp only
    split at hg
    · rename_i d hd
      rw [yielded_getD hd]
      split at hg
      · rename_i c hb
        rw [(rs.env _ _ hb).1]
        simp only [cz]
        split at hg
        · rename_i hbw; subst hbw
          exact ⟨s, rs, Ext.refl _ _, q0.1, q0.2, .inl ⟨by simp, hg⟩⟩
        · rename_i hbw
          exact ⟨s, rs, Ext.refl _ _, q0.1, q0.2, .inr ⟨by simpa using hbw, hg⟩⟩
      · rename_i c hb
        obtain ⟨hv, hok⟩ := rs.env _ _ hb
        have lit : ∀ c', c = c' → Rs cx h₀ w₀ { s with env := (d, .lit c') :: s.env } β a w := by
          intro c' hc
          subst hc
          refine ⟨rs.size, rs.defers, fun t ev ht => ?_, rs.kn, rs.fr, rs.new⟩
          dsimp only at ht
          rw [lk_cons] at ht
          split at ht
          · rename_i htd
            injection ht with ht; subst ht
            rw [htd]; exact ⟨hv, trivial⟩
          · exact rs.env t ev ht
        have ql : ∀ c', Quiet' s { s with env := (d, .lit c') :: s.env } none := fun c' => ⟨fun t e h hn _ => by
          dsimp only
          rw [lk_cons]
          split
          · rename_i htd
            rw [htd, hb] at h; injection h with h
            exact absurd h.symm (hn c)
          · exact h⟩
        rw [hv]
        simp only [cz]
        by_cases hbw : c = want
        · exact ⟨_, lit want hbw, Ext.same β rfl (fun _ h => h), ⟨rfl, rfl⟩, ql want, .inl ⟨by simp [hbw], hg.1 hbw⟩⟩
        · have hn : c = !want := by cases c <;> cases want <;> simp_all
          exact ⟨_, lit (!want) hn, Ext.same β rfl (fun _ h => h), ⟨rfl, rfl⟩, ql (!want), .inr ⟨by simpa using hbw, hg.2 hn⟩⟩
      · rename_i vs hb
        rw [(rs.env _ _ hb).1]
        exact ⟨s, rs, Ext.refl _ _, q0.1, q0.2, .inr ⟨by simp [cz], hg⟩⟩
      · exact hg.elim
    · exact hg.elim
/-- A put, and what of the state it leaves as it was. -/
theorem put_quiet {e : EV} {dst : Option Nat} {K : St → Prop} (rs : Rs cx h₀ w₀ s β a w) (he : okE s.loc.length e) (hp : s.put cx dst e K) :
    ∃ s', K s' ∧ Rs cx h₀ w₀ s' β (a.put dst (cz β e)) w ∧ Ext s β s' β ∧ Same dst.toList a (a.put dst (cz β e)) ∧ Quiet s s' ∧ Quiet' s s' dst ∧ (∀ d, dst = some d → (a.put dst (cz β e)).tmps.getD d undef = cz β e) ∧ (∀ d, dst = some d → d < cx.N) := by
  unfold St.put at hp
  cases dst with
  | none => exact ⟨s, hp, rs, Ext.refl _ _, Same.refl _ _, ⟨rfl, rfl⟩, ⟨fun t e h _ _ => h⟩, fun d hd => (by cases hd), fun d hd => (by cases hd)⟩
  | some d =>
    simp only at hp
    split at hp
    · rename_i hd
      have hdn : d < cx.N := by simp [Nat.blt] at hd; omega
      have hds : d < a.tmps.size := by rw [rs.size]; exact hdn
      refine ⟨_, hp, ⟨by simp [Act.put, rs.size], rs.defers, fun t ev ht => ?_, rs.kn, rs.fr, rs.new⟩, Ext.same β rfl (fun _ h => h), fun t ht => ?_, ⟨rfl, rfl⟩, ⟨fun t e' h _ hd' => ?_⟩, fun d' hd' => ?_, fun d' hd' => ?_⟩
      · dsimp only at ht
        rw [lk_cons] at ht
        rw [put_getD a d _ hds]
        split at ht
        · rename_i htd
          injection ht with ht; subst ht
          rw [if_pos htd]; exact ⟨rfl, he⟩
        · rename_i htd
          rw [if_neg htd]; exact rs.env t ev ht
      · rw [put_getD a d _ hds, if_neg (by simpa using ht)]
      · dsimp only
        rw [lk_cons, if_neg (hd' d rfl)]; exact h
      · injection hd' with hd'; subst hd'
        rw [put_getD a d _ hds, if_pos rfl]
      · injection hd' with hd'; subst hd'; exact hdn
    · exact hp.elim
end Go.Vw
