/-
  Whole functions: what 'evF' says of a function holds of its calls.
-/
import Derived.Test.YtomcnpeeelhpcaaGreatDoorVwWp
namespace Go.Vw
open Go
variable {cx : Cx} {h₀ : Heap} {w₀ w w' : World} {s : St} {β : Nat → Nat} {a : Act}

def resOne (tmps : Array Value) : ResultVar → Sem Value
  | .tmp t => pure (tmps.getD t undef)
  | .cell a t => do loadVar t (← asAddr (tmps.getD a undef))
theorem vok_of_vokR {v : Value} (h : vokR v = true) (hn : ∀ vs, v ≠ .tuple vs) : vok v = true := by
  cases v <;> first | exact h | exact absurd rfl (hn _)

theorem retL_sound : ∀ (l : List ResultVar) {s : St} {K : List Value → St → Prop}, Rs cx h₀ w₀ s β a w → retL cx s l K →
    ∃ s' vs, K vs s' ∧ Rs cx h₀ w₀ s' β a w ∧ Ext s β s' β ∧ (l.mapM (resOne a.tmps)).run cx.P w = .ok vs w ∧ ∀ v ∈ vs, vok v = true
  | [], s, K, rs, h => ⟨s, [], h, rs, Ext.refl _ _, by simp, fun v hv => by simp at hv⟩
  | .tmp t :: r, s, K, rs, h => by
    simp only [retL] at h
    split at h
    · rename_i e he
      obtain ⟨h1, h2⟩ := rs.env t e he
      obtain ⟨s1, hK1, rs1, ex1, env1, ok1, _⟩ := matE_sound rs h2 h
      have hn : ∀ vs, cz β e ≠ .tuple vs := fun vs hv => by rw [hv] at hK1; exact hK1
      have hK2 : retL cx s1 r fun vs s'' => K (cz β e :: vs) s'' := by
        generalize cz β e = v at hK1 hn ⊢
        cases v <;> first | exact hK1 | exact absurd rfl (hn _)
      obtain ⟨s2, vs, hK3, rs2, ex2, hrun, hok⟩ := retL_sound r rs1 hK2
      refine ⟨s2, cz β e :: vs, hK3, rs2, ex1.trans ex2, ?_, fun v hv => ?_⟩
      · simp only [List.mapM_cons, Sem.run_bind, resOne, Sem.run_pure, Result.andThen_ok, hrun, h1]
      · rcases List.mem_cons.1 hv with e | e
        · subst e; exact vok_of_vokR ok1 hn
        · exact hok v e
    · exact h.elim
  | .cell t ty :: r, s, K, rs, h => by
    simp only [retL] at h
    obtain ⟨e, hm, hok, hrun⟩ := prSound (o := ⟨none, .load ty (.tmp t), 0, "", #[], none⟩) rs.ok h
    have hr := hrun β w a.eval rs.kn.mat (fun _ => rs.kn) (fun x _ v hv => (rs.get hv).1)
    obtain ⟨s1, hK1, rs1, ex1, env1, ok1, _⟩ := matE_sound rs hok hm
    have hn : ∀ vs, cz β e ≠ .tuple vs := fun vs hv => by rw [hv] at hK1; exact hK1
    have hK2 : retL cx s1 r fun vs s'' => K (cz β e :: vs) s'' := by
      generalize cz β e = v at hK1 hn ⊢
      cases v <;> first | exact hK1 | exact absurd rfl (hn _)
    obtain ⟨s2, vs, hK3, rs2, ex2, hrun2, hok2⟩ := retL_sound r rs1 hK2
    have hload : (resOne a.tmps (.cell t ty)).run cx.P w = .ok (cz β e) w := by
      simp only [execOp, Sem.run_bind, Instr.loadAt, Act.eval] at hr
      unfold resOne
      refine (fun (key : ∀ v0, a.tmps.getD t undef = v0 → (do loadVar ty (← asAddr v0) : Sem Value).run cx.P w = .ok (cz β e) w) => key _ rfl) ?_
      intro v0 hv
      rw [hv] at hr
      cases v0 with
      | pointer p =>
        cases p with
        | none => simp [Instr.sureAddr] at hr
        | some ad =>
          simp only [Instr.sureAddr, Sem.run_pure, Result.andThen_ok] at hr
          simp only [Sem.run_bind, asAddr, Sem.run_pure, Result.andThen_ok]
          cases hl : (loadVar ty ad).run cx.P w with
          | ok v w2 =>
            rw [hl] at hr
            simp only [Result.andThen_ok] at hr
            injection hr with h1 h2
            injection h1 with h1
            rw [h1, h2]
          | halt x w2 => rw [hl] at hr; simp at hr
      | _ => simp [Instr.sureAddr] at hr
    refine ⟨s2, cz β e :: vs, hK3, rs2, ex1.trans ex2, ?_, fun v hv => ?_⟩
    · simp only [List.mapM_cons, Sem.run_bind, hload, Result.andThen_ok, hrun2, Sem.run_pure]
    · rcases List.mem_cons.1 hv with e | e
      · subst e; exact vok_of_vokR ok1 hn
      · exact hok2 v e

theorem results_eq (fn : Func) (tmps : Array Value) : results fn tmps = (fn.results.mapM (resOne tmps) >>= fun vs => pure (if h : vs.size = 1 then vs[0] else .tuple vs)) := by
  unfold results
  congr 1

theorem retV_sound {fn : Func} {Q : Value → Heap → Prop} (rs : Rs cx h₀ w₀ s β a w) (h : retV cx fn s Q) :
    ∃ v h', (results fn a.tmps).run cx.P w = .ok v w ∧ Rel h' w ∧ HW h' ∧ vokR v = true ∧ Fr h₀ w₀ h' w ∧ Q v h' := by
  unfold retV at h
  obtain ⟨s', vs, hK, rs', ex, hrun, hok⟩ := retL_sound _ rs h
  have hr : (fn.results.mapM (resOne a.tmps)).run cx.P w = .ok ⟨vs⟩ w := by
    rw [Array.mapM_eq_mapM_toList]
    simp [hrun]
  rw [results_eq]
  simp only [Sem.run_bind, hr, Result.andThen_ok, Sem.run_pure]
  split at hK
  · rename_i v
    exact ⟨v, s'.h, by simp, rs'.kn.rel, rs'.kn.hw, vokR_of_vok (hok v (by simp)), rs'.fr, hK⟩
  · rename_i hne
    have hsz : ¬ (⟨vs⟩ : Array Value).size = 1 := by
      intro h1
      rcases vs with _ | ⟨x, r⟩
      · simp at h1
      · rcases r with _ | ⟨y, r⟩
        · exact hne x rfl
        · simp at h1
    refine ⟨.tuple ⟨vs⟩, s'.h, by rw [dif_neg hsz], rs'.kn.rel, rs'.kn.hw, ?_, rs'.fr, hK⟩
    exact List.all_eq_true.2 hok

theorem argsE_lk : ∀ (args : List Value) (i t : Nat) (e : EV), lk (argsE i args) t = some e → ∃ v, args[t - i]? = some v ∧ e = .v v ∧ i ≤ t
  | [], i, t, e, h => by simp [argsE, lk] at h
  | v :: r, i, t, e, h => by
    simp only [argsE] at h
    rw [lk_cons] at h
    split at h
    · rename_i ht
      injection h with h; subst h
      exact ⟨v, by simp [ht], rfl, by omega⟩
    · obtain ⟨u, h1, h2, h3⟩ := argsE_lk r (i + 1) t e h
      refine ⟨u, ?_, h2, by omega⟩
      rw [show t - i = (t - (i + 1)) + 1 by omega]
      simpa using h1

theorem evF_sound {P : Program} {τ : TypeId → Option Ty} {ok : TOk τ} (hD : ∀ N, Drawn ⟨P, τ, N, ok⟩) {f : FuncId} {an : An} {args : List Value} {h : Heap} {Q : Value → Heap → Prop} (hev : evF P τ ok f an args h Q) : Spec P f args h Q := by
  intro hw hok w hrel
  unfold evF at hev
  split at hev
  · rename_i fn hfn
    split at hev
    · rename_i c hb
      let cx : Cx := ⟨P, τ, max fn.ntmps args.length, ok⟩
      refine calls_of_wp hfn hb ?_
      have rs : Rs cx h w ⟨argsE 0 args, [], h, []⟩ (fun _ => 0) { tmps := (⟨args⟩ : Array Value) ++ Array.replicate (fn.ntmps - (⟨args⟩ : Array Value).size) undef, defers := [] } w :=
        ⟨by simp [cx]; omega, rfl, fun t e he => by
          obtain ⟨v, h1, h2, _⟩ := argsE_lk args 0 t e he
          subst h2
          rw [Nat.sub_zero] at h1
          have hlt := lt_of_some h1
          refine ⟨?_, hok v (List.mem_of_getElem? h1)⟩
          show Array.getD _ t undef = v
          rw [Array.getD_eq_getD_getElem?, Array.getElem?_append_left (by simpa using hlt)]
          have : (⟨args⟩ : Array Value)[t]? = some v := by simpa using h1
          rw [this]; rfl,
         ⟨hrel, fun i c e hi => by simp at hi, fun i c e hi => by simp at hi, fun i j ci ei cj ej hi => by simp at hi, fun i b hi => by simp at hi, hw⟩, Fr.refl _ _, fun i c e hi => by simp at hi⟩
      refine Code.wp_mono ?_ (evC_sound (hD _) c an _ _ _ w _ hev rs)
      intro e a' w' hq
      cases e with
      | normal =>
        obtain ⟨s', β', hK, rs', ex', same'⟩ := hq
        obtain ⟨v, h', h1, h2, h3, h4, h5, h6⟩ := retV_sound rs' hK
        exact ⟨rs'.defers, v, h1, v, h', rfl, h2, h3, h4, h5, h6⟩
      | ret =>
        obtain ⟨s', β', hK, rs', ex', same'⟩ := hq
        obtain ⟨v, h', h1, h2, h3, h4, h5, h6⟩ := retV_sound rs' hK
        exact ⟨rs'.defers, v, h1, v, h', rfl, h2, h3, h4, h5, h6⟩
      | exit i =>
        obtain ⟨s', β', hK, _⟩ := hq
        exact hK.elim
      | goto l => exact hq.elim
      | panic c => exact hq.elim
      | outgrown => exact hq.elim
    · exact hev.elim
  · exact hev.elim
end Go.Vw
