/-
  All operations that compute or read, in one.
-/
import Derived.Test.YtomcnpeeelhpcaaGreatDoorVwPr4
namespace Go.Vw
open Go
variable {cx : Cx} {o : Oper} {g : Operand → Option EV} {h : Heap} {L : List LC} {K : EV → Prop}

theorem pr_len {args : Array Operand} {argTypes : Array TypeId} (ho : o.op = .call { callee := .builtin .len, args, argTypes }) (ok : Ok g h L) (hp : prOp cx (.call { callee := .builtin .len, args, argTypes }) g h L K) : ∃ e, K e ∧ Yld cx o g h L e := by
  obtain ⟨args⟩ := args
  obtain ⟨argTypes⟩ := argTypes
  simp only [prOp] at hp
  split at hp
  · rename_i t x
    split at hp
    · rename_i s hu hx
      refine ⟨_, hp, rfl, fun β w ρ mt kn hρ => ?_⟩
      have h1 := hρ x (by rw [ho]; simp [Op.operands, Call.operands]) _ hx
      simp [execOp, ho, resolve, invoke, builtin, Builtin.len_, h1, cz, underlying_run w hu, goInt]
    · rename_i n e e' hu hx
      refine ⟨_, hp, rfl, fun β w ρ mt kn hρ => ?_⟩
      simp [execOp, ho, resolve, invoke, builtin, Builtin.len_, cz, underlying_run w hu, goInt]
    · rename_i e a n c hu hx
      refine ⟨_, hp, rfl, fun β w ρ mt kn hρ => ?_⟩
      have h1 := hρ x (by rw [ho]; simp [Op.operands, Call.operands]) _ hx
      simp [execOp, ho, resolve, invoke, builtin, Builtin.len_, h1, cz, underlying_run w hu, goInt]
    · rename_i e i of n c hu hx
      refine ⟨_, hp, rfl, fun β w ρ mt kn hρ => ?_⟩
      have h1 := hρ x (by rw [ho]; simp [Op.operands, Call.operands]) _ hx
      simp [execOp, ho, resolve, invoke, builtin, Builtin.len_, h1, cz, underlying_run w hu, goInt]
    · exact hp.elim
  · exact hp.elim
theorem pr_minmax {b : Builtin} (hb : b = .min ∨ b = .max) {args : Array Operand} {argTypes : Array TypeId} (ho : o.op = .call { callee := .builtin b, args, argTypes }) (ok : Ok g h L) (hp : prOp cx (.call { callee := .builtin b, args, argTypes }) g h L K) : ∃ e, K e ∧ Yld cx o g h L e := by
  obtain ⟨args⟩ := args
  rcases hb with rfl | rfl
  all_goals
    simp only [prOp] at hp
    split at hp
    · rename_i x y
      split at hp
      · rename_i k a k' b hx hy
        split at hp
        · rename_i hk
          subst hk
          refine ⟨_, hp, rfl, fun β w ρ mt kn hρ => ?_⟩
          have h1 := hρ x (by rw [ho]; simp [Op.operands, Call.operands]) _ hx
          have h2 := hρ y (by rw [ho]; simp [Op.operands, Call.operands]) _ hy
          simp [execOp, ho, resolve, invoke, builtin, Builtin.min_, Builtin.max_, Builtin.min2, Builtin.max2, h1, h2, cz]
        · exact hp.elim
      · exact hp.elim
    · exact hp.elim

theorem pr_toArray {arr : TypeId} {x : Operand} (ho : o.op = .sliceToArrayPointer arr x) (ok : Ok g h L) (hp : prOp cx (.sliceToArrayPointer arr x) g h L K) : ∃ e, K e ∧ Yld cx o g h L e := by
  simp only [prOp] at hp
  split at hp
  · rename_i n e p len cap hu hx
    obtain ⟨hle, a, rfl, hK⟩ := hp
    refine ⟨_, hK, rfl, fun β w ρ mt kn hρ => ?_⟩
    have h1 := hρ x (by rw [ho]; simp [Op.operands]) _ hx
    simp [execOp, ho, h1, cz, Instr.arrayAt, underlying_run w hu, Nat.not_lt.2 hle]
  · exact hp.elim

theorem prSound (ok : Ok g h L) (hp : prOp cx o.op g h L K) : ∃ e, K e ∧ Yld cx o g h L e := by
  cases ho : o.op with
  | move x => exact pr_move x (.inl ho) ok (by rw [ho] at hp; exact hp)
  | assign x => exact pr_move x (.inr ho) ok (by rw [ho] at hp; exact hp)
  | pick c a b => exact pr_pick ho ok (by rw [ho] at hp; exact hp)
  | nilCheck x => exact pr_nilCheck ho ok (by rw [ho] at hp; exact hp)
  | fieldAddr s x f => exact pr_fieldAddr ho ok (by rw [ho] at hp; exact hp)
  | field s x f => exact pr_field ho ok (by rw [ho] at hp; exact hp)
  | indexAddr s x f => exact pr_indexAddr ho ok (by rw [ho] at hp; exact hp)
  | index s x f => exact pr_index ho ok (by rw [ho] at hp; exact hp)
  | slice s x l u m => exact pr_slice ho ok (by rw [ho] at hp; exact hp)
  | binOp op t x y u => exact pr_binOp ho ok (by rw [ho] at hp; exact hp)
  | unOp op t x => exact pr_unOp ho ok (by rw [ho] at hp; exact hp)
  | convert s d x => exact pr_convert ho ok (by rw [ho] at hp; exact hp)
  | makeInterface t x => exact pr_makeInterface ho ok (by rw [ho] at hp; exact hp)
  | extract x i => exact pr_extract ho ok (by rw [ho] at hp; exact hp)
  | build t ps => exact pr_build ho ok (by rw [ho] at hp; exact hp)
  | sliceToArrayPointer t x => exact pr_toArray ho ok (by rw [ho] at hp; exact hp)
  | load t x => exact pr_load ho ok (by rw [ho] at hp; exact hp)
  | lookup t m k c => exact pr_lookup ho ok (by rw [ho] at hp; exact hp)
  | call c =>
    obtain ⟨ce, args, argTypes⟩ := c
    rw [ho] at hp
    cases ce with
    | builtin b =>
      cases b with
      | len => exact pr_len ho ok hp
      | min => exact pr_minmax (.inl rfl) ho ok hp
      | max => exact pr_minmax (.inr rfl) ho ok hp
      | _ => exact hp.elim
    | value f => exact hp.elim
    | invoke r m => exact hp.elim
  | _ => rw [ho] at hp; exact hp.elim
end Go.Vw
