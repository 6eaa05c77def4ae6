/-
  What the calculus says of operations that compute or read holds of the model.
-/
import Derived.Laws.BytesString
import Derived.Laws.Tables
import Derived.Test.YtomcnpeeelhpcaaGreatDoorVwBin
namespace Go.Vw
open Go

/-- Locals that are no longer in hiding lie where they are told to. -/
def Mt (L : List LC) (β : Nat → Nat) : Prop := ∀ (i b : Nat), L[i]? = some (LC.mat b) → β i = b
/-- An operation answers e, wherever what is known holds and its operands stand for what they are told to be. -/
def Yld (cx : Cx) (o : Oper) (g : Operand → Option EV) (h : Heap) (L : List LC) (e : EV) : Prop :=
  okE L.length e ∧ ∀ β w ρ, Mt L β → (readsMem o.op = true → KN h L β w) → (∀ x ∈ o.op.operands, ∀ v, g x = some v → ρ x = cz β v) → (execOp ρ o).run cx.P w = .ok (.value (cz β e)) w

/-- What holds of the state, beside the world. -/
structure Ok (g : Operand → Option EV) (h : Heap) (L : List LC) : Prop where
  g : ∀ x e, g x = some e → okE L.length e
  L : ∀ (i : Nat) c e, L[i]? = some (LC.live c e) → ∀ x ∈ c, one x = true
  h : HW h

variable {cx : Cx} {o : Oper} {g : Operand → Option EV} {h : Heap} {L : List LC} {K : EV → Prop}

theorem one_tv (ty : Ty) (hs : ty.isSt = false) (x : ty.T) : one (ty.v x) = true := by
  cases ty <;> first | rfl | (simp [Ty.isSt] at hs; done) | skip
  · cases x with
    | none => rfl
    | some f => obtain ⟨t, v⟩ := f; rfl

theorem loadH_sound (_hw : HW h) {t : TypeId} {a : Addr} (hl : loadH cx h t a K) :
    ∃ v, K (.v v) ∧ vokR v = true ∧ ∀ w, Rel h w → (loadVar t a).run cx.P w = .ok v w := by
  unfold loadH at hl
  split at hl
  · exact hl.elim
  · rename_i d hd
    split at hl
    · rename_i α c s ha hτ
      split at hl
      · rename_i i hi
        obtain ⟨x, hx, hK⟩ := hl
        exact ⟨_, hK, vokR_of_vok (vok_agg (cx.ok _ _ hτ x)), fun w hr => loadVar_agg hr hd ha hi hx⟩
      · exact hl.elim
    · rename_i ty ha hτ
      split at hl
      · exact hl.elim
      · rename_i hs
        obtain ⟨x, hx, hK⟩ := hl
        exact ⟨_, hK, vokR_of_vok (vok_of_one (Ty.one_v hs x)), fun w hr => loadVar_scalar hr hd ha hx⟩
    · exact hl.elim

/-- A load out of a row of cells that stands somewhere. -/
theorem loadL_sound {c : List Value} {e : TypeId} {off : Nat} {dyn : Bool} {t : TypeId} (hc : ∀ x ∈ c, one x = true) (hl : loadL cx c e off dyn t K) :
    ∃ v, K (.v v) ∧ vokR v = true ∧ (∀ w b et, Rel (locH b c et) w → (loadVar t ⟨b, off, none⟩).run cx.P w = .ok v w) ∧ (∀ w, (part t ⟨c⟩ off).run cx.P w = .ok v w) := by
  unfold loadL at hl
  split at hl
  · exact hl.elim
  · rename_i d hd
    split at hl
    · rename_i ha
      split at hl
      · rename_i i hi
        have fin : ∀ l, sub c off i.size = some l → K (.v (.agg ⟨l⟩)) →
            ∃ v, K (.v v) ∧ vokR v = true ∧ (∀ w b et, Rel (locH b c et) w → (loadVar t ⟨b, off, none⟩).run cx.P w = .ok v w) ∧ (∀ w, (part t ⟨c⟩ off).run cx.P w = .ok v w) := by
          intro l hsub hK
          refine ⟨_, hK, vokR_of_vok (vok_agg (sub_one hc hsub)), fun w b et hr => loadVar_agg hr hd ha hi (by rw [rdn_locH]; exact hsub), fun w => ?_⟩
          unfold sub at hsub
          split at hsub
          · injection hsub with hsub
            unfold part
            simp only [Sem.run_bind, isAgg_run w hd, ha, Result.andThen_ok, if_true, sizeOf_run w hi, Sem.run_pure]
            congr 1
            rw [← hsub]
            congr 1
            apply Array.ext'
            simp
          · cases hsub
        split at hl
        · split at hl
          · obtain ⟨x, hx, hK⟩ := hl
            exact fin _ hx hK
          · exact hl.elim
        · split at hl
          · rename_i hb
            obtain ⟨hlen, hK⟩ := hl
            simp only [Bool.and_eq_true] at hb
            have h0 : off = 0 := Nat.eq_of_beq_eq_true hb.1
            subst h0
            exact fin c (by unfold sub; rw [if_pos (by omega)]; simp [hlen.symm]) hK
          · split at hl
            · obtain ⟨x, hx, hK⟩ := hl
              exact fin _ hx hK
            · exact hl.elim
      · exact hl.elim
    · rename_i ha
      have fin : ∀ v, c[off]? = some v → K (.v v) →
          ∃ v, K (.v v) ∧ vokR v = true ∧ (∀ w b et, Rel (locH b c et) w → (loadVar t ⟨b, off, none⟩).run cx.P w = .ok v w) ∧ (∀ w, (part t ⟨c⟩ off).run cx.P w = .ok v w) := by
        intro v hv hK
        refine ⟨v, hK, vokR_of_vok (vok_of_one (hc v (List.mem_of_getElem? hv))), fun w b et hr => loadVar_scalar hr hd ha (by rw [rd_locH]; exact hv), fun w => ?_⟩
        unfold part
        simp only [Sem.run_bind, isAgg_run w hd, ha, Result.andThen_ok, Bool.false_eq_true, if_false]
        have : (⟨c⟩ : Array Value)[off]? = some v := by simpa using hv
        rw [this]; rfl
      split at hl
      · split at hl
        · split at hl
          · exact hl.elim
          · obtain ⟨x, hx, hK⟩ := hl
            exact fin _ hx hK
        · exact hl.elim
      · split at hl
        · rename_i v hv
          exact fin v hv hl
        · exact hl.elim

theorem pr_move (x : Operand) (ho : o.op = .move x ∨ o.op = .assign x) (ok : Ok g h L) (hp : match g x with | some e => K e | none => False) : ∃ e, K e ∧ Yld cx o g h L e := by
  split at hp
  · rename_i e he
    refine ⟨e, hp, ok.g _ _ he, fun β w ρ mt kn hρ => ?_⟩
    rcases ho with ho | ho
    · have := hρ x (by rw [ho]; simp [Op.operands]) e he
      simp [execOp, ho, this]
    · have := hρ x (by rw [ho]; simp [Op.operands]) e he
      simp [execOp, ho, this]
  · exact hp.elim

theorem pr_pick {c a b : Operand} (ho : o.op = .pick c a b) (ok : Ok g h L) (hp : prOp cx (.pick c a b) g h L K) : ∃ e, K e ∧ Yld cx o g h L e := by
  simp only [prOp] at hp
  split at hp
  · rename_i e hc he
    refine ⟨e, hp, ok.g _ _ he, fun β w ρ mt kn hρ => ?_⟩
    have h1 := hρ c (by rw [ho]; simp [Op.operands]) _ hc
    have h2 := hρ a (by rw [ho]; simp [Op.operands]) _ he
    simp [execOp, ho, h1, h2, cz, asBool]
  · rename_i e hc he
    refine ⟨e, hp, ok.g _ _ he, fun β w ρ mt kn hρ => ?_⟩
    have h1 := hρ c (by rw [ho]; simp [Op.operands]) _ hc
    have h2 := hρ b (by rw [ho]; simp [Op.operands]) _ he
    simp [execOp, ho, h1, h2, cz, asBool]
  · rename_i t e f hc he hf
    cases t with
    | true =>
      refine ⟨e, hp.1 rfl, ok.g _ _ he, fun β w ρ mt kn hρ => ?_⟩
      have h1 := hρ c (by rw [ho]; simp [Op.operands]) _ hc
      have h2 := hρ a (by rw [ho]; simp [Op.operands]) _ he
      simp [execOp, ho, h1, h2, cz, asBool]
    | false =>
      refine ⟨f, hp.2 rfl, ok.g _ _ hf, fun β w ρ mt kn hρ => ?_⟩
      have h1 := hρ c (by rw [ho]; simp [Op.operands]) _ hc
      have h2 := hρ b (by rw [ho]; simp [Op.operands]) _ hf
      simp [execOp, ho, h1, h2, cz, asBool]
  · exact hp.elim

theorem pr_nilCheck {x : Operand} (ho : o.op = .nilCheck x) (ok : Ok g h L) (hp : prOp cx (.nilCheck x) g h L K) : ∃ e, K e ∧ Yld cx o g h L e := by
  simp only [prOp] at hp
  split at hp
  · rename_i p hx
    obtain ⟨a, rfl, hK⟩ := hp
    refine ⟨_, hK, rfl, fun β w ρ mt kn hρ => ?_⟩
    have h1 := hρ x (by rw [ho]; simp [Op.operands]) _ hx
    simp [execOp, ho, h1, cz]
  · rename_i i of d hx
    refine ⟨_, hp, ok.g _ _ hx, fun β w ρ mt kn hρ => ?_⟩
    have h1 := hρ x (by rw [ho]; simp [Op.operands]) _ hx
    simp [execOp, ho, h1, cz]
  · exact hp.elim

theorem add_mk (b o n : Nat) : (⟨b, o, none⟩ : Addr).add n = ⟨b, o + n, none⟩ := by
  unfold Addr.add; split
  · rename_i h; subst h; rfl
  · rfl

theorem pr_fieldAddr {st : TypeId} {x : Operand} {f : Nat} (ho : o.op = .fieldAddr st x f) (ok : Ok g h L) (hp : prOp cx (.fieldAddr st x f) g h L K) : ∃ e, K e ∧ Yld cx o g h L e := by
  simp only [prOp] at hp
  split at hp
  · rename_i fs hu
    split at hp
    · rename_i fd hf
      split at hp
      · rename_i fi hi
        split at hp
        · rename_i i of d hb hx
          have hne : fi.size ≠ 0 := by rintro e; rw [e] at hb; cases hb
          have hlt : i < L.length := ok.g _ _ hx
          refine ⟨_, hp, hlt, fun β w ρ mt kn hρ => ?_⟩
          have h1 := hρ x (by rw [ho]; simp [Op.operands]) _ hx
          simp [execOp, ho, h1, cz, Instr.fieldAt, underlying_run w hu, hf, Instr.sureAddr, fieldPlace, sizeOf_run w hi, hne, add_mk]
        · rename_i a hb hx
          have hne : fi.size ≠ 0 := by rintro e; rw [e] at hb; cases hb
          refine ⟨_, hp, rfl, fun β w ρ mt kn hρ => ?_⟩
          have h1 := hρ x (by rw [ho]; simp [Op.operands]) _ hx
          simp [execOp, ho, h1, cz, Instr.fieldAt, underlying_run w hu, hf, Instr.sureAddr, fieldPlace, sizeOf_run w hi, hne]
        · exact hp.elim
      · exact hp.elim
    · exact hp.elim
  · exact hp.elim

theorem aggL {v : Array Value} (hv : vokR (.agg v) = true) : ∀ x ∈ v.toList, one x = true := List.all_eq_true.1 hv

theorem pr_field {st : TypeId} {x : Operand} {f : Nat} (ho : o.op = .field st x f) (ok : Ok g h L) (hp : prOp cx (.field st x f) g h L K) : ∃ e, K e ∧ Yld cx o g h L e := by
  simp only [prOp] at hp
  split at hp
  · rename_i fs hu
    split at hp
    · rename_i fd hf
      split at hp
      · rename_i c hx
        obtain ⟨v, hK, hv, _, hrun⟩ := loadL_sound (aggL (ok.g _ _ hx)) hp
        refine ⟨_, hK, hv, fun β w ρ mt kn hρ => ?_⟩
        have h1 := hρ x (by rw [ho]; simp [Op.operands]) _ hx
        simp [execOp, ho, h1, cz, Instr.field, underlying_run w hu, hf, asAgg, hrun w]
      · exact hp.elim
    · exact hp.elim
  · exact hp.elim

theorem pr_indexAddr {t : TypeId} {x i : Operand} (ho : o.op = .indexAddr t x i) (ok : Ok g h L) (hp : prOp cx (.indexAddr t x i) g h L K) : ∃ e, K e ∧ Yld cx o g h L e := by
  simp only [prOp] at hp
  split at hp
  · rename_i k n hi
    split at hp
    · rename_i len elem j of d hu hx
      split at hp
      · rename_i ei he
        obtain ⟨hb, hK⟩ := hp
        have hlt : j < L.length := ok.g _ _ hx
        refine ⟨_, hK, hlt, fun β w ρ mt kn hρ => ?_⟩
        have h1 := hρ x (by rw [ho]; simp [Op.operands]) _ hx
        have h2 := hρ i (by rw [ho]; simp [Op.operands]) _ hi
        simp [execOp, ho, h1, h2, cz, Instr.indexAt, asIntOf, underlying_run w hu, Instr.sureAddr, hb, sizeOf_run w he, add_mk]
      · exact hp.elim
    · rename_i len elem a hu hx
      split at hp
      · rename_i ei he
        obtain ⟨hb, hK⟩ := hp
        refine ⟨_, hK, rfl, fun β w ρ mt kn hρ => ?_⟩
        have h1 := hρ x (by rw [ho]; simp [Op.operands]) _ hx
        have h2 := hρ i (by rw [ho]; simp [Op.operands]) _ hi
        simp [execOp, ho, h1, h2, cz, Instr.indexAt, asIntOf, underlying_run w hu, Instr.sureAddr, hb, sizeOf_run w he]
      · exact hp.elim
    · rename_i elem p len cap hu hx
      split at hp
      · rename_i ei he
        obtain ⟨hb, a, rfl, hK⟩ := hp
        refine ⟨_, hK, rfl, fun β w ρ mt kn hρ => ?_⟩
        have h1 := hρ x (by rw [ho]; simp [Op.operands]) _ hx
        have h2 := hρ i (by rw [ho]; simp [Op.operands]) _ hi
        simp [execOp, ho, h1, h2, cz, Instr.indexAt, asIntOf, underlying_run w hu, hb, sizeOf_run w he]
      · exact hp.elim
    · exact hp.elim
  · exact hp.elim

theorem bytes_get (s : ByteArray) (n : Nat) (b : UInt8) (hb : s.data.toList[n]? = some b) : s[n]? = some b := by
  obtain ⟨⟨l⟩⟩ := s
  simp only at hb
  have hlt : n < l.length := by
    rcases Nat.lt_or_ge n l.length with h1 | h1
    · exact h1
    · rw [List.getElem?_eq_none h1] at hb; cases hb
  have hsz : n < (⟨⟨l⟩⟩ : ByteArray).size := by simpa [ByteArray.size] using hlt
  rw [getElem?_pos (⟨⟨l⟩⟩ : ByteArray) n hsz]
  congr 1
  rw [List.getElem?_eq_getElem hlt] at hb
  injection hb with hb

theorem pr_index {t : TypeId} {x i : Operand} (ho : o.op = .index t x i) (ok : Ok g h L) (hp : prOp cx (.index t x i) g h L K) : ∃ e, K e ∧ Yld cx o g h L e := by
  simp only [prOp] at hp
  split at hp
  · rename_i k n hi
    split at hp
    · rename_i s hu hx
      obtain ⟨b, h0, hb, hK⟩ := hp
      refine ⟨_, hK, rfl, fun β w ρ mt kn hρ => ?_⟩
      have h1 := hρ x (by rw [ho]; simp [Op.operands]) _ hx
      have h2 := hρ i (by rw [ho]; simp [Op.operands]) _ hi
      simp [execOp, ho, h1, h2, cz, Instr.index, asIntOf, underlying_run w hu, h0, bytes_get s n.toNat b hb]
    · rename_i len elem c hu hx
      split at hp
      · rename_i ei he
        obtain ⟨hb, hK⟩ := hp
        obtain ⟨v, hK, hv, _, hrun⟩ := loadL_sound (aggL (ok.g _ _ hx)) hK
        refine ⟨_, hK, hv, fun β w ρ mt kn hρ => ?_⟩
        have h1 := hρ x (by rw [ho]; simp [Op.operands]) _ hx
        have h2 := hρ i (by rw [ho]; simp [Op.operands]) _ hi
        simp [execOp, ho, h1, h2, cz, Instr.index, asIntOf, underlying_run w hu, hb, sizeOf_run w he, hrun w]
      · exact hp.elim
    · exact hp.elim
  · exact hp.elim
end Go.Vw
