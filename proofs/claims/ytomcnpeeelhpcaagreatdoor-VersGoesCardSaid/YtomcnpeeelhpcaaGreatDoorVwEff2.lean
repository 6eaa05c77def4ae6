/-
  The same: stores, maps and rows made, function values.
-/
import Derived.Test.YtomcnpeeelhpcaaGreatDoorVwEff
namespace Go.Vw
open Go
variable {cx : Cx} {h₀ : Heap} {w₀ w w' : World} {s : St} {β : Nat → Nat} {a : Act} {o : Oper} {K : EV → St → Prop}

theorem storeVar_run {P : Program} {t : TypeId} {ti : TypeInfo} (hti : P.info? t = some ti) {v : Value} (hlen : (cellsL v).length = ti.size) {p : Addr} {w' : World}
    (hs : (storeCells p (cellsL v)).run P w = .ok () w') : (storeVar t p v).run P w = .ok () w' := by
  have hsz : v.cells.size = ti.size := by rw [cells_arr]; simpa using hlen
  unfold storeVar
  simp only [Sem.run_bind, sizeOf_run w hti, Result.andThen_ok]
  rw [if_neg (by rw [hsz]; simp), cells_arr]
  exact hs
theorem splice_set {c : List Value} {off : Nat} (h : off < c.length) (v : Value) : splice c off [v] = c.set off v := by
  simp only [splice, List.length_singleton, List.set_eq_take_append_cons_drop, if_pos h]
  simp
theorem storeM_spec {h : Heap} {p : Addr} {size : Nat} {v : Value} {K : Heap → Prop} (hs : storeM h p size v K) : (∀ vs, v ≠ .tuple vs) ∧ (cellsL v).length = size ∧ ∃ h', wr h p (cellsL v) = some h' ∧ K h' := by
  cases v with
  | tuple vs => exact hs.elim
  | agg vs => exact ⟨by simp, hs.1, hs.2⟩
  | _ =>
    simp only [storeM] at hs
    split at hs
    · rename_i hb
      exact ⟨by simp, (Nat.eq_of_beq_eq_true hb).symm, hs⟩
    · exact hs.elim
theorem storeL_spec {c : List Value} {off size : Nat} {whole dyn : Bool} {v : Value} {K : List Value → Prop} (hw : whole = true → off = 0) (hs : storeL c off whole dyn size v K) :
    (∀ vs, v ≠ .tuple vs) ∧ (cellsL v).length = size ∧ off + (cellsL v).length ≤ c.length ∧ K (splice c off (cellsL v)) := by
  cases v with
  | tuple vs => exact hs.elim
  | agg vs =>
    simp only [storeL] at hs
    split at hs
    · obtain ⟨⟨h1, h2⟩, hK⟩ := hs
      have h0 := hw rfl
      subst h0
      refine ⟨by simp, h1, by show 0 + vs.toList.length ≤ _; omega, ?_⟩
      have : splice c 0 vs.toList = vs.toList := by
        simp only [splice, List.take_zero, List.nil_append, Nat.zero_add]
        rw [List.drop_eq_nil_of_le (by omega), List.append_nil]
      show K (splice c 0 vs.toList)
      rw [this]; exact hK
    · obtain ⟨⟨h1, h2⟩, hK⟩ := hs
      exact ⟨by simp, h1, h2, hK⟩
  | _ =>
    simp only [storeL] at hs
    split at hs
    · rename_i hb
      split at hs
      · rename_i u hu
        have hlt := lt_of_some hu
        exact ⟨by simp, (Nat.eq_of_beq_eq_true hb).symm, hlt, by rw [show cellsL _ = [_] from rfl, splice_set hlt]; exact hs⟩
      · exact hs.elim
    · rename_i hb
      exact ⟨by simp, (Nat.eq_of_beq_eq_true hb).symm, hs.1, by rw [show cellsL _ = [_] from rfl, splice_set hs.1]; exact hs.2⟩
    · exact hs.elim

theorem eff_store {t : TypeId} {ad x : Operand} (ho : o.op = .store t ad x) (rs : Rs cx h₀ w₀ s β a w) (hp : evE cx o s K) : Did cx h₀ w₀ o s β a w K := by
  unfold evE at hp
  rw [ho] at hp
  simp only at hp
  split at hp
  · rename_i e he
    obtain ⟨hx, hok⟩ := rs.get he
    obtain ⟨s1, hK, rs1, ex1, env1, ok1, _⟩ := matE_sound rs hok hp
    split at hK
    · rename_i ti hti
      have finH : ∀ (p : Addr), a.eval ad = .pointer (some p) → storeM s1.h p ti.size (cz β e) (fun h' => K (.v undef) { s1 with h := h' }) → Did cx h₀ w₀ o s β a w K := by
        intro p had hst
        obtain ⟨hnt, hlen, h', hwr, hK⟩ := storeM_spec hst
        obtain ⟨w', hrun, h1, h2⟩ := wr_run (P := cx.P) rs1 hwr (cells_one ok1 hnt)
        refine ⟨_, _, _, _, hK, h1, ex1.trans h2, env1, rfl, .inr ⟨?_, rfl⟩⟩
        simp [execOp, ho, hx, had, Instr.storeAt, Instr.sureAddr, storeVar_run hti hlen hrun]
      split at hK
      · rename_i i off d had
        have hadv := (rs1.get had).1
        simp only [cz] at hadv
        split at hK
        · rename_i c et hi
          obtain ⟨hnt, hlen, hle, hK⟩ := storeL_spec (fun hw => by
            rw [Bool.and_eq_true] at hw
            exact Nat.eq_of_beq_eq_true hw.1) hK
          obtain ⟨w', hrun, h1, h2⟩ := wrL_run (P := cx.P) rs1 hi hle (cells_one ok1 hnt)
          refine ⟨_, _, _, _, hK, h1, ex1.trans h2, env1, rfl, .inr ⟨?_, rfl⟩⟩
          simp [execOp, ho, hx, hadv, Instr.storeAt, Instr.sureAddr, storeVar_run hti hlen hrun]
        · rename_i b hi
          exact finH _ (by rw [hadv, rs1.kn.mat _ _ hi]) hK
        · exact hK.elim
      · rename_i p had
        have hadv := (rs1.get had).1
        simp only [cz] at hadv
        exact finH p hadv hK
      · exact hK.elim
    · exact hK.elim
  · exact hp.elim

theorem eff_makeMap {t : TypeId} {r : Option Operand} (ho : o.op = .makeMap t r) (rs : Rs cx h₀ w₀ s β a w) (hp : evE cx o s K) : Did cx h₀ w₀ o s β a w K := by
  unfold evE at hp
  rw [ho] at hp
  cases r with
  | some r => exact hp.elim
  | none =>
    simp only at hp
    split at hp
    · rename_i kt vt hu
      obtain ⟨h1, h2, h3⟩ := newBlk_rs (o := .map #[] 0) rs (MapKept.stamped_empty 0)
      refine ⟨_, _, _, _, hp _ h3, h1, h2, rfl, rfl, .inl ?_⟩
      simp [execOp, ho, Instr.makeMap, cz]
    · exact hp.elim

theorem eff_makeFunc {fn : Fn} {first captured : Array Operand} (ho : o.op = .makeFunc fn first captured) (rs : Rs cx h₀ w₀ s β a w) (hp : evE cx o s K) : Did cx h₀ w₀ o s β a w K := by
  unfold evE at hp
  rw [ho] at hp
  simp only at hp
  obtain ⟨s1, hK1, rs1, ex1, env1, _⟩ := matL_sound _ rs hp
  obtain ⟨s2, hK2, rs2, ex2, env2, _⟩ := matL_sound _ rs1 hK1
  refine ⟨_, _, _, _, hK2, rs2, ex1.trans ex2, env2.trans env1, rfl, .inl ?_⟩
  have e1 : first.map a.eval = ⟨first.toList.map a.eval⟩ := by apply Array.ext'; simp
  have e2 : captured.map a.eval = ⟨captured.toList.map a.eval⟩ := by apply Array.ext'; simp
  simp only [execOp, ho, Instr.makeFunc, e1, e2, cz]
  rfl

theorem wrap_id {n : Int} (h0 : 0 ≤ n) (h : n ≤ 9223372036854775807) : IntKind.i64.wrap n = n := by
  have e : IntKind.i64.wrap n = if (n % 18446744073709551616) ≥ 9223372036854775808 then n % 18446744073709551616 - 18446744073709551616 else n % 18446744073709551616 := by
    simp [IntKind.wrap, IntKind.signed, IntKind.bits]
  rw [e, if_neg (by omega)]
  omega
end Go.Vw
