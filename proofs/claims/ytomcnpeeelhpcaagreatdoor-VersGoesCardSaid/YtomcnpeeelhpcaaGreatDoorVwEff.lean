/-
  Operations that change memory: what the calculus says of them holds of the model. Blocks made, stores, maps made.
-/
import Derived.Test.YtomcnpeeelhpcaaGreatDoorVwStep
namespace Go.Vw
open Go
variable {cx : Cx} {h₀ : Heap} {w₀ w w' : World} {s : St} {β : Nat → Nat} {a : Act} {o : Oper} {K : EV → St → Prop}

def Did (cx : Cx) (h₀ : Heap) (w₀ : World) (o : Oper) (s : St) (β : Nat → Nat) (a : Act) (w : World) (K : EV → St → Prop) : Prop :=
  ∃ e s' β' w', K e s' ∧ Rs cx h₀ w₀ s' β' a w' ∧ Ext s β s' β' ∧ s'.env = s.env ∧ okE s'.loc.length e ∧
    ((execOp a.eval o).run cx.P w = .ok (.value (cz β' e)) w' ∨ ((execOp a.eval o).run cx.P w = .ok .skip w' ∧ e = .v undef))

theorem cells_one {v : Value} (hv : vokR v = true) (hn : ∀ vs, v ≠ .tuple vs) : ∀ x ∈ cellsL v, one x = true := by
  cases v <;> first | (exact fun x hx => by simp at hx; subst hx; rfl) | exact List.all_eq_true.1 hv | exact absurd rfl (hn _)
theorem vok_cells {v : Value} (hv : vok v = true) : ∀ x ∈ cellsL v, one x = true :=
  cells_one (vokR_of_vok hv) (by rintro vs rfl; cases hv)
theorem cells_arr (v : Value) : v.cells = ⟨cellsL v⟩ := by
  apply Array.ext'; exact cells_toList v

theorem eff_alloc {t : TypeId} (ho : o.op = .alloc t) (rs : Rs cx h₀ w₀ s β a w) (hp : evE cx o s K) : Did cx h₀ w₀ o s β a w K := by
  unfold evE at hp
  rw [ho] at hp
  simp only at hp
  split at hp
  · rename_i z hz
    split at hp
    · rename_i hv
      obtain ⟨h1, h2⟩ := newLoc_rs rs (cellsL z) t (vok_cells hv)
      refine ⟨_, _, _, _, hp, h1, h2, rfl, by simp [okE], .inl ?_⟩
      simp [execOp, ho, Instr.alloc, zeroValue_run w hz, newVar, newRow, cells_arr, cz]
    · exact hp.elim
  · exact hp.elim

theorem eff_box {t : TypeId} {x : Operand} (ho : o.op = .box t x) (rs : Rs cx h₀ w₀ s β a w) (hp : evE cx o s K) : Did cx h₀ w₀ o s β a w K := by
  unfold evE at hp
  rw [ho] at hp
  simp only at hp
  split at hp
  · rename_i e he
    obtain ⟨hx, hok⟩ := rs.get he
    obtain ⟨s1, hK, rs1, ex1, env1, ok1, _⟩ := matE_sound rs hok hp
    have hne : ∀ vs, cz β e ≠ .tuple vs := by
      intro vs hvs
      rw [hvs] at hK; exact hK
    have hK' : K (.loc s1.loc.length 0 false) { s1 with loc := s1.loc ++ [.live (cellsL (cz β e)) t] } := by
      generalize cz β e = v at hK hne ⊢
      cases v <;> first | exact hK | exact absurd rfl (hne _)
    obtain ⟨h1, h2⟩ := newLoc_rs rs1 (cellsL (cz β e)) t (cells_one ok1 hne)
    refine ⟨_, _, _, _, hK', h1, ex1.trans h2, env1, by simp [okE], .inl ?_⟩
    simp [execOp, ho, Instr.box, hx, newVar, newRow, cells_arr, cz]
  · exact hp.elim

theorem rep_range (z : List Value) : ∀ n, (List.range (n * z.length)).map (fun k => (⟨z⟩ : Array Value)[k % z.length]!) = (List.replicate n z).flatten
  | 0 => by simp
  | n + 1 => by
    rw [Nat.succ_mul, List.range_add, List.map_append, rep_range z n, List.map_map, List.replicate_succ', List.flatten_append]
    congr 1
    simp only [List.flatten_cons, List.flatten_nil, List.append_nil]
    apply List.ext_getElem?
    intro i
    rcases Nat.lt_or_ge i z.length with hi | hi
    · rw [List.getElem?_map, List.getElem?_range hi]
      simp only [Option.map_some, Function.comp_def]
      rw [Nat.mul_comm, Nat.mul_add_mod, Nat.mod_eq_of_lt hi, List.getElem?_eq_getElem hi]
      simp [getElem!_pos, hi]
    · rw [List.getElem?_eq_none (by simpa using hi), List.getElem?_eq_none hi]
theorem flat_one {z : List Value} (hz : ∀ x ∈ z, one x = true) (n : Nat) : ∀ x ∈ (List.replicate n z).flatten, one x = true := by
  intro x hx
  simp only [List.mem_flatten, List.mem_replicate] at hx
  obtain ⟨l, ⟨_, rfl⟩, hx⟩ := hx
  exact hz x hx

theorem eff_buildSlice {t : TypeId} {n : Nat} {parts : Array (Nat × Operand)} (ho : o.op = .buildSlice t n parts) (rs : Rs cx h₀ w₀ s β a w) (hp : evE cx o s K) : Did cx h₀ w₀ o s β a w K := by
  unfold evE at hp
  rw [ho] at hp
  simp only at hp
  obtain ⟨s1, hK, rs1, ex1, env1⟩ := matO_sound _ rs hp
  split at hK
  · rename_i e hu
    split at hK
    · rename_i ei ps hei hps
      split at hK
      · rename_i ez hez hpo hle
        split at hK
        · rename_i hzl hzv
          split at hK
          · rename_i hnt
            have hzl' : (cellsL ez).length = ei.size := Nat.eq_of_beq_eq_true hzl
            have hl := partsV_mem s1.loc (getE s1) parts.toList ps hps a.eval β rs1.kn.mat (fun x hx v hv => (rs1.get hv).1)
            have hcs : (List.range (n * ei.size)).map (fun k => (⟨cellsL ez⟩ : Array Value)[k % ei.size]!) = (List.replicate n (cellsL ez)).flatten := by
              rw [← hzl']; exact rep_range _ n
            obtain ⟨c, hK, hfill⟩ := fill_row (cs := ⟨(List.replicate n (cellsL ez)).flatten⟩) hpo hzl' hK rfl
            have hone : ∀ x ∈ c, one x = true :=
              fill_one _ ps ⟨(List.replicate n (cellsL ez)).flatten⟩ ⟨c⟩ (flat_one (vok_cells hzv) n) (fun i v hv => ⟨partsV_ok (fun x e h => (rs1.get h).2) _ ps hps i v hv, noTuple_mem ps hnt i v hv⟩) hfill
            obtain ⟨h1, h2⟩ := newLoc_rs rs1 c e hone
            refine ⟨_, _, _, _, hK, h1, ex1.trans h2, env1, by simp [okE], .inl ?_⟩
            have hle' : ¬ (n * ei.size > 2 ^ 24) := by
              have := Nat.le_of_ble_eq_true hle
              omega
            have e2 : (parts.map fun (p : Nat × Operand) => (p.1, a.eval p.2)).toList = ps := by rw [Array.toList_map]; exact hl
            have hz0 : (cx.P.info? e).bind (·.zero) = some ez := by rw [hei]; exact hez
            have hsz : (⟨cellsL ez⟩ : Array Value).size = ei.size := by simpa using hzl'
            have harr : (Array.range (n * ei.size)).map (fun k => (⟨cellsL ez⟩ : Array Value)[k % (⟨cellsL ez⟩ : Array Value).size]!) = ⟨(List.replicate n (cellsL ez)).flatten⟩ := by
              apply Array.ext'
              rw [Array.toList_map, Array.toList_range, hsz]
              exact hcs
            by_cases h0 : n * ei.size = 0
            · have hemp : (List.replicate n (cellsL ez)).flatten = [] := by
                rw [← hcs, h0]; rfl
              have harr0 : (Array.range (n * ei.size)).map (fun k => (#[] : Array Value)[k % (#[] : Array Value).size]!) = ⟨(List.replicate n (cellsL ez)).flatten⟩ := by
                rw [hemp, h0]; simp
              simp only [execOp, ho, Instr.buildSlice, Sem.run_bind, underlying_run w hu, Result.andThen_ok, sizeOf_run w hei, Sem.run_ite, if_neg hle', h0, if_true, Sem.run_pure]
              rw [h0] at harr0
              rw [harr0]
              simp only [Array.toList_map] at e2
              rw [Array.toList_map, e2, hfill]
              simp [newRow, cz]
            · simp only [execOp, ho, Instr.buildSlice, Sem.run_bind, underlying_run w hu, Result.andThen_ok, sizeOf_run w hei, Sem.run_ite, if_neg hle', h0, if_false, zeroValue_run w hz0, Sem.run_pure, cells_arr]
              rw [harr, Array.toList_map]
              rw [Array.toList_map] at e2
              rw [e2, hfill]
              simp [newRow, cz]
          · exact hK.elim
        · exact hK.elim
      · exact hK.elim
    · exact hK.elim
  · exact hK.elim
end Go.Vw
