/-
  The same: rows made, maps written, texts turned to bytes.
-/
import Derived.Test.YtomcnpeeelhpcaaGreatDoorVwEff2
namespace Go.Vw
open Go
variable {cx : Cx} {h₀ : Heap} {w₀ w w' : World} {s : St} {β : Nat → Nat} {a : Act} {o : Oper} {K : EV → St → Prop}

theorem eff_makeSlice {t : TypeId} {l c : Operand} (ho : o.op = .makeSlice t l c) (rs : Rs cx h₀ w₀ s β a w) (hp : evE cx o s K) : Did cx h₀ w₀ o s β a w K := by
  unfold evE at hp
  rw [ho] at hp
  simp only at hp
  split at hp
  · rename_i e hu
    split at hp
    · rename_i ei hei
      split at hp
      · rename_i ez n m hez hl hc
        split at hp
        · rename_i hzl hzv
          obtain ⟨⟨hn0, hnm, hby⟩, hm, hK⟩ := hp
          have hl1 := (rs.get hl).1
          have hc1 := (rs.get hc).1
          simp only [cz] at hl1 hc1
          have hzl' : (cellsL ez).length = ei.size := Nat.eq_of_beq_eq_true hzl
          obtain ⟨h1, h2, h3⟩ := newBlk_rs (o := .cells ⟨(List.replicate m.toNat (cellsL ez)).flatten⟩ e (0, 0)) rs trivial
          refine ⟨_, _, _, _, hK _ h3, h1, h2, rfl, rfl, .inl ?_⟩
          have hz0 : (cx.P.info? e).bind (·.zero) = some ez := by rw [hei]; exact hez
          have hsz : (⟨cellsL ez⟩ : Array Value).size = ei.size := by simpa using hzl'
          have harr : (Array.range (m.toNat * ei.size)).map (fun k => (⟨cellsL ez⟩ : Array Value)[k % (⟨cellsL ez⟩ : Array Value).size]!) = ⟨(List.replicate m.toNat (cellsL ez)).flatten⟩ := by
            apply Array.ext'
            rw [Array.toList_map, Array.toList_range, hsz, ← hzl']
            exact rep_range _ _
          have w1 : IntKind.i64.wrap m = m := wrap_id (by omega) hm
          have w2 : IntKind.i64.wrap n = n := wrap_id hn0 (by omega)
          have hcond : ((m < 0 || (ei.bytes : Int) * m > 2 ^ 48) || n < 0 || n > m) = false := by
            simp only [Bool.or_eq_false_iff, decide_eq_false_iff_not]
            refine ⟨⟨⟨by omega, by omega⟩, by omega⟩, by omega⟩
          by_cases h0 : m.toNat * ei.size = 0
          · have hemp : (List.replicate m.toNat (cellsL ez)).flatten = [] := by
              have := rep_range (cellsL ez) m.toNat
              rw [hzl', h0] at this
              rw [← this]; rfl
            simp only [execOp, ho, hl1, hc1, Instr.makeSlice, Sem.run_bind, underlying_run w hu, Result.andThen_ok, asInt, asIntOf, Sem.run_pure, typeInfo_run w hei, sizeOf_run w hei, w1, w2, run_askRoom]
            rw [if_neg (by rw [hcond]; simp)]
            simp [h0, newRow, cz, hemp, sizeOf_run w hei]
            congr 2
            apply Array.ext'; simp
          · simp only [execOp, ho, hl1, hc1, Instr.makeSlice, Sem.run_bind, underlying_run w hu, Result.andThen_ok, asInt, asIntOf, Sem.run_pure, typeInfo_run w hei, sizeOf_run w hei, w1, w2, run_askRoom]
            rw [if_neg (by rw [hcond]; simp)]
            simp only [Sem.run_bind, Result.andThen_ok, run_askRoom, sizeOf_run w hei, Sem.run_ite, if_neg h0, zeroValue_run w hz0, Sem.run_pure, cells_arr]
            rw [harr]
            simp [newRow, cz]
        · exact hp.elim
      · exact hp.elim
    · exact hp.elim
  · exact hp.elim

/-- Where a map's entry is, and what putting one does. -/
theorem put_int {ik : IntKind} {vt : Ty} (n : Int) (y : vt.T) : ∀ (es : List MapEntry) (kvs : List ((Ty.int ik).T × vt.T)) (i : Nat),
    es.map (fun e => (e.key, e.val)) = kvs.map (fun p => ((Ty.int ik).v p.1, vt.v p.2)) →
    (∃ j v, Instr.findNow (.int ik) (.int ik n) es i = some (some (i + j, v)) ∧ j < es.length ∧ (es[j]?).map (·.key) = some (.int ik n) ∧
      (es.modify j fun (e : MapEntry) => { e with key := .int ik n, val := vt.v y }).map (fun e => (e.key, e.val)) = (kPut (.int ik) kvs n y).map (fun p => ((Ty.int ik).v p.1, vt.v p.2)) ∧
      (es.eraseIdx j).map (fun e => (e.key, e.val)) = (kDel (.int ik) kvs n).map (fun p => ((Ty.int ik).v p.1, vt.v p.2))) ∨
    (Instr.findNow (.int ik) (.int ik n) es i = some none ∧ (∀ b, (es ++ [({ key := .int ik n, val := vt.v y, born := b } : MapEntry)]).map (fun e => (e.key, e.val)) = (kPut (.int ik) kvs n y).map (fun p => ((Ty.int ik).v p.1, vt.v p.2))) ∧
      es.map (fun e => (e.key, e.val)) = (kDel (.int ik) kvs n).map (fun p => ((Ty.int ik).v p.1, vt.v p.2)))
  | [], [], i, _ => .inr ⟨rfl, fun b => rfl, rfl⟩
  | [], _ :: _, i, h => by simp at h
  | _ :: _, [], i, h => by simp at h
  | e :: es, p :: kvs, i, h => by
    simp only [List.map_cons, List.cons.injEq, Prod.mk.injEq] at h
    obtain ⟨⟨h1, h2⟩, h3⟩ := h
    simp only [Instr.findNow, h1, Ty.v, Instr.sameNow, if_true, kPut, kDel, kEq]
    by_cases hnp : n = p.1
    · have : (n == p.1) = true := by simpa using hnp
      simp only [this, if_true]
      refine .inl ⟨0, e.val, rfl, by simp, by simp [h1, hnp], ?_, ?_⟩
      · simp [h3]
      · simpa using h3
    · have : (n == p.1) = false := by simpa using hnp
      simp only [this, Bool.false_eq_true, if_false]
      rcases put_int n y es kvs (i + 1) h3 with ⟨j, v, g1, g2, g3, g4, g5⟩ | ⟨g1, g2, g3⟩
      · refine .inl ⟨j + 1, v, by rw [g1]; congr 3; omega, by simp; omega, by simpa using g3, ?_, ?_⟩
        · simp only [List.modify_succ_cons, List.map_cons, g4, h1, h2]
        · simp only [List.eraseIdx_cons_succ, List.map_cons, g5, h1, h2]
      · exact .inr ⟨g1, fun b => by simp only [List.cons_append, List.map_cons, g2 b, h1, h2], by simp only [List.map_cons, g3, h1, h2]⟩
theorem put_str {vt : Ty} (s : ByteArray) (y : vt.T) : ∀ (es : List MapEntry) (kvs : List (Ty.str.T × vt.T)) (i : Nat),
    es.map (fun e => (e.key, e.val)) = kvs.map (fun p => (Ty.str.v p.1, vt.v p.2)) →
    (∃ j v, Instr.findNow .string (.string s) es i = some (some (i + j, v)) ∧ j < es.length ∧ (es[j]?).map (·.key) = some (.string s) ∧
      (es.modify j fun (e : MapEntry) => { e with key := .string s, val := vt.v y }).map (fun e => (e.key, e.val)) = (kPut .str kvs s.data.toList y).map (fun p => (Ty.str.v p.1, vt.v p.2)) ∧
      (es.eraseIdx j).map (fun e => (e.key, e.val)) = (kDel .str kvs s.data.toList).map (fun p => (Ty.str.v p.1, vt.v p.2))) ∨
    (Instr.findNow .string (.string s) es i = some none ∧ (∀ b, (es ++ [({ key := .string s, val := vt.v y, born := b } : MapEntry)]).map (fun e => (e.key, e.val)) = (kPut .str kvs s.data.toList y).map (fun p => (Ty.str.v p.1, vt.v p.2))) ∧
      es.map (fun e => (e.key, e.val)) = (kDel .str kvs s.data.toList).map (fun p => (Ty.str.v p.1, vt.v p.2)))
  | [], [], i, _ => .inr ⟨rfl, fun b => rfl, rfl⟩
  | [], _ :: _, i, h => by simp at h
  | _ :: _, [], i, h => by simp at h
  | e :: es, p :: kvs, i, h => by
    simp only [List.map_cons, List.cons.injEq, Prod.mk.injEq] at h
    obtain ⟨⟨h1, h2⟩, h3⟩ := h
    have hbe : (s == (⟨⟨p.1⟩⟩ : ByteArray)) = (s.data.toList == p.1) := by
      rw [beq_toListBytes, ByteArray.toList_eq, ByteArray.toList_eq]
    simp only [Instr.findNow, h1, Ty.v, Instr.sameNow, kPut, kDel, kEq, hbe]
    by_cases hnp : s.data.toList = p.1
    · have : (s.data.toList == p.1) = true := by simpa using hnp
      simp only [this, if_true]
      have hs : Value.string s = S p.1 := by rw [← hnp]
      refine .inl ⟨0, e.val, rfl, by simp, by simp [h1, hs], ?_, ?_⟩
      · simp only [List.modify_zero_cons, List.map_cons, h3]
      · simpa using h3
    · have : (s.data.toList == p.1) = false := by simpa using hnp
      simp only [this, Bool.false_eq_true, if_false]
      rcases put_str s y es kvs (i + 1) h3 with ⟨j, v, g1, g2, g3, g4, g5⟩ | ⟨g1, g2, g3⟩
      · refine .inl ⟨j + 1, v, by rw [g1]; congr 3; omega, by simp; omega, by simpa using g3, ?_, ?_⟩
        · simp only [List.modify_succ_cons, List.map_cons, g4, h1, h2]
        · simp only [List.eraseIdx_cons_succ, List.map_cons, g5, h1, h2]
      · exact .inr ⟨g1, fun b => by simp only [List.cons_append, List.map_cons, g2 b, h1, h2], by simp only [List.map_cons, g3, h1, h2]⟩

theorem but_setObj (w : World) (r : Nat) (o : Obj) : But w { w with heap := w.heap.setIfInBounds r o } r :=
  ⟨rfl, rfl, rfl, by simp, fun k hk => by simp [Array.getElem?_setIfInBounds, Ne.symm hk]⟩
theorem setObj_run {P : Program} {h : Heap} {w : World} (hr : Rel h w) {r : Nat} {es : Array MapEntry} {c : Nat} (hb : h r = some (.map es c)) (o : Obj) :
    (setObj r o).run P w = .ok () { w with heap := w.heap.setIfInBounds r o } ∧ ({ w with heap := w.heap.setIfInBounds r o } : World).heap[r]? = some o := by
  have hw := hr _ _ hb
  have hlt := rel_lt hr hb
  refine ⟨by simp [setObj, Sem.run, hw], ?_⟩
  show (w.heap.setIfInBounds r o)[r]? = some o
  simp [Array.getElem?_setIfInBounds, hlt]
/-- What is written back into a map: its object. -/
theorem putObj_rs {P : Program} (rs : Rs cx h₀ w₀ s β a w) {r : Nat} {es es' : Array MapEntry} {c c' : Nat} (hb : s.h r = some (.map es c)) (ho : okObj (.map es' c')) :
    ∃ w', (setObj r (.map es' c')).run P w = .ok () w' ∧ Rs cx h₀ w₀ { s with h := s.h.set r (.map es' c') } β a w' ∧ Ext s β { s with h := s.h.set r (.map es' c') } β := by
  obtain ⟨h1, h2⟩ := setObj_run (P := P) rs.kn.rel hb (.map es' c')
  obtain ⟨h3, h4⟩ := setBlk_rs rs hb ho (but_setObj w r _) h2
  exact ⟨_, h1, h3, h4⟩
/-- Entries that read as typed pairs are fit to stand in a map. -/
theorem entries_ok {es : List MapEntry} {l : List (Value × Value)} (he : es.map (fun e => (e.key, e.val)) = l) (hl : ∀ p ∈ l, vok p.1 = true ∧ vok p.2 = true) : ∀ e ∈ es, vok e.key = true ∧ vok e.val = true := by
  intro e hem
  have : (e.key, e.val) ∈ l := by rw [← he]; exact List.mem_map.2 ⟨e, hem, rfl⟩
  exact hl _ this
theorem kPut_mem (kt : Ty) {β : Type} : ∀ (kvs : List (kt.T × β)) (k : kt.T) (y : β) (p : kt.T × β), p ∈ kPut kt kvs k y → p ∈ kvs ∨ p = (k, y)
  | [], k, y, p, h => by simp [kPut] at h; exact .inr h
  | q :: r, k, y, p, h => by
    simp only [kPut] at h
    split at h
    · rcases List.mem_cons.1 h with e | e
      · exact .inr e
      · exact .inl (by simp [e])
    · rcases List.mem_cons.1 h with e | e
      · exact .inl (by simp [e])
      · rcases kPut_mem kt r k y p e with e | e
        · exact .inl (by simp [e])
        · exact .inr e
theorem kDel_mem (kt : Ty) {β : Type} : ∀ (kvs : List (kt.T × β)) (k : kt.T) (p : kt.T × β), p ∈ kDel kt kvs k → p ∈ kvs
  | [], k, p, h => by simp [kDel] at h
  | q :: r, k, p, h => by
    simp only [kDel] at h
    split at h
    · simp [h]
    · rcases List.mem_cons.1 h with e | e
      · simp [e]
      · simp [kDel_mem kt r k p e]
end Go.Vw
