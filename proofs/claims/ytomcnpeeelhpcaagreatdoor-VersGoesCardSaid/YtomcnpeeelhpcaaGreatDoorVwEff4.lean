/-
  The same: maps written and struck, texts turned to bytes, appends.
-/
import Derived.Test.YtomcnpeeelhpcaaGreatDoorVwEff3
namespace Go.Vw
open Go
variable {cx : Cx} {h₀ : Heap} {w₀ w w' : World} {s : St} {β : Nat → Nat} {a : Act} {o : Oper} {K : EV → St → Prop}

theorem keyThatStays_int {P : Program} (w : World) (k : IntKind) (n : Int) : (Instr.keyThatStays (.int k n) (.int k n)).run P w = .ok (.int k n) w := by
  simp [Instr.keyThatStays, Instr.sameBits]
theorem keyThatStays_str {P : Program} (w : World) (s : ByteArray) : (Instr.keyThatStays (.string s) (.string s)).run P w = .ok (.string s) w := by
  have : (s == s) = true := by rw [beq_toListBytes]; simp
  simp [Instr.keyThatStays, Instr.sameBits, this]

theorem mapIs_obj {h : Heap} {r : Nat} {kt vt : Ty} {kvs : List (kt.T × vt.T)} (hm : mapIs h (some r) kt vt kvs) : ∃ es clock, h r = some (.map es clock) ∧ es.toList.map (fun e => (e.key, e.val)) = kvs.map (fun p => (kt.v p.1, vt.v p.2)) := hm
/-- What an update of a map, written out, comes to. -/
theorem isKey_int {ik : IntKind} {vt : Ty} {es : List MapEntry} {kvs : List ((Ty.int ik).T × vt.T)} (he : es.map (fun e => (e.key, e.val)) = kvs.map (fun p => ((Ty.int ik).v p.1, vt.v p.2))) : ∀ x ∈ es, MapKept.IsKey (.int ik) x.key := by
  intro x hx
  have : (x.key, x.val) ∈ kvs.map (fun p => ((Ty.int ik).v p.1, vt.v p.2)) := by rw [← he]; exact List.mem_map.2 ⟨x, hx, rfl⟩
  obtain ⟨q, _, hq⟩ := List.mem_map.1 this
  injection hq with h1 _
  rw [← h1]
  exact rfl
theorem isKey_str {vt : Ty} {es : List MapEntry} {kvs : List (Ty.str.T × vt.T)} (he : es.map (fun e => (e.key, e.val)) = kvs.map (fun p => (Ty.str.v p.1, vt.v p.2))) : ∀ x ∈ es, MapKept.IsKey .string x.key := by
  intro x hx
  have : (x.key, x.val) ∈ kvs.map (fun p => (Ty.str.v p.1, vt.v p.2)) := by rw [← he]; exact List.mem_map.2 ⟨x, hx, rfl⟩
  obtain ⟨q, _, hq⟩ := List.mem_map.1 this
  injection hq with h1 _
  rw [← h1]
  exact trivial
theorem update_run (rs : Rs cx h₀ w₀ s β a w) {t kt vt : TypeId} {d : TypeDesc} (hu : cx.P.underlying t = some (.map kt vt)) (hk : cx.P.underlying kt = some d) {r : Nat} {es : Array MapEntry} {c : Nat} (hb : s.h r = some (.map es c)) {kv xv : Value}
    (hck : (Instr.checkKey false 10000 kt kv).run cx.P w = .ok () w) (hkey : (Instr.keyThatStays kv kv).run cx.P w = .ok kv w) (hkk : MapKept.IsKey d kv) (hks : ∀ x ∈ es.toList, MapKept.IsKey d x.key) {l' : List (Value × Value)} (hl' : ∀ p ∈ l', vok p.1 = true ∧ vok p.2 = true)
    (hfind : (∃ j v, Instr.findNow d kv es.toList 0 = some (some (j, v)) ∧ j < es.toList.length ∧ (es.toList[j]?).map (·.key) = some kv ∧ (es.toList.modify j fun (e : MapEntry) => { e with key := kv, val := xv }).map (fun e => (e.key, e.val)) = l') ∨
      (Instr.findNow d kv es.toList 0 = some none ∧ ∀ b, (es.toList ++ [({ key := kv, val := xv, born := b } : MapEntry)]).map (fun e => (e.key, e.val)) = l')) :
    ∃ es' c' w', (Instr.mapUpdate t (.map (some r)) kv xv).run cx.P w = .ok () w' ∧ es'.toList.map (fun e => (e.key, e.val)) = l' ∧ Rs cx h₀ w₀ { s with h := s.h.set r (.map es' c') } β a w' ∧ Ext s β { s with h := s.h.set r (.map es' c') } β := by
  rcases hfind with ⟨j, v, hf, hj, hkj, hl⟩ | ⟨hf, hl⟩
  · have hfk := findKey_run (P := cx.P) w hk hf
    have hm : (es.modify j fun (e : MapEntry) => { e with key := kv, val := xv }).toList = es.toList.modify j fun (e : MapEntry) => { e with key := kv, val := xv } := by simp
    obtain ⟨w', h1, h2, h3⟩ := putObj_rs (P := cx.P) (es' := es.modify j fun (e : MapEntry) => { e with key := kv, val := xv }) (c' := c) rs hb (MapKept.stamped_modify (rs.kn.hw _ _ _ hb) _ _ (fun _ _ => rfl) (fun e _ hje => by rw [← Array.getElem?_toList] at hje; rw [hje] at hkj; injection hkj with hkj; exact hkj.symm))
    refine ⟨_, c, w', ?_, by rw [hm]; exact hl, h2, h3⟩
    have hkg : ((es[j]?).map (·.key)).getD kv = kv := by
      rw [← Array.getElem?_toList, hkj]; rfl
    unfold Instr.mapUpdate
    simp only [Sem.run_bind, underlying_run w hu, Result.andThen_ok, map_get rs.kn.rel hb, hck, hfk, hkg, hkey]
    exact h1
  · have hfk := findKey_run (P := cx.P) w hk hf
    have hm : (es.push { key := kv, val := xv, born := c }).toList = es.toList ++ [{ key := kv, val := xv, born := c }] := by simp
    obtain ⟨w', h1, h2, h3⟩ := putObj_rs (P := cx.P) (es' := es.push { key := kv, val := xv, born := c }) (c' := c + 1) rs hb (MapKept.stamped_push (rs.kn.hw _ _ _ hb) (by
      rcases MapKept.findNow_spec hkk es.toList 0 hks with ⟨_, h⟩ | ⟨j, e, h, _⟩
      · exact h
      · rw [hf] at h; cases h))
    refine ⟨_, c + 1, w', ?_, by rw [hm]; exact hl c, h2, h3⟩
    unfold Instr.mapUpdate
    simp only [Sem.run_bind, underlying_run w hu, Result.andThen_ok, map_get rs.kn.rel hb, hck, hfk]
    exact h1

theorem eff_mapUpdate {t : TypeId} {m k x : Operand} (ho : o.op = .mapUpdate t m k x) (rs : Rs cx h₀ w₀ s β a w) (hp : evE cx o s K) : Did cx h₀ w₀ o s β a w K := by
  unfold evE at hp
  rw [ho] at hp
  simp only at hp
  split at hp
  · rename_i kt vt hu
    split at hp
    · rename_i m' ke xe hm hk hx
      obtain ⟨hmv, _⟩ := rs.get hm
      obtain ⟨hkv, hkok⟩ := rs.get hk
      obtain ⟨hxv, hxok⟩ := rs.get hx
      simp only [cz] at hmv
      obtain ⟨s1, hK1, rs1, ex1, env1, ok1, _⟩ := matE_sound rs hkok hp
      obtain ⟨s2, hK2, rs2, ex2, env2, ok2, _⟩ := matE_sound rs1 (okE_mono ex1.len hxok) hK1
      have fin : ∀ (r : Nat) (es' : Array MapEntry) (c' : Nat) (w' : World), m' = some r → (Instr.mapUpdate t (.map (some r)) (cz β ke) (cz β xe)).run cx.P w = .ok () w' → Rs cx h₀ w₀ { s2 with h := s2.h.set r (.map es' c') } β a w' →
          Ext s2 β { s2 with h := s2.h.set r (.map es' c') } β → K (.v undef) { s2 with h := s2.h.set r (.map es' c') } → Did cx h₀ w₀ o s β a w K := by
        intro r es' c' w' hr hrun h1 h2 hK
        refine ⟨_, _, _, _, hK, h1, (ex1.trans ex2).trans h2, env2.trans env1, rfl, .inr ⟨?_, rfl⟩⟩
        rw [hr] at hmv
        simp only [execOp, ho, hmv, hkv, hxv, Sem.run_bind, hrun]
        rfl
      split at hK2
      · rename_i ik v ik' n ik'' hkt hvt hkval huk
        split at hK2
        · rename_i hc
          obtain ⟨he1, he2⟩ := hc
          subst he1; subst he2
          obtain ⟨r, kvs, hr, hmap, y, hy, hK⟩ := hK2
          subst hr
          obtain ⟨es, c, hb, he⟩ := mapIs_obj hmap
          have hokl : ∀ p ∈ (kPut (.int ik'') kvs n y).map (fun p => ((Ty.int ik'').v p.1, v.v p.2)), vok p.1 = true ∧ vok p.2 = true := by
            intro p hp
            obtain ⟨q, hq, rfl⟩ := List.mem_map.1 hp
            exact ⟨rfl, vok_val (cx.ok _ _ hvt) _⟩
          rw [hkval] at fin
          have hfind := put_int (ik := ik'') (vt := v) n y es.toList kvs 0 he
          obtain ⟨es', c', w', hrun, hl, h1, h2⟩ := update_run (kv := .int ik'' n) (xv := cz β xe) rs2 hu huk hb (checkKey_int w huk false) (keyThatStays_int w ik'' n) rfl (isKey_int he) hokl (by
            rw [hy]
            rcases hfind with ⟨j, v', g1, g2, g3, g4, _⟩ | ⟨g1, g2, _⟩
            · exact .inl ⟨j, v', by simpa using g1, g2, g3, g4⟩
            · exact .inr ⟨g1, g2⟩)
          exact fin r es' c' w' rfl hrun h1 h2 (hK es' c' hl)
        · exact hK2.elim
      · rename_i v b hkt hvt hkval huk
        obtain ⟨r, kvs, hr, hmap, y, hy, hK⟩ := hK2
        subst hr
        obtain ⟨es, c, hb, he⟩ := mapIs_obj hmap
        have hokl : ∀ p ∈ (kPut .str kvs b.data.toList y).map (fun p => (Ty.str.v p.1, v.v p.2)), vok p.1 = true ∧ vok p.2 = true := by
          intro p hp
          obtain ⟨q, hq, rfl⟩ := List.mem_map.1 hp
          exact ⟨rfl, vok_val (cx.ok _ _ hvt) _⟩
        rw [hkval] at fin
        have hfind := put_str (vt := v) b y es.toList kvs 0 he
        obtain ⟨es', c', w', hrun, hl, h1, h2⟩ := update_run (kv := .string b) (xv := cz β xe) rs2 hu huk hb (checkKey_str w huk false) (keyThatStays_str w b) trivial (isKey_str he) hokl (by
          rw [hy]
          rcases hfind with ⟨j, v', g1, g2, g3, g4, _⟩ | ⟨g1, g2, _⟩
          · exact .inl ⟨j, v', by simpa using g1, g2, g3, g4⟩
          · exact .inr ⟨g1, g2⟩)
        exact fin r es' c' w' rfl hrun h1 h2 (hK es' c' hl)
      · exact hK2.elim
    · exact hp.elim
  · exact hp.elim

theorem delete_run (rs : Rs cx h₀ w₀ s β a w) {t kt vt : TypeId} {d : TypeDesc} (hu : cx.P.underlying t = some (.map kt vt)) (hk : cx.P.underlying kt = some d) {r : Nat} {es : Array MapEntry} {c : Nat} (hb : s.h r = some (.map es c)) {kv : Value} {ts : List TypeId} {ty : TypeId}
    (hck : ∀ b, (Instr.checkKey b 10000 kt kv).run cx.P w = .ok () w) {l' : List (Value × Value)} (hl' : ∀ p ∈ l', vok p.1 = true ∧ vok p.2 = true)
    (hfind : (∃ j v, Instr.findNow d kv es.toList 0 = some (some (j, v)) ∧ (es.toList.eraseIdx j).map (fun e => (e.key, e.val)) = l') ∨
      (Instr.findNow d kv es.toList 0 = some none ∧ es.toList.map (fun e => (e.key, e.val)) = l')) :
    ∃ es' c' w', (Builtin.delete_ ⟨t :: ts⟩ ty ⟨[.map (some r), kv]⟩).run cx.P w = .ok (.tuple #[]) w' ∧ es'.toList.map (fun e => (e.key, e.val)) = l' ∧ Rs cx h₀ w₀ { s with h := s.h.set r (.map es' c') } β a w' ∧ Ext s β { s with h := s.h.set r (.map es' c') } β := by
  rcases hfind with ⟨j, v, hf, hl⟩ | ⟨hf, hl⟩
  · have hfk := findKey_run (P := cx.P) w hk hf
    have hm : (es.eraseIdxIfInBounds j).toList = es.toList.eraseIdx j := by simp
    obtain ⟨w', h1, h2, h3⟩ := putObj_rs (P := cx.P) (es' := es.eraseIdxIfInBounds j) (c' := c) rs hb (MapKept.stamped_erase (rs.kn.hw _ _ _ hb) _)
    refine ⟨_, c, w', ?_, by rw [hm]; exact hl, h2, h3⟩
    simp [Builtin.delete_, underlying_run w hu, map_get rs.kn.rel hb, hck, hfk, h1]
  · have hfk := findKey_run (P := cx.P) w hk hf
    obtain ⟨w', h1, h2, h3⟩ := putObj_rs (P := cx.P) (es' := es) (c' := c) rs hb (rs.kn.hw _ _ _ hb)
    refine ⟨_, c, w', ?_, hl, h2, h3⟩
    simp [Builtin.delete_, underlying_run w hu, map_get rs.kn.rel hb, hck, hfk, h1]

theorem eff_delete {args : Array Operand} {argTypes : Array TypeId} (ho : o.op = .call { callee := .builtin .delete, args, argTypes }) (rs : Rs cx h₀ w₀ s β a w) (hp : evE cx o s K) : Did cx h₀ w₀ o s β a w K := by
  obtain ⟨args⟩ := args
  obtain ⟨argTypes⟩ := argTypes
  unfold evE at hp
  rw [ho] at hp
  simp only at hp
  split at hp
  · rename_i m k t ts
    split at hp
    · rename_i kt vt hu
      have fin : ∀ (r : Nat) (kv : Value) (es' : Array MapEntry) (c' : Nat) (w' : World), a.eval m = .map (some r) → a.eval k = kv → (Builtin.delete_ ⟨t :: ts⟩ o.type ⟨[.map (some r), kv]⟩).run cx.P w = .ok (.tuple #[]) w' →
          Rs cx h₀ w₀ { s with h := s.h.set r (.map es' c') } β a w' → Ext s β { s with h := s.h.set r (.map es' c') } β → K (.v (.tuple #[])) { s with h := s.h.set r (.map es' c') } → Did cx h₀ w₀ o s β a w K := by
        intro r kv es' c' w' hm hk hrun h1 h2 hK
        refine ⟨_, _, _, _, hK, h1, h2, rfl, rfl, .inl ?_⟩
        simp [execOp, ho, resolve, invoke, builtin, hm, hk, hrun, cz]
      split at hp
      · rename_i m' ik' n ik v ik'' hm hk hkt hvt huk
        obtain ⟨hmv, _⟩ := rs.get hm
        obtain ⟨hkv, _⟩ := rs.get hk
        simp only [cz] at hmv hkv
        split at hp
        · rename_i hc
          obtain ⟨he1, he2⟩ := hc
          subst he1; subst he2
          obtain ⟨r, kvs, hr, hmap, hK⟩ := hp
          subst hr
          obtain ⟨es, c, hb, he⟩ := mapIs_obj hmap
          have hokl : ∀ p ∈ (kDel (.int ik'') kvs n).map (fun p => ((Ty.int ik'').v p.1, v.v p.2)), vok p.1 = true ∧ vok p.2 = true := by
            intro p hp
            obtain ⟨q, hq, rfl⟩ := List.mem_map.1 hp
            exact ⟨rfl, vok_val (cx.ok _ _ hvt) _⟩
          rcases kvs with _ | ⟨p0, kvs0⟩
          · have hes : es.toList = [] := by simpa using he
            obtain ⟨es', c', w', hrun, hl, h1, h2⟩ := delete_run (kv := .int ik'' n) (ts := ts) (ty := o.type) (l' := []) rs hu huk hb (fun b => checkKey_int w huk b) (by simp) (.inr ⟨by rw [hes]; rfl, by rw [hes]; rfl⟩)
            exact fin r _ es' c' w' hmv hkv hrun h1 h2 (hK es' c' hl)
          · have hfind := put_int (ik := ik'') (vt := v) n p0.2 es.toList (p0 :: kvs0) 0 he
            obtain ⟨es', c', w', hrun, hl, h1, h2⟩ := delete_run (kv := .int ik'' n) (ts := ts) (ty := o.type) rs hu huk hb (fun b => checkKey_int w huk b) hokl (by
              rcases hfind with ⟨j, v', g1, g2, g3, _, g5⟩ | ⟨g1, _, g3⟩
              · exact .inl ⟨j, v', by simpa using g1, g5⟩
              · exact .inr ⟨g1, g3⟩)
            exact fin r _ es' c' w' hmv hkv hrun h1 h2 (hK es' c' hl)
        · exact hp.elim
      · rename_i m' b v hm hk hkt hvt huk
        obtain ⟨hmv, _⟩ := rs.get hm
        obtain ⟨hkv, _⟩ := rs.get hk
        simp only [cz] at hmv hkv
        obtain ⟨r, kvs, hr, hmap, hK⟩ := hp
        subst hr
        obtain ⟨es, c, hb, he⟩ := mapIs_obj hmap
        have hokl : ∀ p ∈ (kDel .str kvs b.data.toList).map (fun p => (Ty.str.v p.1, v.v p.2)), vok p.1 = true ∧ vok p.2 = true := by
          intro p hp
          obtain ⟨q, hq, rfl⟩ := List.mem_map.1 hp
          exact ⟨rfl, vok_val (cx.ok _ _ hvt) _⟩
        rcases kvs with _ | ⟨p0, kvs0⟩
        · have hes : es.toList = [] := by simpa using he
          obtain ⟨es', c', w', hrun, hl, h1, h2⟩ := delete_run (kv := .string b) (ts := ts) (ty := o.type) (l' := []) rs hu huk hb (fun b' => checkKey_str w huk b') (by simp) (.inr ⟨by rw [hes]; rfl, by rw [hes]; rfl⟩)
          exact fin r _ es' c' w' hmv hkv hrun h1 h2 (hK es' c' hl)
        · have hfind := put_str (vt := v) b p0.2 es.toList (p0 :: kvs0) 0 he
          obtain ⟨es', c', w', hrun, hl, h1, h2⟩ := delete_run (kv := .string b) (ts := ts) (ty := o.type) rs hu huk hb (fun b' => checkKey_str w huk b') hokl (by
            rcases hfind with ⟨j, v', g1, g2, g3, _, g5⟩ | ⟨g1, _, g3⟩
            · exact .inl ⟨j, v', by simpa using g1, g5⟩
            · exact .inr ⟨g1, g3⟩)
          exact fin r _ es' c' w' hmv hkv hrun h1 h2 (hK es' c' hl)
      · exact hp.elim
    · exact hp.elim
  · exact hp.elim
end Go.Vw
