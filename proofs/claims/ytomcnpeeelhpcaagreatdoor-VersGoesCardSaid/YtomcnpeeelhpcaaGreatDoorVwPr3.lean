/-
  The same, of structs and arrays that are built, of maps, of what is built in; then of them all.
-/
import Derived.Test.YtomcnpeeelhpcaaGreatDoorVwPr2
namespace Go.Vw
open Go
variable {cx : Cx} {o : Oper} {g : Operand → Option EV} {h : Heap} {L : List LC} {K : EV → Prop}

/-! ### Built -/

theorem foldl_set (off : Nat) : ∀ (vs : List Value) (j : Nat) (cs : Array Value) (A X B : List Value), cs.toList = A ++ X ++ B → A.length = off + j → X.length = vs.length →
    ((vs.zipIdx j).foldl (fun cs (x : Value × Nat) => cs.setIfInBounds (off + x.2) x.1) cs).toList = A ++ vs ++ B
  | [], j, cs, A, X, B, h1, h2, h3 => by
    have : X = [] := List.eq_nil_of_length_eq_zero h3
    subst this
    simpa using h1
  | v :: vs, j, cs, A, X, B, h1, h2, h3 => by
    cases X with
    | nil => simp at h3
    | cons x X =>
      simp only [List.zipIdx_cons, List.foldl_cons]
      rw [foldl_set off vs (j + 1) _ (A ++ [v]) X B]
      · simp
      · simp only [Array.toList_setIfInBounds, h1, ← h2]
        simp
      · simp [h2]; omega
      · simpa using h3

/-- Where segment i begins. -/
def offOf : List (List Value) → Nat → Nat
  | _, 0 => 0
  | [], _ => 0
  | s :: ss, i + 1 => s.length + offOf ss i
theorem seg_split : ∀ (ss : List (List Value)) (i : Nat) (v : List Value), i < ss.length →
    ∃ A X B, ss.flatten = A ++ X ++ B ∧ A.length = offOf ss i ∧ ss[i]? = some X ∧ (ss.set i v).flatten = A ++ v ++ B
  | [], i, v, hi => by simp at hi
  | s :: ss, 0, v, hi => ⟨[], s, ss.flatten, by simp, rfl, rfl, by simp⟩
  | s :: ss, i + 1, v, hi => by
    obtain ⟨A, X, B, h1, h2, h3, h4⟩ := seg_split ss i v (by simpa using hi)
    exact ⟨s ++ A, X, B, by simp [h1], by simp [offOf, h2], by simpa using h3, by simp [h4]⟩
theorem offOf_set : ∀ (ss : List (List Value)) (i j : Nat) (v : List Value), (∀ X, ss[i]? = some X → v.length = X.length) → offOf (ss.set i v) j = offOf ss j
  | [], i, j, v, h => by simp
  | s :: ss, 0, 0, v, h => rfl
  | s :: ss, 0, j + 1, v, h => by simp [offOf, h s rfl]
  | s :: ss, i + 1, 0, v, h => rfl
  | s :: ss, i + 1, j + 1, v, h => by simp [offOf, offOf_set ss i j v (by simpa using h)]

def setAll : List (Nat × Value) → List (List Value) → List (List Value)
  | [], ss => ss
  | (i, v) :: r, ss => setAll r (ss.set i (cellsL v))
theorem cells_toList (v : Value) : v.cells.toList = cellsL v := by cases v <;> rfl
/-- What 'fill' makes: each part in the place of its segment. -/
theorem fill_segs (place : Nat → Option (Nat × Nat)) : ∀ (parts : List (Nat × Value)) (ss : List (List Value)) (cs : Array Value), cs.toList = ss.flatten →
    (∀ i v, (i, v) ∈ parts → ∃ X, ss[i]? = some X ∧ place i = some (offOf ss i, X.length) ∧ (cellsL v).length = X.length) →
    Instr.fill place cs parts = some ⟨(setAll parts ss).flatten⟩
  | [], ss, cs, hc, _ => by
    simp only [Instr.fill, setAll]
    congr 1
    apply Array.ext'
    exact hc
  | (i, v) :: r, ss, cs, hc, hp => by
    obtain ⟨X, hX, hpl, hlen⟩ := hp i v (by simp)
    have hi : i < ss.length := by
      rcases Nat.lt_or_ge i ss.length with h1 | h1
      · exact h1
      · rw [List.getElem?_eq_none h1] at hX; cases hX
    obtain ⟨A, X', B, h1, h2, h3, h4⟩ := seg_split ss i (cellsL v) hi
    rw [hX] at h3; injection h3 with h3; subst h3
    have hcs : v.cells.size = X.length := by rw [← Array.length_toList, cells_toList]; exact hlen
    have hle : ¬ (offOf ss i + v.cells.size > cs.size) := by
      rw [← Array.length_toList (xs := cs), hc, h1, hcs]
      simp only [List.length_append]
      omega
    rw [hcs] at hle
    have hcond : (decide (v.cells.size ≠ X.length) || decide (offOf ss i + v.cells.size > cs.size)) = false := by
      rw [hcs]; simp; omega
    simp only [Instr.fill, hpl, hcond, Bool.false_eq_true, if_false]
    have hset : (v.cells.zipIdx.foldl (fun cs (x : Value × Nat) => cs.setIfInBounds (offOf ss i + x.2) x.1) cs).toList = (ss.set i (cellsL v)).flatten := by
      rw [← Array.foldl_toList, Array.toList_zipIdx, cells_toList, foldl_set (offOf ss i) (cellsL v) 0 cs A X B (by rw [hc, h1]) (by simpa using h2) (by omega), h4]
    refine fill_segs place r (ss.set i (cellsL v)) _ hset (fun j u hj => ?_)
    obtain ⟨Y, hY, hplj, hlenj⟩ := hp j u (by simp [hj])
    have hoff := offOf_set ss i j (cellsL v) (fun Z hZ => by rw [hX] at hZ; injection hZ with hZ; rw [← hZ]; exact hlen)
    by_cases hji : j = i
    · subst hji
      rw [hX] at hY; injection hY with hY; subst hY
      exact ⟨cellsL v, by simp [hi], by rw [hoff, hplj, hlen], by omega⟩
    · exact ⟨Y, by rw [List.getElem?_set_ne (fun e => hji e.symm)]; exact hY, by rw [hoff]; exact hplj, hlenj⟩

theorem setAll_len : ∀ (parts : List (Nat × Value)) (ss : List (List Value)), (setAll parts ss).length = ss.length
  | [], ss => rfl
  | (i, v) :: r, ss => by simp [setAll, setAll_len r]
theorem partAt_none {r : List (Nat × Value)} {i : Nat} (h : (partAt? r i).isNone = true) : ∀ v, (i, v) ∉ r := by
  induction r with
  | nil => simp
  | cons p r ih =>
    intro v hv
    simp only [partAt?] at h
    split at h
    · cases h
    · rename_i hne
      rcases List.mem_cons.1 hv with e | e
      · rw [← e] at hne; simp at hne
      · exact ih h v e
theorem setAll_get : ∀ (parts : List (Nat × Value)) (n : Nat) (ss : List (List Value)), partsOk parts n = true → ∀ i, i < ss.length → (setAll parts ss)[i]? = match partAt? parts i with
    | some v => some (cellsL v)
    | none => ss[i]?
  | [], n, ss, _, i, hi => rfl
  | (j, v) :: r, n, ss, hp, i, hi => by
    simp only [partsOk, Bool.and_eq_true] at hp
    obtain ⟨⟨hj, hn⟩, hr⟩ := hp
    simp only [setAll, partAt?]
    rw [setAll_get r n _ hr i (by simpa using hi)]
    by_cases hji : j = i
    · subst hji
      simp only [Nat.beq_refl]
      have : partAt? r j = none := by simpa using hn
      rw [this]
      simp [hi]
    · have : Nat.beq j i = false := by
        cases hb : Nat.beq j i with
        | true => exact absurd (Nat.eq_of_beq_eq_true hb) hji
        | false => rfl
      rw [this]
      cases partAt? r i with
      | some u => rfl
      | none => simp [List.getElem?_set_ne hji]
theorem partAt_of_mem : ∀ (parts : List (Nat × Value)) (n : Nat), partsOk parts n = true → ∀ i v, (i, v) ∈ parts → partAt? parts i = some v ∧ i < n
  | [], n, _, i, v, h => by simp at h
  | p :: r, n, hp, i, v, h => by
    simp only [partsOk, Bool.and_eq_true] at hp
    obtain ⟨⟨hj, hn⟩, hr⟩ := hp
    simp only [partAt?]
    rcases List.mem_cons.1 h with e | e
    · subst e
      simp only [Nat.beq_refl]
      exact ⟨trivial, by simp [Nat.blt] at hj; omega⟩
    · obtain ⟨h1, h2⟩ := partAt_of_mem r n hr i v e
      split
      · rename_i hb
        have := Nat.eq_of_beq_eq_true hb
        subst this
        exact absurd e (partAt_none hn v)
      · exact ⟨h1, h2⟩

/-- What 'buildFields' hands on: the segments, joined. -/
theorem buildFields_spec (P : Program) (zero : List Value) (parts : List (Nat × Value)) : ∀ (fs : List Field) (i : Nat) (K : List Value → Prop), buildFields P zero parts fs i K →
    ∃ segs : List (List Value), segs.length = fs.length ∧ K segs.flatten ∧ ∀ j f, fs[j]? = some f → ∃ fi, P.info? f.type = some fi ∧
      match partAt? parts (i + j) with
      | none => segs[j]? = some ((zero.drop f.offset).take fi.size)
      | some v => segs[j]? = some (cellsL v) ∧ (cellsL v).length = fi.size
  | [], i, K, h => ⟨[], rfl, h, fun j f hf => by simp at hf⟩
  | f :: fs, i, K, h => by
    simp only [buildFields] at h
    split at h
    · exact h.elim
    · rename_i fi hfi
      have step : ∀ seg : List Value, (match partAt? parts i with
            | none => seg = (zero.drop f.offset).take fi.size
            | some v => seg = cellsL v ∧ (cellsL v).length = fi.size) → buildFields P zero parts fs (i + 1) (fun r => K (seg ++ r)) →
          ∃ segs : List (List Value), segs.length = (f :: fs).length ∧ K segs.flatten ∧ ∀ j f', (f :: fs)[j]? = some f' → ∃ fi, P.info? f'.type = some fi ∧
            match partAt? parts (i + j) with
            | none => segs[j]? = some ((zero.drop f'.offset).take fi.size)
            | some v => segs[j]? = some (cellsL v) ∧ (cellsL v).length = fi.size := by
        intro seg hseg hr
        obtain ⟨segs, hl, hK, hs⟩ := buildFields_spec P zero parts fs (i + 1) _ hr
        refine ⟨seg :: segs, by simp [hl], by simpa using hK, fun j f' hf => ?_⟩
        cases j with
        | zero =>
          simp only [List.getElem?_cons_zero, Option.some.injEq] at hf
          subst hf
          refine ⟨fi, hfi, ?_⟩
          simp only [Nat.add_zero]
          split at hseg
          · rename_i heq; rw [hseg]; rfl
          · rename_i u heq; exact ⟨by rw [hseg.1]; rfl, hseg.2⟩
        | succ j =>
          obtain ⟨fj, h1, h2⟩ := hs j f' (by simpa using hf)
          refine ⟨fj, h1, ?_⟩
          rw [show i + (j + 1) = i + 1 + j by omega]
          simpa using h2
      split at h
      · rename_i hp
        exact step _ (by rw [hp]) h
      · rename_i c hp
        exact step c.toList (by rw [hp]; exact ⟨rfl, h.1⟩) h.2
      · rename_i v hne hp
        split at h
        · rename_i hb
          have h1 : fi.size = 1 := Nat.eq_of_beq_eq_true hb
          have hc : cellsL v = [v] := by
            cases v <;> first | rfl | exact absurd rfl (hne _)
          exact step [v] (by rw [hp]; exact ⟨hc.symm, by rw [hc, h1]; rfl⟩) h
        · exact h.elim
theorem fieldsAt_segs (P : Program) (zero : List Value) : ∀ (fs : List Field) (o n : Nat), fieldsAt P fs o = some n → n ≤ zero.length → ∃ (segs : List (List Value)), segs.length = fs.length ∧
      (zero.take n).drop o = segs.flatten ∧ o ≤ n ∧ ∀ j f, fs[j]? = some f → ∃ fi, P.info? f.type = some fi ∧ segs[j]? = some ((zero.drop f.offset).take fi.size) ∧ ((zero.drop f.offset).take fi.size).length = fi.size ∧ o + offOf segs j = f.offset
  | [], o, n, h, hn => by
    simp only [fieldsAt, Option.some.injEq] at h
    subst h
    exact ⟨[], rfl, by simp, Nat.le_refl _, fun j f hf => by simp at hf⟩
  | f :: fs, o, n, h, hn => by
    simp only [fieldsAt] at h
    split at h
    · rename_i fi hfi
      split at h
      · rename_i hb
        have ho : f.offset = o := Nat.eq_of_beq_eq_true hb
        obtain ⟨segs, hl, hflat, hle, hs⟩ := fieldsAt_segs P zero fs (o + fi.size) n h hn
        have hlen : ((zero.drop f.offset).take fi.size).length = fi.size := by simp; omega
        refine ⟨(zero.drop f.offset).take fi.size :: segs, by simp [hl], ?_, by omega, fun j f' hf => ?_⟩
        · rw [List.flatten_cons, ← hflat, ho]
          have e1 : (zero.take n).drop o = ((zero.take n).drop o).take fi.size ++ ((zero.take n).drop o).drop fi.size := (List.take_append_drop _ _).symm
          rw [e1, List.drop_drop]
          congr 1
          rw [List.drop_take, List.take_take, Nat.min_eq_left (by omega)]
        · cases j with
          | zero =>
            simp only [List.getElem?_cons_zero, Option.some.injEq] at hf
            subst hf
            exact ⟨fi, hfi, rfl, hlen, by simp [offOf, ho]⟩
          | succ j =>
            obtain ⟨fj, h1, h2, h3, h4⟩ := hs j f' (by simpa using hf)
            refine ⟨fj, h1, by simpa using h2, h3, ?_⟩
            simp only [offOf, hlen]
            omega
      · cases h
    · cases h

theorem mapM_places (P : Program) : ∀ (fs : List Field), (∀ (j : Nat) (f : Field), fs[j]? = some f → ∃ fi, P.info? f.type = some fi) →
    ∃ places, fs.mapM (fun f => (P.info? f.type).map fun i => (f.offset, i.size)) = some places ∧ places.length = fs.length ∧ ∀ (j : Nat) (f : Field) (fi : TypeInfo), fs[j]? = some f → P.info? f.type = some fi → places[j]? = some (f.offset, fi.size)
  | [], _ => ⟨[], rfl, rfl, fun j f fi hf => by simp at hf⟩
  | f :: fs, h => by
    obtain ⟨fi, hfi⟩ := h 0 f rfl
    obtain ⟨places, h1, h2, h3⟩ := mapM_places P fs (fun j f hf => h (j + 1) f (by simpa using hf))
    refine ⟨(f.offset, fi.size) :: places, by simp [List.mapM_cons, hfi, h1], by simp [h2], fun j f' fi' hf hi => ?_⟩
    cases j with
    | zero =>
      simp only [List.getElem?_cons_zero, Option.some.injEq] at hf
      subst hf
      rw [hfi] at hi; injection hi with hi; subst hi; rfl
    | succ j => simpa using h3 j f' fi' (by simpa using hf) hi

theorem partsV_mem (L : List LC) (g : Operand → Option EV) : ∀ (ps : List (Nat × Operand)) (l : List (Nat × Value)), partsV L g ps = some l →
    ∀ (ρ : Operand → Value) (β : Nat → Nat), Mt L β → (∀ x ∈ ps.map (·.2), ∀ v, g x = some v → ρ x = cz β v) → ps.map (fun p => (p.1, ρ p.2)) = l
  | [], l, hl, ρ, β, mt, hρ => by simp only [partsV, Option.some.injEq] at hl; subst hl; rfl
  | (i, x) :: r, l, hl, ρ, β, mt, hρ => by
    simp only [partsV] at hl
    split at hl
    · rename_i v l' hv hr
      injection hl with hl; subst hl
      cases hg : g x with
      | none => rw [hg] at hv; cases hv
      | some e =>
        rw [hg] at hv
        have := hρ x (by simp) e hg
        rw [toV_cz mt hv] at this
        simp only [List.map_cons, this]
        rw [partsV_mem L g r l' hr ρ β mt (fun y hy => hρ y (by simp at hy ⊢; exact .inr hy))]
    · cases hl
theorem partsV_ok {g : Operand → Option EV} {n : Nat} (hg : ∀ x e, g x = some e → okE n e) : ∀ (ps : List (Nat × Operand)) (l : List (Nat × Value)), partsV L g ps = some l → ∀ i v, (i, v) ∈ l → vokR v = true
  | [], l, hl, i, v, hm => by simp only [partsV, Option.some.injEq] at hl; subst hl; simp at hm
  | (j, x) :: r, l, hl, i, v, hm => by
    simp only [partsV] at hl
    split at hl
    · rename_i u l' hv hr
      injection hl with hl; subst hl
      rcases List.mem_cons.1 hm with e | e
      · injection e with _ e; subst e
        cases hgx : g x with
        | none => rw [hgx] at hv; cases hv
        | some ev => rw [hgx] at hv; exact toV_ok (hg _ _ hgx) hv
      · exact partsV_ok hg r l' hr i v e
    · cases hl
theorem built_struct (P : Program) {t : TypeId} {ti : TypeInfo} {z : Value} {fs : Array Field} (hti : P.info? t = some ti) (hu : P.underlying t = some (.struct fs)) (hz : ti.zero = some z)
    {n : Nat} (hf : fieldsAt P fs.toList 0 = some n) (hn : n = (cellsL z).length) {ps : List (Nat × Value)} (hp : partsOk ps fs.size = true) {K : List Value → Prop}
    (hb : buildFields P (cellsL z) ps fs.toList 0 K) : ∃ c, K c ∧ P.built t ps = some ⟨c⟩ := by
  obtain ⟨zs, hzl, hzf, _, hzs⟩ := fieldsAt_segs P (cellsL z) fs.toList 0 n hf (by omega)
  obtain ⟨segs, hsl, hK, hss⟩ := buildFields_spec P (cellsL z) ps fs.toList 0 K hb
  refine ⟨segs.flatten, hK, ?_⟩
  obtain ⟨places, hm, hpl, hpg⟩ := mapM_places P fs.toList (fun j f hj => let ⟨fi, h1, _⟩ := hzs j f hj; ⟨fi, h1⟩)
  unfold Program.built
  simp only [hti, hu, hz, hm]
  have hflat : z.cells.toList = zs.flatten := by
    rw [cells_toList, ← hzf, List.drop_zero, List.take_of_length_le (by omega)]
  rw [fill_segs _ ps zs _ hflat]
  · congr 2
    have : setAll ps zs = segs := by
      apply List.ext_getElem?
      intro i
      rcases Nat.lt_or_ge i zs.length with hi | hi
      · rw [setAll_get ps _ zs hp i hi]
        have hif : i < fs.toList.length := by omega
        obtain ⟨fi, h1, h2⟩ := hss i fs.toList[i] (List.getElem?_eq_getElem hif)
        obtain ⟨fi', h1', h3, _, _⟩ := hzs i fs.toList[i] (List.getElem?_eq_getElem hif)
        rw [h1] at h1'; injection h1' with h1'; subst h1'
        rw [Nat.zero_add] at h2
        split at h2
        · rename_i heq; rw [heq, h2]; exact h3
        · rename_i heq; rw [heq, h2.1]
      · rw [List.getElem?_eq_none (by rw [setAll_len]; exact hi), List.getElem?_eq_none (by omega)]
    rw [this]
  · intro i v hv
    obtain ⟨hpa, hi⟩ := partAt_of_mem ps _ hp i v hv
    have hif : i < fs.toList.length := by simpa using hi
    obtain ⟨fi, h1, h3, h4, h5⟩ := hzs i fs.toList[i] (List.getElem?_eq_getElem hif)
    obtain ⟨fi', h1', h2⟩ := hss i fs.toList[i] (List.getElem?_eq_getElem hif)
    rw [h1] at h1'; injection h1' with h1'; subst h1'
    rw [Nat.zero_add, hpa] at h2
    refine ⟨_, h3, ?_, by rw [h2.2, h4]⟩
    rw [h4]
    have := hpg i fs.toList[i] fi (List.getElem?_eq_getElem hif) h1
    have e : places.toArray[i]? = places[i]? := by simp
    rw [e, this]
    congr 2
    omega

/-- What 'buildRow' hands on. -/
theorem buildRow_spec (size : Nat) (zero : List Value) (parts : List (Nat × Value)) : ∀ (n i : Nat) (K : List Value → Prop), buildRow size zero parts n i K →
    ∃ segs : List (List Value), segs.length = n ∧ K segs.flatten ∧ ∀ j, j < n →
      match partAt? parts (i + j) with
      | none => segs[j]? = some zero
      | some v => segs[j]? = some (cellsL v) ∧ (cellsL v).length = size
  | 0, i, K, h => ⟨[], rfl, h, fun j hj => by omega⟩
  | n + 1, i, K, h => by
    simp only [buildRow] at h
    have step : ∀ seg : List Value, (match partAt? parts i with
          | none => seg = zero
          | some v => seg = cellsL v ∧ (cellsL v).length = size) → buildRow size zero parts n (i + 1) (fun r => K (seg ++ r)) →
        ∃ segs : List (List Value), segs.length = n + 1 ∧ K segs.flatten ∧ ∀ j, j < n + 1 →
          match partAt? parts (i + j) with
          | none => segs[j]? = some zero
          | some v => segs[j]? = some (cellsL v) ∧ (cellsL v).length = size := by
      intro seg hseg hr
      obtain ⟨segs, hl, hK, hs⟩ := buildRow_spec size zero parts n (i + 1) _ hr
      refine ⟨seg :: segs, by simp [hl], by simpa using hK, fun j hj => ?_⟩
      cases j with
      | zero =>
        simp only [Nat.add_zero]
        split at hseg
        · rw [hseg]; rfl
        · exact ⟨by rw [hseg.1]; rfl, hseg.2⟩
      | succ j =>
        have := hs j (by omega)
        rw [show i + (j + 1) = i + 1 + j by omega]
        simpa using this
    split at h
    · rename_i hp
      exact step _ (by rw [hp]) h
    · rename_i c hp
      exact step c.toList (by rw [hp]; exact ⟨rfl, h.1⟩) h.2
    · rename_i v hne hp
      split at h
      · rename_i hb
        have h1 : size = 1 := Nat.eq_of_beq_eq_true hb
        have hc : cellsL v = [v] := by
          cases v <;> first | rfl | exact absurd rfl (hne _)
        exact step [v] (by rw [hp]; exact ⟨hc.symm, by rw [hc, h1]; rfl⟩) h
      · exact h.elim
theorem offOf_rep (z : List Value) : ∀ (n i : Nat), i ≤ n → offOf (List.replicate n z) i = i * z.length
  | 0, i, h => by
    have : i = 0 := by omega
    subst this; simp [offOf]
  | n + 1, 0, h => by simp [offOf]
  | n + 1, i + 1, h => by
    simp only [List.replicate_succ, offOf, offOf_rep z n i (by omega), Nat.succ_mul]
    omega
/-- Rows of equal parts, filled. -/
theorem fill_row {size n : Nat} {zero : List Value} {ps : List (Nat × Value)} (hp : partsOk ps n = true) (hz : zero.length = size) {K : List Value → Prop} (hb : buildRow size zero ps n 0 K) (cs : Array Value)
    (hcs : cs.toList = (List.replicate n zero).flatten) : ∃ c, K c ∧ Instr.fill (fun i => some (i * size, size)) cs ps = some ⟨c⟩ := by
  obtain ⟨segs, hsl, hK, hss⟩ := buildRow_spec size zero ps n 0 K hb
  refine ⟨_, hK, ?_⟩
  rw [fill_segs _ ps (List.replicate n zero) cs hcs]
  · congr 2
    have : setAll ps (List.replicate n zero) = segs := by
      apply List.ext_getElem?
      intro i
      rcases Nat.lt_or_ge i n with hi | hi
      · rw [setAll_get ps _ _ hp i (by simpa using hi)]
        have h2 := hss i hi
        rw [Nat.zero_add] at h2
        split at h2
        · rename_i heq; rw [heq, h2]; simp [hi]
        · rename_i heq; rw [heq, h2.1]
      · rw [List.getElem?_eq_none (by rw [setAll_len]; simpa using hi), List.getElem?_eq_none (by omega)]
    rw [this]
  · intro i v hv
    obtain ⟨hpa, hi⟩ := partAt_of_mem ps _ hp i v hv
    have h2 := hss i hi
    rw [Nat.zero_add, hpa] at h2
    exact ⟨zero, by simp [hi], by rw [offOf_rep zero n i (by omega), hz], by rw [h2.2, hz]⟩
theorem built_array (P : Program) {t e : TypeId} {ti ei : TypeInfo} {z ez : Value} {n : Nat} (hti : P.info? t = some ti) (hu : P.underlying t = some (.array n e)) (hz : ti.zero = some z) (hei : P.info? e = some ei)
    (hlen : (cellsL ez).length = ei.size) (hrep : cellsL z = (List.replicate n (cellsL ez)).flatten) {ps : List (Nat × Value)} (hp : partsOk ps n = true) {K : List Value → Prop}
    (hb : buildRow ei.size (cellsL ez) ps n 0 K) : ∃ c, K c ∧ P.built t ps = some ⟨c⟩ := by
  obtain ⟨c, hK, hc⟩ := fill_row hp hlen hb z.cells (by rw [cells_toList]; exact hrep)
  refine ⟨c, hK, ?_⟩
  unfold Program.built
  simp only [hti, hu, hz, hei]
  exact hc

/-- All cells of what is built are single ones. -/
theorem fill_one (place : Nat → Option (Nat × Nat)) : ∀ (ps : List (Nat × Value)) (cs c : Array Value), (∀ x ∈ cs.toList, one x = true) → (∀ i v, (i, v) ∈ ps → vokR v = true ∧ ∀ vs, v ≠ .tuple vs) → Instr.fill place cs ps = some c →
    ∀ x ∈ c.toList, one x = true
  | [], cs, c, h1, h2, h3 => by simp only [Instr.fill, Option.some.injEq] at h3; subst h3; exact h1
  | (i, v) :: r, cs, c, h1, h2, h3 => by
    simp only [Instr.fill] at h3
    split at h3
    · cases h3
    · split at h3
      · cases h3
      · refine fill_one place r _ c ?_ (fun j u hj => h2 j u (by simp [hj])) h3
        have hv : ∀ x ∈ v.cells.toList, one x = true := by
          obtain ⟨hv1, hv2⟩ := h2 i v (by simp)
          rw [cells_toList]
          cases v <;> first | (exact fun x hx => by simp at hx; subst hx; rfl) | exact List.all_eq_true.1 hv1 | exact absurd rfl (hv2 _)
        rename_i off size hpl hcond
        have key : ∀ (l : List (Value × Nat)) (cs : Array Value), (∀ p ∈ l, one p.1 = true) → (∀ x ∈ cs.toList, one x = true) → ∀ x ∈ (l.foldl (fun cs (x : Value × Nat) => cs.setIfInBounds (off + x.2) x.1) cs).toList, one x = true := by
          intro l
          induction l with
          | nil => intro cs _ h; simpa using h
          | cons p l ih =>
            intro cs hp hcs
            simp only [List.foldl_cons]
            refine ih _ (fun q hq => hp q (by simp [hq])) ?_
            intro x hx
            simp only [Array.toList_setIfInBounds] at hx
            rcases List.mem_or_eq_of_mem_set hx with h4 | h4
            · exact hcs x h4
            · subst h4; exact hp p (by simp)
        rw [← Array.foldl_toList]
        refine key _ cs (fun p hp => ?_) h1
        rw [Array.toList_zipIdx] at hp
        exact hv p.1 (List.fst_mem_of_mem_zipIdx hp)
end Go.Vw
