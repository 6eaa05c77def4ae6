/-
  The same, of maps that are asked and of what is built in; then of all operations that compute or read.
-/
import Derived.Test.YtomcnpeeelhpcaaGreatDoorVwPr3
namespace Go.Vw
open Go
variable {cx : Cx} {o : Oper} {g : Operand → Option EV} {h : Heap} {L : List LC} {K : EV → Prop}

theorem build_one {ti : TypeInfo} {t : TypeId} {z : Value} (hti : cx.P.info? t = some ti) (hz : ti.zero = some z) (hvz : ∀ x ∈ cellsL z, one x = true) {ps : List (Nat × Value)} (hps : ∀ i v, (i, v) ∈ ps → vokR v = true ∧ ∀ vs, v ≠ .tuple vs) {c : List Value}
    (hb : cx.P.built t ps = some ⟨c⟩) : ∀ x ∈ c, one x = true := by
  unfold Program.built at hb
  rw [hti] at hb
  have hz' : ∀ x ∈ z.cells.toList, one x = true := by rw [cells_toList]; exact hvz
  split at hb
  · rename_i it n e h1 h2
    injection h1 with h1; subst h1
    rw [hz] at hb
    split at hb
    · rename_i z' ie h3 h4
      injection h3 with h3; subst h3
      exact fill_one _ ps z.cells ⟨c⟩ hz' hps hb
    · cases hb
  · rename_i it fs h1 h2
    injection h1 with h1; subst h1
    rw [hz] at hb
    split at hb
    · rename_i z' pl h3 h4
      injection h3 with h3; subst h3
      exact fill_one _ ps z.cells ⟨c⟩ hz' hps hb
    · cases hb
  · cases hb

theorem noTuple_mem : ∀ (ps : List (Nat × Value)), noTuple ps = true → ∀ i v, (i, v) ∈ ps → ∀ vs, v ≠ .tuple vs
  | [], _, i, v, h => by simp at h
  | p :: r, hn, i, v, h => by
    simp only [noTuple, Bool.and_eq_true] at hn
    rcases List.mem_cons.1 h with e | e
    · subst e
      rintro vs rfl
      simp at hn
    · exact noTuple_mem r hn.2 i v e

theorem pr_build {t : TypeId} {parts : Array (Nat × Operand)} (ho : o.op = .build t parts) (ok : Ok g h L) (hp : prOp cx (.build t parts) g h L K) : ∃ e, K e ∧ Yld cx o g h L e := by
  simp only [prOp] at hp
  split at hp
  · rename_i ti ps hti hps
    have fin : ∀ c, K (.v (.agg ⟨c⟩)) → cx.P.built t ps = some ⟨c⟩ → (∀ x ∈ c, one x = true) → ∃ e, K e ∧ Yld cx o g h L e := by
      intro c hK hb hone
      refine ⟨_, hK, vokR_of_vok (vok_agg hone), fun β w ρ mt kn hρ => ?_⟩
      have hl := partsV_mem L g parts.toList ps hps ρ β mt (fun x hx v hv => hρ x (by rw [ho]; simpa [Op.operands] using hx) v hv)
      have e : (parts.map fun (p : Nat × Operand) => (p.1, ρ p.2)).toList = ps := by rw [Array.toList_map]; exact hl
      have hrun := run_build (P := cx.P) w t (parts.map fun (p : Nat × Operand) => (p.1, ρ p.2)) ⟨c⟩ (by rw [e]; exact hb)
      simp only [execOp, ho, Sem.run_bind]
      rw [hrun]
      simp [cz]
    split at hp
    · rename_i z fs hz hu
      split at hp
      · rename_i n hf hpo
        split at hp
        · rename_i hn
          split at hp
          · rename_i hnt
            rw [Bool.and_eq_true] at hnt
            obtain ⟨c, hK, hb⟩ := built_struct cx.P hti hu hz hf (Nat.eq_of_beq_eq_true hn) hpo hp
            exact fin c hK hb (build_one hti hz (List.all_eq_true.1 hnt.2) (fun i v hv => ⟨partsV_ok ok.g _ ps hps i v hv, noTuple_mem ps hnt.1 i v hv⟩) hb)
          · exact hp.elim
        · exact hp.elim
      · exact hp.elim
    · rename_i z n elem hz hu
      split at hp
      · rename_i ei hei hpo
        split at hp
        · rename_i ez hez
          split at hp
          · rename_i hn1 hn2
            split at hp
            · rename_i hnt
              rw [Bool.and_eq_true] at hnt
              obtain ⟨hrep, hp⟩ := hp
              obtain ⟨c, hK, hb⟩ := built_array cx.P hti hu hz hei (Nat.eq_of_beq_eq_true hn2) hrep hpo hp
              exact fin c hK hb (build_one hti hz (List.all_eq_true.1 hnt.2) (fun i v hv => ⟨partsV_ok ok.g _ ps hps i v hv, noTuple_mem ps hnt.1 i v hv⟩) hb)
            · exact hp.elim
          · exact hp.elim
        · exact hp.elim
      · exact hp.elim
    · exact hp.elim
  · exact hp.elim

/-! ### Maps -/

theorem findNow_int {kd : TypeDesc} {ik : IntKind} (hk : kd = .int ik) {β : Type} (vv : β → Value) (n : Int) : ∀ (es : List MapEntry) (kvs : List ((Ty.int ik).T × β)) (i : Nat),
    es.map (fun e => (e.key, e.val)) = kvs.map (fun p => ((Ty.int ik).v p.1, vv p.2)) →
    ∃ r, Instr.findNow kd (.int ik n) es i = some r ∧ match kFind (.int ik) kvs n with
      | some x => ∃ j, r = some (j, vv x)
      | none => r = none
  | [], [], i, _ => ⟨none, rfl, rfl⟩
  | [], _ :: _, i, h => by simp at h
  | _ :: _, [], i, h => by simp at h
  | e :: es, p :: kvs, i, h => by
    simp only [List.map_cons, List.cons.injEq, Prod.mk.injEq] at h
    obtain ⟨⟨h1, h2⟩, h3⟩ := h
    subst hk
    simp only [Instr.findNow, h1, Ty.v, Instr.sameNow, if_true, kFind, kEq]
    by_cases hnp : n = p.1
    · have : (n == p.1) = true := by simpa using hnp
      simp only [this, if_true]
      exact ⟨_, rfl, i, by rw [h2]⟩
    · have : (n == p.1) = false := by simpa using hnp
      simp only [this, Bool.false_eq_true, if_false]
      exact findNow_int rfl vv n es kvs (i + 1) h3
theorem findNow_str {kd : TypeDesc} (hk : kd = .string) {β : Type} (vv : β → Value) (s : ByteArray) : ∀ (es : List MapEntry) (kvs : List (Ty.str.T × β)) (i : Nat),
    es.map (fun e => (e.key, e.val)) = kvs.map (fun p => (Ty.str.v p.1, vv p.2)) →
    ∃ r, Instr.findNow kd (.string s) es i = some r ∧ match kFind .str kvs s.data.toList with
      | some x => ∃ j, r = some (j, vv x)
      | none => r = none
  | [], [], i, _ => ⟨none, rfl, rfl⟩
  | [], _ :: _, i, h => by simp at h
  | _ :: _, [], i, h => by simp at h
  | e :: es, p :: kvs, i, h => by
    simp only [List.map_cons, List.cons.injEq, Prod.mk.injEq] at h
    obtain ⟨⟨h1, h2⟩, h3⟩ := h
    subst hk
    have hbe : (s == (⟨⟨p.1⟩⟩ : ByteArray)) = (s.data.toList == p.1) := by
      rw [beq_toListBytes, ByteArray.toList_eq, ByteArray.toList_eq]
    simp only [Instr.findNow, h1, Ty.v, Instr.sameNow, kFind, kEq, hbe]
    by_cases hnp : s.data.toList = p.1
    · have : (s.data.toList == p.1) = true := by simpa using hnp
      simp only [this, if_true]
      exact ⟨_, rfl, i, by rw [h2]⟩
    · have : (s.data.toList == p.1) = false := by simpa using hnp
      simp only [this, Bool.false_eq_true, if_false]
      exact findNow_str rfl vv s es kvs (i + 1) h3

theorem checkKey_int {P : Program} (w : World) {t : TypeId} {ik k : IntKind} {n : Int} (hu : P.underlying t = some (.int ik)) (b : Bool) : (Instr.checkKey b 10000 t (.int k n)).run P w = .ok () w := by
  unfold Instr.checkKey
  simp [underlying_run w hu]
theorem checkKey_str {P : Program} (w : World) {t : TypeId} {s : ByteArray} (hu : P.underlying t = some .string) (b : Bool) : (Instr.checkKey b 10000 t (.string s)).run P w = .ok () w := by
  unfold Instr.checkKey
  simp [underlying_run w hu]
theorem findKey_run {P : Program} (w : World) {t : TypeId} {d : TypeDesc} (hu : P.underlying t = some d) {k : Value} {es : List MapEntry} {r : Option (Nat × Value)} (h : Instr.findNow d k es 0 = some r) :
    (Instr.findKey t k es).run P w = .ok r w := by
  unfold Instr.findKey
  simp only [Sem.run_bind, underlying_run w hu, Result.andThen_ok, h, Sem.run_pure]

/-- What a map's object holds. -/
theorem map_get {P : Program} {w : World} (hr : Rel h w) {r : Nat} {es : Array MapEntry} {c : Nat} (hb : h r = some (.map es c)) : (getObj r).run P w = .ok (.map es c) w := by
  have := hr _ _ hb
  simp [getObj, Sem.run, this]

def mapHas (P : Program) (w : World) (m : Option Nat) (es : Array MapEntry) : Prop :=
  match m with
  | none => es = #[]
  | some b => ∃ c, (getObj b).run P w = .ok (.map es c) w
def lkR (ck : Bool) (z : Value) (r : Option (Nat × Value)) : Value :=
  match r with
  | some (_, v) => if ck then .tuple #[v, .bool true] else v
  | none => if ck then .tuple #[z, .bool false] else z
def lkV (ty : Ty) (ck : Bool) (z : Value) (fk : Option ty.T) : Value :=
  match fk with
  | some x => if ck then .tuple #[ty.v x, .bool true] else ty.v x
  | none => if ck then .tuple #[z, .bool false] else z
def lkIs (ty : Ty) (fk : Option ty.T) (r : Option (Nat × Value)) : Prop :=
  match fk with
  | some x => ∃ j, r = some (j, ty.v x)
  | none => r = none
theorem lookup_run {w : World} {t kt vt : TypeId} {z : Value} {ok : Bool} (hu : cx.P.underlying t = some (.map kt vt)) (hz : (cx.P.info? vt).bind (·.zero) = some z) {m : Option Nat} {k : Value} {es : Array MapEntry} {r : Option (Nat × Value)}
    (hm : mapHas cx.P w m es) (hck : (Instr.checkKey es.isEmpty 10000 kt k).run cx.P w = .ok () w) (hf : (Instr.findKey kt k es.toList).run cx.P w = .ok r w) :
    (Instr.lookup t (.map m) k ok).run cx.P w = .ok (lkR ok z r) w := by
  unfold Instr.lookup
  unfold mapHas at hm
  cases m with
  | none =>
    subst hm
    cases r with
    | none => cases ok <;> simp_all [underlying_run w hu, zeroValue_run w hz, lkR]
    | some p => obtain ⟨i, v⟩ := p; cases ok <;> simp_all [underlying_run w hu, lkR]
  | some b =>
    obtain ⟨c, hc⟩ := hm
    cases r with
    | none => cases ok <;> simp_all [underlying_run w hu, zeroValue_run w hz, lkR]
    | some p => obtain ⟨i, v⟩ := p; cases ok <;> simp_all [underlying_run w hu, lkR]

theorem kFind_mem (kt : Ty) {β : Type} : ∀ (kvs : List (kt.T × β)) (k : kt.T) (x : β), kFind kt kvs k = some x → ∃ k', (k', x) ∈ kvs
  | [], k, x, h => by cases h
  | p :: r, k, x, h => by
    simp only [kFind] at h
    split at h
    · injection h with h; subst h; exact ⟨p.1, by simp⟩
    · obtain ⟨k', hk⟩ := kFind_mem kt r k x h
      exact ⟨k', by simp [hk]⟩

theorem tuple_ok {v : Value} {b : Bool} (h : vok v = true) : vokR (.tuple #[v, .bool b]) = true := by
  show (List.all [v, .bool b] vok) = true
  simp only [List.all_cons, List.all_nil, h, Bool.true_and, Bool.and_true]; rfl

theorem pr_lookup {t : TypeId} {m k : Operand} {ck : Bool} (ho : o.op = .lookup t m k ck) (ok : Ok g h L) (hp : prOp cx (.lookup t m k ck) g h L K) : ∃ e, K e ∧ Yld cx o g h L e := by
  simp only [prOp] at hp
  split at hp
  · rename_i kt vt hu
    have fin : ∀ (m' : Option Nat) (kv : Value) (kty vty : Ty) (z : Value), g m = some (.v (.map m')) → (g k).bind (toV L) = some kv → (cx.P.info? vt).bind (·.zero) = some z → vok z = true →
        (∀ (kvs : List (kty.T × vty.T)) (fk : Option vty.T), mapIs h m' kty vty kvs → (∀ x, fk = some x → K (.v (if ck then .tuple #[vty.v x, .bool true] else vty.v x))) → (fk = none → K (.v (if ck then .tuple #[z, .bool false] else z))) →
          TyOk vty →
          (∀ w, (∀ b, (Instr.checkKey b 10000 kt kv).run cx.P w = .ok () w) ∧ ∀ es : List MapEntry, es.map (fun e => (e.key, e.val)) = kvs.map (fun p => (kty.v p.1, vty.v p.2)) →
            ∃ r, (Instr.findKey kt kv es).run cx.P w = .ok r w ∧ lkIs vty fk r) →
          ∃ e, K e ∧ Yld cx o g h L e) := by
      intro m' kv kty vty z hm hk hz hvz kvs fk hmap hsome hnone hmem hrun
      have run : ∀ β w ρ, Mt L β → KN h L β w → (∀ x ∈ o.op.operands, ∀ v, g x = some v → ρ x = cz β v) → (execOp ρ o).run cx.P w = .ok (.value (lkV vty ck z fk)) w := by
        intro β w ρ mt kn hρ
        have h1 := hρ m (by rw [ho]; simp [Op.operands]) _ hm
        have h2 : ρ k = kv := by
          cases hg : g k with
          | none => rw [hg] at hk; cases hk
          | some e => rw [hg] at hk; rw [hρ k (by rw [ho]; simp [Op.operands]) _ hg]; exact toV_cz mt hk
        obtain ⟨hck, hfind⟩ := hrun w
        have main : ∀ es : Array MapEntry, mapHas cx.P w m' es → es.toList.map (fun e => (e.key, e.val)) = kvs.map (fun p => (kty.v p.1, vty.v p.2)) →
            (Instr.lookup t (.map m') kv ck).run cx.P w = .ok (lkV vty ck z fk) w := by
          intro es hes hmp
          obtain ⟨r, hr, hrm⟩ := hfind es.toList hmp
          rw [lookup_run (cx := cx) (ok := ck) hu hz hes (hck _) hr]
          cases fk with
          | none => have hrm : r = none := hrm; subst hrm; rfl
          | some x => obtain ⟨j, hrm⟩ := hrm; subst hrm; rfl
        have : (Instr.lookup t (.map m') kv ck).run cx.P w = .ok (lkV vty ck z fk) w := by
          unfold mapIs at hmap
          split at hmap
          · exact main #[] rfl (by rw [hmap]; rfl)
          · obtain ⟨es, c, hb, he⟩ := hmap
            exact main es ⟨c, map_get kn.rel hb⟩ he
        simp only [execOp, ho, h1, h2, cz, Sem.run_bind, this]
        rfl
      cases fk with
      | none =>
        refine ⟨_, hnone rfl, ?_, fun β w ρ mt kn hρ => run β w ρ mt (kn (by rw [ho]; rfl)) hρ⟩
        cases ck
        · exact vokR_of_vok hvz
        · exact tuple_ok hvz
      | some x =>
        have hvx := vok_val hmem x
        refine ⟨_, hsome x rfl, ?_, fun β w ρ mt kn hρ => run β w ρ mt (kn (by rw [ho]; rfl)) hρ⟩
        cases ck
        · exact vokR_of_vok hvx
        · exact tuple_ok hvx
    split at hp
    · rename_i ik v z m' ik' n hkt hvt hz hm hk
      split at hp
      · rename_i ik'' huk
        split at hp
        · rename_i hc
          obtain ⟨⟨he1, he2⟩, hvz⟩ := hc
          subst he1; subst he2
          obtain ⟨kvs, hmap, h1, h2⟩ := hp
          refine fin m' (.int ik'' n) (.int ik'') v z hm hk hz hvz kvs (kFind (.int ik'') kvs n) hmap h1 h2 (cx.ok _ _ hvt) (fun w => ⟨fun b => checkKey_int w huk b, fun es hes => ?_⟩)
          obtain ⟨r, hr, hrm⟩ := findNow_int (kd := .int ik'') rfl v.v n es kvs 0 hes
          exact ⟨r, findKey_run w huk hr, by unfold lkIs; split at hrm <;> rename_i heq <;> rw [heq] <;> exact hrm⟩
        · exact hp.elim
      · exact hp.elim
    · rename_i v z m' s hkt hvt hz hm hk
      split at hp
      · rename_i huk
        split at hp
        · rename_i hvz
          obtain ⟨kvs, hmap, h1, h2⟩ := hp
          refine fin m' (.string s) .str v z hm hk hz hvz kvs (kFind .str kvs s.data.toList) hmap h1 h2 (cx.ok _ _ hvt) (fun w => ⟨fun b => checkKey_str w huk b, fun es hes => ?_⟩)
          obtain ⟨r, hr, hrm⟩ := findNow_str (kd := .string) rfl v.v s es kvs 0 hes
          exact ⟨r, findKey_run w huk hr, by unfold lkIs; split at hrm <;> rename_i heq <;> rw [heq] <;> exact hrm⟩
        · exact hp.elim
      · exact hp.elim
    · exact hp.elim
  · exact hp.elim
end Go.Vw
