/-
  Appends by their operands, calls; all operations in one.
-/
import Derived.Test.YtomcnpeeelhpcaaGreatDoorVwEff5
namespace Go.Vw
open Go
variable {cx : Cx} {h₀ : Heap} {w₀ w w' : World} {s : St} {β : Nat → Nat} {a : Act} {o : Oper} {K : EV → St → Prop}

theorem byteV_one (l : List UInt8) : ∀ v ∈ l.map byteV, one v = true := by
  intro v hv
  obtain ⟨b, _, rfl⟩ := List.mem_map.1 hv
  rfl
theorem first_str {P : Program} (bs : ByteArray) (size : Nat) (w : World) : (Builtin.firstCells size bs.data.toList.length (.string bs)).run P w = .ok ⟨bs.data.toList.map byteV⟩ w := by
  have h := Lib.run_firstCells_string (P := P) w size bs
  have e : bs.data.toList.length = bs.size := rfl
  rw [e, h]
  rfl

theorem eff_append {args : Array Operand} {argTypes : Array TypeId} (ho : o.op = .call { callee := .builtin .append, args, argTypes }) (rs : Rs cx h₀ w₀ s β a w) (hp : evE cx o s K) : Did cx h₀ w₀ o s β a w K := by
  obtain ⟨args⟩ := args
  obtain ⟨argTypes⟩ := argTypes
  unfold evE at hp
  rw [ho] at hp
  simp only at hp
  split at hp
  · rename_i x y t u
    split at hp
    · rename_i e xe ht hx
      obtain ⟨hxv, hxok⟩ := rs.get hx
      obtain ⟨s1, hK1, rs1, ex1, env1, ok1, _⟩ := matE_sound rs hxok hp
      generalize hxx : cz β xe = xv at hK1 hxv ok1
      have fin : ∀ (p : Option Addr) (n c : Nat) (yv : Value) (r : Sl) (h' : Heap) (w' : World), xv = .slice p n c → a.eval y = yv → (Builtin.append_ ⟨[t, u]⟩ o.type ⟨[.slice p n c, yv]⟩).run cx.P w = .ok (.slice r.a r.len r.cap) w' →
          Rs cx h₀ w₀ { s1 with h := h' } β a w' → Ext s1 β { s1 with h := h' } β → K (.v (.slice r.a r.len r.cap)) { s1 with h := h' } → Did cx h₀ w₀ o s β a w K := by
        intro p n c yv r h' w' hxs hy hrun h1 h2 hK
        refine ⟨_, _, _, _, hK, h1, ex1.trans h2, env1, rfl, .inl ?_⟩
        rw [hxs] at hxv
        simp [execOp, ho, resolve, invoke, builtin, hxv, hy, hrun, cz]
      split at hK1
      · rename_i p n c i off m cap ei eu hy hei hu
        have hyv := (rs1.get hy).1
        simp only [cz] at hyv
        split at hK1
        · rename_i ys et ez hi hez
          split at hK1
          · rename_i hoff hzl hzv
            obtain ⟨hyl, xs, hx, hB, hI, hwr, hnil, hK⟩ := hK1
            have h0 : off = 0 := Nat.eq_of_beq_eq_true hoff
            subst h0
            have hone : ∀ v ∈ ys, one v = true := rs1.kn.one i ys et hi
            have hfy : ∀ w' : World, w'.heap = w.heap → (Builtin.firstCells ei.size m (.slice (some ⟨β i, 0, none⟩) m cap)).run cx.P w' = .ok ⟨ys⟩ w' := by
              intro w' hh
              have hr : Rel (locH (β i) ys et) w' := Rel.heap (rs1.kn.locRel hi) hh
              exact first_run (h := locH (β i) ys et) hr (by
                simp only [rowOf, rdn_locH, sub]
                rw [if_pos (by omega)]
                simp [hyl.symm]) (fun _ _ => trivial)
            obtain ⟨r, h', w', hres, hrun, h1, h2⟩ := append_run (ty := o.type) rs1 ht hei hez (Nat.eq_of_beq_eq_true hzl) hzv hu (.inr ⟨_, rfl⟩) (xv := .slice (some ⟨β i, 0, none⟩) m cap) hx (fun w' _ => by simp [Builtin.lenOf]) hfy hone hB hI hwr hnil
            exact fin p n c _ r h' w' rfl hyv hrun h1 h2 (hK r h' hres)
          · exact hK1.elim
        · exact hK1.elim
      · rename_i p n c a' m cap ei eu hy hei hu
        have hyv := (rs1.get hy).1
        simp only [cz] at hyv
        split at hK1
        · rename_i ez hez
          split at hK1
          · rename_i hzl hzv
            obtain ⟨xs, ys, hx, hys, hone, hB, hI, hwr, hnil, hK⟩ := hK1
            have hfy : ∀ w' : World, w'.heap = w.heap → (Builtin.firstCells ei.size m (.slice a' m cap)).run cx.P w' = .ok ⟨ys⟩ w' := by
              intro w' hh
              exact first_run (Rel.heap rs1.kn.rel hh) hys (fun _ _ => trivial)
            obtain ⟨r, h', w', hres, hrun, h1, h2⟩ := append_run (ty := o.type) rs1 ht hei hez (Nat.eq_of_beq_eq_true hzl) hzv hu (.inr ⟨_, rfl⟩) (xv := .slice a' m cap) hx (fun w' _ => by simp [Builtin.lenOf]) hfy hone hB hI hwr hnil
            exact fin p n c _ r h' w' rfl hyv hrun h1 h2 (hK r h' hres)
          · exact hK1.elim
        · exact hK1.elim
      · rename_i p n c bs ei hy hei hu
        have hyv := (rs1.get hy).1
        simp only [cz] at hyv
        split at hK1
        · rename_i ez hez he
          split at hK1
          · rename_i hzl hsz hzv
            obtain ⟨xs, hx, hB, hI, hwr, hnil, hK⟩ := hK1
            have h1s : ei.size = 1 := Nat.eq_of_beq_eq_true hsz
            obtain ⟨r, h', w', hres, hrun, h1, h2⟩ := append_run (ty := o.type) rs1 ht hei hez (by rw [Nat.eq_of_beq_eq_true hzl, h1s]) hzv hu (.inl rfl) (xv := .string bs) (m := bs.data.toList.length) (ys := bs.data.toList.map byteV) (by rw [h1s, Nat.mul_one]; exact hx)
              (fun w' _ => rfl) (fun w' _ => first_str bs _ w') (byteV_one _) hB hI (by rw [h1s, Nat.mul_one]; exact hwr) hnil
            rw [h1s] at hres
            exact fin p n c _ r h' w' rfl hyv hrun h1 h2 (hK r h' hres)
          · exact hK1.elim
        · exact hK1.elim
      · exact hK1.elim
    · exact hp.elim
  · exact hp.elim

/-! ### Calls -/

/-- What a call answers is typed: what that says of it. -/
theorem typedTs_spec (cx : Cx) : ∀ (ts : List TypeId) (K : List Value → Prop), typedV.typedTs cx ts K → ∃ l, K l
  | [], K, h => ⟨[], h⟩
  | t :: ts, K, h => by
    simp only [typedV.typedTs] at h
    split at h
    · obtain ⟨x, hx⟩ := h
      obtain ⟨l, hl⟩ := typedTs_spec cx ts _ hx
      exact ⟨_, hl⟩
    · exact h.elim
theorem typedV_spec {t : TypeId} {v : Value} {K : EV → Prop} (h : typedV cx cx.P t v K) : K (.v v) := by
  unfold typedV at h
  split at h
  · obtain ⟨l, hl, hK⟩ := typedTs_spec cx _ _ h
    rw [hl]; exact hK
  · split at h
    · obtain ⟨x, hx, hK⟩ := h
      rw [hx]; exact hK
    · exact h.elim
  · exact h.elim

theorem Oper.wp_did {b : Act} (hb : execOp b.eval o = execOp a.eval o) {next : Act → World → Prop} {Q : Exit → Act → World → Prop} (hd : Did cx h₀ w₀ o s β a w K)
    (hk : ∀ e s' β' w', K e s' → Rs cx h₀ w₀ s' β' a w' → Ext s β s' β' → s'.env = s.env → okE s'.loc.length e → next (b.put o.dst (cz β' e)) w') : o.wp cx.P b w next Q := by
  obtain ⟨e, s', β', w', hK, h1, h2, h3, h4, hrun⟩ := hd
  have := hk e s' β' w' hK h1 h2 h3 h4
  unfold Oper.wp
  rw [hb]
  rcases hrun with hrun | ⟨hrun, rfl⟩
  · rw [hrun]; exact this
  · rw [hrun]; exact this

/-- A call by a function's number, its arguments at hand. -/
theorem call_wp {b : Act} (hb : execOp b.eval o = execOp a.eval o) {g : FuncId} {args : List Value} {s1 : St} (hc : callable cx.P g = true) (hrun : ∀ fn, cx.P.funcs[g]? = some fn → fn.body.isNone = false → (fn.name == "runtime.NumGoroutine") = false → (execOp a.eval o).run cx.P w = .ok (.enter g ⟨args⟩) w)
    (hargs : ∀ v ∈ args, vokR v = true) (rs1 : Rs cx h₀ w₀ s1 β a w) (hS : Spec cx.P g args s1.h fun v h' => typedV cx cx.P o.type v fun e => K e { s1 with h := h' }) {next : Act → World → Prop} {Q : Exit → Act → World → Prop}
    (hk : ∀ e h' w', K e { s1 with h := h' } → Rs cx h₀ w₀ { s1 with h := h' } β a w' → Ext s1 β { s1 with h := h' } β → okE s1.loc.length e → next (b.put o.dst (cz β e)) w') : o.wp cx.P b w next Q := by
  unfold callable at hc
  split at hc
  · rename_i fn hfn
    rw [Bool.and_eq_true] at hc
    have hr := hrun fn hfn (by cases hb : fn.body <;> simp_all) (by simpa using hc.2)
    have hcalls := hS rs1.kn.hw hargs w rs1.kn.rel
    unfold Oper.wp
    rw [hb, hr]
    refine Calls.mono hcalls ?_
    rintro e w' ⟨v, h', rfl, hrel, hhw, hvok, hfr, hq⟩
    have hKv := typedV_spec hq
    have hloc : ∀ (i : Nat) c' e', s1.loc[i]? = some (LC.live c' e') → h' (β i) = none ∧ w'.heap[β i]? = w.heap[β i]? := fun i c' e' hi => by
      have hl := rs1.kn.lt hi
      exact hfr.old _ hl (rs1.kn.live i c' e' hi).2
    have rs2 : Rs cx h₀ w₀ { s1 with h := h' } β a w' :=
      ⟨rs1.size, rs1.defers, rs1.env, ⟨hrel, fun i c' e' hi => ⟨by rw [(hloc i c' e' hi).2]; exact (rs1.kn.live i c' e' hi).1, (hloc i c' e' hi).1⟩, rs1.kn.one, rs1.kn.inj, rs1.kn.mat, hhw⟩, rs1.fr.trans hfr, rs1.new⟩
    exact hk _ _ w' hKv rs2 (Ext.same β rfl (fun _ h => h)) hvok
  · cases hc

theorem eff_call {b : Act} (hb : execOp b.eval o = execOp a.eval o) {f : Operand} {args : Array Operand} {argTypes : Array TypeId} (ho : o.op = .call { callee := .value f, args, argTypes }) (rs : Rs cx h₀ w₀ s β a w) (hp : evE cx o s K) {next : Act → World → Prop} {Q : Exit → Act → World → Prop}
    (hk : ∀ e s' β' w', K e s' → Rs cx h₀ w₀ s' β' a w' → Ext s β s' β' → s'.env = s.env → okE s'.loc.length e → next (b.put o.dst (cz β' e)) w') : o.wp cx.P b w next Q := by
  unfold evE at hp
  rw [ho] at hp
  simp only at hp
  split at hp
  · rename_i g
    split at hp
    · rename_i hc
      obtain ⟨s1, hK1, rs1, ex1, env1, ok1⟩ := matL_sound _ rs hp
      refine call_wp hb hc (fun fn hfn hbn hne => ?_) ok1 rs1 hK1 (fun e h' w' hK rs2 ex2 hok => hk e _ β w' hK rs2 (ex1.trans ex2) env1 hok)
      have e1 : (#[] : Array Value) ++ args.map a.eval ++ #[] = ⟨args.toList.map a.eval⟩ := by apply Array.ext'; simp
      simp only [execOp, ho, resolve, Deferred.ofValue, Act.eval, Sem.run_bind, Sem.run_pure, Result.andThen_ok, invoke, callFunc, run_program, hfn, Sem.run_ite, hne, Bool.false_eq_true, if_false, hbn, e1]
    · exact hp.elim
  · split at hp
    · rename_i fn first captured hf
      obtain ⟨hfv, hfok⟩ := rs.get hf
      simp only [cz] at hfv
      obtain ⟨s1, hK1, rs1, ex1, env1, ok1⟩ := matL_sound _ rs hp
      obtain ⟨g, rfl, hc, hfc, hS⟩ := hK1
      have hargs : ∀ v ∈ first.toList ++ args.toList.map a.eval ++ captured.toList, vokR v = true := by
        intro v hv
        rw [Bool.and_eq_true] at hfc
        rcases List.mem_append.1 hv with h1 | h1
        · rcases List.mem_append.1 h1 with h2 | h2
          · exact List.all_eq_true.1 hfc.1 v h2
          · exact ok1 v h2
        · exact List.all_eq_true.1 hfc.2 v h1
      refine call_wp hb hc (fun fn hfn hbn hne => ?_) hargs rs1 hS (fun e h' w' hK rs2 ex2 hok => hk e _ β w' hK rs2 (ex1.trans ex2) env1 hok)
      have e1 : first ++ args.map a.eval ++ captured = ⟨first.toList ++ args.toList.map a.eval ++ captured.toList⟩ := by apply Array.ext'; simp
      simp only [execOp, ho, resolve, Deferred.ofValue, hfv, Sem.run_bind, Sem.run_pure, Result.andThen_ok, invoke, callFunc, run_program, hfn, Sem.run_ite, hne, Bool.false_eq_true, if_false, hbn, e1]
    · exact hp.elim

/-! ### All operations -/

/-- The same, of the operations that change memory, at an act whose operands are those of the one that the state goes by. -/
theorem evE_sound {b : Act} (hb : execOp b.eval o = execOp a.eval o) (hpr : isPR cx o.op = false) (rs : Rs cx h₀ w₀ s β a w) (hp : evE cx o s K) {next : Act → World → Prop} {Q : Exit → Act → World → Prop}
    (hk : ∀ e s' β' w', K e s' → Rs cx h₀ w₀ s' β' a w' → Ext s β s' β' → s'.env = s.env → okE s'.loc.length e → next (b.put o.dst (cz β' e)) w') : o.wp cx.P b w next Q := by
  cases ho : o.op with
  | alloc t => exact Oper.wp_did hb (eff_alloc ho rs hp) hk
  | box t x => exact Oper.wp_did hb (eff_box ho rs hp) hk
  | buildSlice t n ps => exact Oper.wp_did hb (eff_buildSlice ho rs hp) hk
  | store t x y => exact Oper.wp_did hb (eff_store ho rs hp) hk
  | makeMap t r => exact Oper.wp_did hb (eff_makeMap ho rs hp) hk
  | makeSlice t l c => exact Oper.wp_did hb (eff_makeSlice ho rs hp) hk
  | makeFunc f x y => exact Oper.wp_did hb (eff_makeFunc ho rs hp) hk
  | mapUpdate t m k x => exact Oper.wp_did hb (eff_mapUpdate ho rs hp) hk
  | convert st d x => exact Oper.wp_did hb (eff_convert (by rw [ho] at hpr; exact hpr) ho rs hp) hk
  | call c =>
    obtain ⟨ce, args, argTypes⟩ := c
    cases ce with
    | value f => exact eff_call hb ho rs hp hk
    | invoke r m => unfold evE at hp; rw [ho] at hp; exact hp.elim
    | builtin b =>
      cases b with
      | append => exact Oper.wp_did hb (eff_append ho rs hp) hk
      | delete => exact Oper.wp_did hb (eff_delete ho rs hp) hk
      | _ => unfold evE at hp; rw [ho] at hp; exact hp.elim
  | _ => unfold evE at hp; rw [ho] at hp; exact hp.elim

theorem evOp_sound (rs : Rs cx h₀ w₀ s β a w) (hp : evOp cx o s K) {next : Act → World → Prop} {Q : Exit → Act → World → Prop}
    (hk : ∀ e s' β' w', K e s' → Rs cx h₀ w₀ s' β' a w' → Ext s β s' β' → s'.env = s.env → okE s'.loc.length e → next (a.put o.dst (cz β' e)) w') : o.wp cx.P a w next Q := by
  unfold evOp at hp
  split at hp
  · obtain ⟨s1, hK1, rs1, ex1, env1⟩ := matO_sound _ rs hp
    obtain ⟨e, hK, hok, hrun⟩ := prSound rs1.ok hK1
    have := hrun β w a.eval rs1.kn.mat (fun _ => rs1.kn) (fun x _ v hv => (rs1.get hv).1)
    unfold Oper.wp
    rw [this]
    exact hk e s1 β w hK rs1 ex1 env1 hok
  · rename_i hpr
    exact evE_sound rfl hpr rs hp hk
end Go.Vw
