/-
  The same, of the other operations that compute or read.
-/
import Derived.Test.YtomcnpeeelhpcaaGreatDoorVwPr
namespace Go.Vw
open Go
variable {cx : Cx} {o : Oper} {g : Operand → Option EV} {h : Heap} {L : List LC} {K : EV → Prop}

theorem toV_cz {β : Nat → Nat} (mt : Mt L β) {e : EV} {v : Value} (hv : toV L e = some v) : cz β e = v := by
  unfold toV at hv
  split at hv
  · injection hv
  · injection hv
  · split at hv
    · rename_i i of d b hb
      injection hv with hv
      rw [← hv]; simp [cz, mt _ _ hb]
    · cases hv
  · split at hv
    · rename_i i of l c b hb
      injection hv with hv
      rw [← hv]; simp [cz, mt _ _ hb]
    · cases hv
theorem toV_ok {n : Nat} {e : EV} {v : Value} (he : okE n e) (hv : toV L e = some v) : vokR v = true := by
  unfold toV at hv
  split at hv
  · injection hv with hv; subst hv; exact he
  · injection hv with hv; subst hv; rfl
  · split at hv
    · injection hv with hv; subst hv; rfl
    · cases hv
  · split at hv
    · injection hv with hv; subst hv; rfl
    · cases hv

/-- What an operand of a slice's bound is told to be. -/
def BndIs (g : Operand → Option EV) (o? : Option Operand) (d n : Nat) : Prop := (o? = none ∧ n = d) ∨ ∃ y kd, o? = some y ∧ g y = some (.v (.int kd n))
theorem BndIs.to {o? : Option Operand} {d n : Nat} (hb : BndIs g o? d n) (ρ : Operand → Value) (β : Nat → Nat) (hρ : ∀ y, o? = some y → ∀ v, g y = some v → ρ y = cz β v) :
    (o?.map ρ = none ∧ n = d) ∨ ∃ k, o?.map ρ = some (.int k n) := by
  rcases hb with ⟨rfl, rfl⟩ | ⟨y, kd, rfl, hy⟩
  · exact .inl ⟨rfl, rfl⟩
  · exact .inr ⟨kd, by simp [hρ y rfl _ hy, cz]⟩
theorem sl_bound2 {o? : Option Operand} {d : Nat} {k : Nat → Prop}
    (hb : bndOp g o? d k) :
    ∃ n, k n ∧ BndIs g o? d n := by
  cases o? with
  | none => exact ⟨d, hb, .inl ⟨rfl, rfl⟩⟩
  | some y =>
    simp only [bndOp] at hb
    split at hb
    · rename_i kd n hy
      exact ⟨n.toNat, hb.2, .inr ⟨y, kd, rfl, by rw [hy, Int.toNat_of_nonneg hb.1]⟩⟩
    · exact hb.elim
theorem bound_run {P : Program} (w : World) (kd : IntKind) (n y : Nat) (code : BoundsCode) (h : n ≤ y) : (Instr.sliceBound (.int kd n) y code).run P w = .ok n w := by
  simp [Instr.sliceBound, asIntOf, h]

theorem bounds_run {P : Program} (w : World) (isS : Bool) (len cap : Nat) {lo hi mx : Option Value} {l u m : Nat}
    (hl : (lo = none ∧ l = 0) ∨ ∃ k, lo = some (.int k l)) (hh : (hi = none ∧ u = len) ∨ ∃ k, hi = some (.int k u)) (hm : (mx = none ∧ m = cap) ∨ ∃ k, mx = some (.int k m))
    (hmh : mx.isSome = true → hi.isSome = true) (h : l ≤ u ∧ u ≤ m ∧ m ≤ cap) :
    (Instr.sliceBounds isS len cap lo hi mx).run P w = .ok (l, u, m) w := by
  obtain ⟨h1, h2, h3⟩ := h
  unfold Instr.sliceBounds
  rcases hm with ⟨rfl, rfl⟩ | ⟨k, rfl⟩
  · rcases hh with ⟨rfl, rfl⟩ | ⟨k, rfl⟩
    · rcases hl with ⟨rfl, rfl⟩ | ⟨k, rfl⟩
      · simp
      · simp [bound_run w _ _ _ _ h1]
    · rcases hl with ⟨rfl, rfl⟩ | ⟨k', rfl⟩
      · simp [bound_run w _ _ _ _ h2]
      · simp [bound_run w _ _ _ _ h2, bound_run w _ _ _ _ h1]
  · rcases hh with ⟨rfl, rfl⟩ | ⟨k, rfl⟩
    · simp at hmh
    · rcases hl with ⟨rfl, rfl⟩ | ⟨k', rfl⟩
      · simp [bound_run w _ _ _ _ h3, bound_run w _ _ _ _ h2]
      · simp [bound_run w _ _ _ _ h3, bound_run w _ _ _ _ h2, bound_run w _ _ _ _ h1]

theorem str_cut (s : ByteArray) (l u : Nat) (h : u ≤ s.data.toList.length) : Value.string (s.extract l u) = S ((s.data.toList.take u).drop l) := by
  obtain ⟨⟨x⟩⟩ := s
  congr 1
  apply ByteArray.ext
  rw [ByteArray.data_extract]
  apply Array.ext'
  simp [List.drop_take]

theorem pr_slice {t : TypeId} {x : Operand} {lo hi mx : Option Operand} (ho : o.op = .slice t x lo hi mx) (ok : Ok g h L) (hp : prOp cx (.slice t x lo hi mx) g h L K) : ∃ e, K e ∧ Yld cx o g h L e := by
  simp only [prOp] at hp
  split at hp
  · rename_i s hu hx
    split at hp
    · obtain ⟨l, hk, hl⟩ := sl_bound2 (g := g) (o? := lo) hp
      obtain ⟨u, hk, hh⟩ := sl_bound2 (g := g) (o? := hi) hk
      obtain ⟨hle, hK⟩ := hk
      refine ⟨_, hK, rfl, fun β w ρ mt kn hρ => ?_⟩
      have h1 := hρ x (by rw [ho]; simp [Op.operands]) _ hx
      have hl' := hl.to ρ β (fun y hy v hv => hρ y (by rw [ho]; simp [Op.operands, hy]) v hv)
      have hh' := hh.to ρ β (fun y hy v hv => hρ y (by rw [ho]; simp [Op.operands, hy]) v hv)
      have e1 : s.data.toList.length = s.size := rfl
      have hrun := bounds_run (P := cx.P) w false s.size s.size (mx := none) (m := s.size) hl' (by rw [e1] at hh'; exact hh') (.inl ⟨rfl, rfl⟩) (by simp) ⟨hle.1, by rw [← e1]; exact hle.2, Nat.le_refl _⟩
      simp [execOp, ho, h1, cz, Instr.sliceAt, Instr.slice, underlying_run w hu, hrun, str_cut s l u hle.2]
    · exact hp.elim
  · rename_i elem a len cap hu hx
    split at hp
    · rename_i ei he
      obtain ⟨l, hk, hl⟩ := sl_bound2 (g := g) (o? := lo) hp
      obtain ⟨u, hk, hh⟩ := sl_bound2 (g := g) (o? := hi) hk
      obtain ⟨m, hk, hm⟩ := sl_bound2 (g := g) (o? := mx) hk
      obtain ⟨hle, hmh, hK⟩ := hk
      refine ⟨_, hK, rfl, fun β w ρ mt kn hρ => ?_⟩
      have h1 := hρ x (by rw [ho]; simp [Op.operands]) _ hx
      have hl' := hl.to ρ β (fun y hy v hv => hρ y (by rw [ho]; simp [Op.operands, hy]) v hv)
      have hh' := hh.to ρ β (fun y hy v hv => hρ y (by rw [ho]; simp [Op.operands, hy]) v hv)
      have hm' := hm.to ρ β (fun y hy v hv => hρ y (by rw [ho]; simp [Op.operands, hy]) v hv)
      have hrun := bounds_run (P := cx.P) w true len cap hl' hh' hm' (by simpa using hmh) hle
      have es : ∀ (a : Option Addr) (l m k : Nat), (a.map fun a => if m = l then a else a.add k) = if m = l then a else a.map (·.add k) := by
        intro a l m k; cases a <;> by_cases hml : m = l <;> simp [hml]
      simp [execOp, ho, h1, cz, Instr.sliceAt, Instr.slice, underlying_run w hu, hrun, sizeOf_run w he, subSl, es]
    · exact hp.elim
  · rename_i n elem e hu hx
    split at hp
    · rename_i a ei hv he
      obtain ⟨l, hk, hl⟩ := sl_bound2 (g := g) (o? := lo) hp
      obtain ⟨u, hk, hh⟩ := sl_bound2 (g := g) (o? := hi) hk
      obtain ⟨m, hk, hm⟩ := sl_bound2 (g := g) (o? := mx) hk
      obtain ⟨hle, hmh, hK⟩ := hk
      refine ⟨_, hK, rfl, fun β w ρ mt kn hρ => ?_⟩
      have h1 := hρ x (by rw [ho]; simp [Op.operands]) _ hx
      rw [toV_cz mt hv] at h1
      have hl' := hl.to ρ β (fun y hy v hv => hρ y (by rw [ho]; simp [Op.operands, hy]) v hv)
      have hh' := hh.to ρ β (fun y hy v hv => hρ y (by rw [ho]; simp [Op.operands, hy]) v hv)
      have hm' := hm.to ρ β (fun y hy v hv => hρ y (by rw [ho]; simp [Op.operands, hy]) v hv)
      have hrun := bounds_run (P := cx.P) w false n n hl' hh' hm' (by simpa using hmh) hle
      by_cases hml : m = l
      · simp [execOp, ho, h1, cz, Instr.sliceAt, Instr.sureAddr, underlying_run w hu, hrun, sizeOf_run w he, subSl, hml]
      · simp [execOp, ho, h1, cz, Instr.sliceAt, Instr.sureAddr, underlying_run w hu, hrun, sizeOf_run w he, subSl, hml]
    · exact hp.elim
  · exact hp.elim

theorem pr_binOp {op : BinOp} {t u : TypeId} {x y : Operand} (ho : o.op = .binOp op t x y u) (ok : Ok g h L) (hp : prOp cx (.binOp op t x y u) g h L K) : ∃ e, K e ∧ Yld cx o g h L e := by
  simp only [prOp] at hp
  split at hp
  · rename_i i of d hx hy
    split at hp
    · rename_i e hu
      refine ⟨_, hp, trivial, fun β w ρ mt kn hρ => ?_⟩
      have h1 := hρ x (by rw [ho]; simp [Op.operands]) _ hx
      have h2 := hρ y (by rw [ho]; simp [Op.operands]) _ hy
      simp only [execOp, ho, h1, h2, cz, Sem.run_bind, guard_ptr, Result.andThen_ok, binOp, Op.equal, Op.maxDepth, eqIn_ptr w hu, Sem.run_pure]
      rfl
    · rename_i e hu
      refine ⟨_, hp, trivial, fun β w ρ mt kn hρ => ?_⟩
      have h1 := hρ x (by rw [ho]; simp [Op.operands]) _ hx
      have h2 := hρ y (by rw [ho]; simp [Op.operands]) _ hy
      simp only [execOp, ho, h1, h2, cz, Sem.run_bind, guard_ptr, Result.andThen_ok, binOp, Op.equal, Op.maxDepth, eqIn_ptr w hu, Sem.run_pure]
      rfl
    · exact hp.elim
  · rename_i e f hx hy
    split at hp
    · rename_i a b ha hb
      obtain ⟨v, hK, hv, hrun⟩ := binSound cx op t _ K a b hp
      refine ⟨_, hK, hv, fun β w ρ mt kn hρ => ?_⟩
      have h1 := hρ x (by rw [ho]; simp [Op.operands]) _ hx
      have h2 := hρ y (by rw [ho]; simp [Op.operands]) _ hy
      rw [toV_cz mt ha] at h1
      rw [toV_cz mt hb] at h2
      have := hrun w x y
      simp only [execOp, ho, h1, h2, Sem.run_bind, cz] at this ⊢
      rw [this]; rfl
    · exact hp.elim
  · exact hp.elim

theorem pr_unOp {op : UnOp} {t : TypeId} {x : Operand} (ho : o.op = .unOp op t x) (ok : Ok g h L) (hp : prOp cx (.unOp op t x) g h L K) : ∃ e, K e ∧ Yld cx o g h L e := by
  simp only [prOp] at hp
  split at hp
  · rename_i e hx
    obtain ⟨f, hK, hf, hrun⟩ := unSound op K e hp cx.P
    refine ⟨f, hK, ?_, fun β w ρ mt kn hρ => ?_⟩
    · cases f <;> first | exact hf | exact absurd hf (by simp [okE])
    · have h1 := hρ x (by rw [ho]; simp [Op.operands]) _ hx
      simp [execOp, ho, h1, hrun w β]
  · exact hp.elim

theorem foldl_bytes : ∀ (bs : List UInt8) (s : ByteArray), ((bs.map fun b => (b.toNat : Int)).foldl (fun r n => r.push (UInt8.ofNat n.toNat)) s) = ⟨⟨s.data.toList ++ bs⟩⟩
  | [], s => by simp
  | b :: bs, s => by
    simp only [List.map_cons, List.foldl_cons]
    rw [foldl_bytes bs]
    congr 2
    simp [ByteArray.push]
theorem bytes_run {P : Program} {k : Heap} {w : World} (hr : Rel k w) {a : Addr} {len : Nat} (cap : Nat) {bs : List UInt8} (hb : rdn k a len = some (bs.map byteV)) :
    (Conv.bytesToString (.slice (some a) len cap)).run P w = .ok (S bs) w := by
  have h1 := run_loadCells_rdn (P := P) hr hb
  have e : bs.map byteV = (bs.map fun b => (b.toNat : Int)).map (Value.int .u8) := by
    rw [List.map_map]; rfl
  rw [e] at h1
  rw [run_bytesToString w a len cap (bs.map fun b => (b.toNat : Int)) h1, foldl_bytes]
  rfl

theorem pr_convert {s d : TypeId} {x : Operand} (ho : o.op = .convert s d x) (ok : Ok g h L) (hp : prOp cx (.convert s d x) g h L K) : ∃ e, K e ∧ Yld cx o g h L e := by
  simp only [prOp] at hp
  split at hp
  · rename_i k0 k k1 n hs hd hx
    refine ⟨_, hp, rfl, fun β w ρ mt kn hρ => ?_⟩
    have h1 := hρ x (by rw [ho]; simp [Op.operands]) _ hx
    simp [execOp, ho, h1, cz, convert, underlying_run w hs, underlying_run w hd, Conv.intToInt]
  · rename_i b hs hd hx
    refine ⟨_, hp, rfl, fun β w ρ mt kn hρ => ?_⟩
    have h1 := hρ x (by rw [ho]; simp [Op.operands]) _ hx
    simp [execOp, ho, h1, cz, convert, underlying_run w hs, underlying_run w hd]
  · rename_i e a len cap hs hd hx
    split at hp
    · rename_i he
      split at hp
      · refine ⟨_, hp, rfl, fun β w ρ mt kn hρ => ?_⟩
        have h1 := hρ x (by rw [ho]; simp [Op.operands]) _ hx
        simp [execOp, ho, h1, cz, convert, underlying_run w hs, underlying_run w hd, underlying_run w he, Conv.bytesToString]
        rfl
      · rename_i a
        obtain ⟨bs, hb, hK⟩ := hp
        refine ⟨_, hK, rfl, fun β w ρ mt kn hρ => ?_⟩
        have h1 := hρ x (by rw [ho]; simp [Op.operands]) _ hx
        simp [execOp, ho, h1, cz, convert, underlying_run w hs, underlying_run w hd, underlying_run w he, bytes_run (kn (by rw [ho]; rfl)).rel cap hb]
    · exact hp.elim
  · rename_i e i of len cap hs hd hx
    split at hp
    · rename_i c et he hi
      obtain ⟨bs, hb, hK⟩ := hp
      refine ⟨_, hK, rfl, fun β w ρ mt kn hρ => ?_⟩
      have h1 := hρ x (by rw [ho]; simp [Op.operands]) _ hx
      have hr := bytes_run (P := cx.P) ((kn (by rw [ho]; rfl)).locRel hi) cap (a := ⟨β i, of, none⟩) (by rw [rdn_locH]; exact hb)
      simp [execOp, ho, h1, cz, convert, underlying_run w hs, underlying_run w hd, underlying_run w he, hr]
    · exact hp.elim
  · exact hp.elim

theorem pr_makeInterface {t : TypeId} {x : Operand} (ho : o.op = .makeInterface t x) (ok : Ok g h L) (hp : prOp cx (.makeInterface t x) g h L K) : ∃ e, K e ∧ Yld cx o g h L e := by
  simp only [prOp] at hp
  split at hp
  · exact hp.elim
  · rename_i d v hne hu hx
    cases hg : g x with
    | none => rw [hg] at hx; cases hx
    | some e =>
      rw [hg] at hx
      refine ⟨_, hp, rfl, fun β w ρ mt kn hρ => ?_⟩
      have h1 := hρ x (by rw [ho]; simp [Op.operands]) _ hg
      rw [toV_cz mt hx] at h1
      have : ∀ ms, d ≠ .interface ms := by
        rintro ms rfl
        exact hne ms rfl
      cases d <;> first | (simp [execOp, ho, h1, cz, Instr.makeInterface, underlying_run w hu]; done) | exact absurd rfl (this _)
  · exact hp.elim

theorem pr_extract {x : Operand} {i : Nat} (ho : o.op = .extract x i) (ok : Ok g h L) (hp : prOp cx (.extract x i) g h L K) : ∃ e, K e ∧ Yld cx o g h L e := by
  simp only [prOp] at hp
  split at hp
  · rename_i vs hx
    split at hp
    · rename_i v hv
      have hok : vokR (.tuple vs) = true := ok.g _ _ hx
      refine ⟨_, hp, vokR_of_vok (List.all_eq_true.1 hok v (List.mem_of_getElem? hv)), fun β w ρ mt kn hρ => ?_⟩
      have h1 := hρ x (by rw [ho]; simp [Op.operands]) _ hx
      have : vs[i]? = some v := by simpa using hv
      simp [execOp, ho, h1, cz, Instr.extract, this]
    · exact hp.elim
  · exact hp.elim

theorem pr_load {t : TypeId} {x : Operand} (ho : o.op = .load t x) (ok : Ok g h L) (hp : prOp cx (.load t x) g h L K) : ∃ e, K e ∧ Yld cx o g h L e := by
  simp only [prOp] at hp
  split at hp
  · rename_i i of d hx
    split at hp
    · rename_i c e hi
      obtain ⟨v, hK, hv, hrun, _⟩ := loadL_sound (ok.L _ _ _ hi) hp
      refine ⟨_, hK, hv, fun β w ρ mt kn hρ => ?_⟩
      have h1 := hρ x (by rw [ho]; simp [Op.operands]) _ hx
      simp [execOp, ho, h1, cz, Instr.loadAt, Instr.sureAddr, hrun w _ _ ((kn (by rw [ho]; rfl)).locRel hi)]
    · rename_i b hi
      obtain ⟨v, hK, hv, hrun⟩ := loadH_sound ok.h hp
      refine ⟨_, hK, hv, fun β w ρ mt kn hρ => ?_⟩
      have h1 := hρ x (by rw [ho]; simp [Op.operands]) _ hx
      simp [execOp, ho, h1, cz, Instr.loadAt, Instr.sureAddr, mt _ _ hi, hrun w (kn (by rw [ho]; rfl)).rel]
    · exact hp.elim
  · rename_i a hx
    obtain ⟨v, hK, hv, hrun⟩ := loadH_sound ok.h hp
    refine ⟨_, hK, hv, fun β w ρ mt kn hρ => ?_⟩
    have h1 := hρ x (by rw [ho]; simp [Op.operands]) _ hx
    simp [execOp, ho, h1, cz, Instr.loadAt, Instr.sureAddr, hrun w (kn (by rw [ho]; rfl)).rel]
  · exact hp.elim
end Go.Vw
