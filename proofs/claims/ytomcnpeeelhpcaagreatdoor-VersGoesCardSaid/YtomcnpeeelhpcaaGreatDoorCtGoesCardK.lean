/-
  The card of VersGoes: whatever acts and whatever number it is called with, it answers true, and its arguments read as they did; the table of the sum's constants is what the program's text lays.
-/
import Derived.Test.YtomcnpeeelhpcaaGreatDoorCards
import Derived.Test.YtomcnpeeelhpcaaGreatDoorTie
import Derived.Test.YtomcnpeeelhpcaaGreatDoorPan
import Derived.WalkKit
import Derived.ProofKit
import Derived.OpenShut
import Derived.Deep.DeepHandedRow
import Derived.Lib.LaidTab
namespace Go.Proofs.YtomcnpeeelhpcaaGreatDoor.versGoes
open Go.ChangeShapes Go.WideShapes Go.ChangeAt Go.RowKit Go.Vw

theorem own : ownKnob Tryz.prog.godebug = none := by kernel_rfl
theorem laidOut : laidOutB Tryz.prog = true := by kernel_rfl
theorem gTab : Tryz.prog.globalNamed "pharos/sha.k" = some 1 := by kernel_rfl
theorem gTabType : (Tryz.prog.globals[1]?).map (·.type) = some 463 := by kernel_rfl
theorem undE : Tryz.prog.underlying 350 = some (.int .u32) := by kernel_rfl
theorem cellsT : Tryz.prog.cellsOf 463 = 64 := by kernel_rfl
theorem cellsE : Tryz.prog.cellsOf 350 = 1 := by kernel_rfl
theorem tabD {H : Type} : (Rows.laid_pharos_sha_k : DataW H) = Lib.tabData .u32 shaK := rfl

/-- What the row's list gives: the table's cells hold its numbers. -/
theorem table {W : World} (h : laidMetH Tryz.prog Rows.versGoesRow.laid W) : Lib.TabIs Tryz.prog W "pharos/sha.k" .u32 shaK :=
  Lib.tabIs_of_head (rest := []) gTab gTabType Tryz.underlying463 undE cellsE cellsT h
theorem kh {W : World} (h : laidMetH Tryz.prog Rows.versGoesRow.laid W) : KH (hC W) := by
  have ht := table h
  unfold Lib.TabIs World.var? at ht
  rw [gTab] at ht
  have ht : (match W.heap[1]? with
    | some (Obj.cells cs _ _) => some cs
    | _ => Option.none) = some (shaK.map fun z => Value.int .u32 z).toArray := ht
  split at ht
  · rename_i cs e fr hb
    injection ht with ht
    subst ht
    exact ⟨e, fr, hC_cells hb⟩
  · cases ht

/-- A call behind which all of the old memory is as it was. -/
theorem post_below {H : Type} {enc : TypeId × Value → H} {P : Program} {f : Func} {s : ChangeSpec} {apart fresh handsOn again : Bool} {W W' : World} {args : Array Value} {v : Value} {ds gs : List (DataW H)} {before pa pv : List MemPlace}
    (hW : DataW.Whole enc P f.params.toList s.vars apart W args.toList ds gs before)
    (hres : ∀ (b : Nat) (sp : Nat → Bool) (hd : Bool), DataW.TrodAll enc P W' b sp hd f.resultTypes.toList (v.resultList f.resultTypes.size) (s.fn H (ds ++ gs)).results [])
    (hargs : ∀ sp : Nat → Bool, (∀ p ∈ before, sp p.block = true) → DataW.TrodAll enc P W' 0 sp true f.params.toList args.toList (s.fn H (ds ++ gs)).args pa)
    (hvars : ∀ sp : Nat → Bool, (∀ p ∈ before, sp p.block = true) → DataW.TrodVars enc P W' sp s.vars (s.fn H (ds ++ gs)).vars pv)
    (hps : before = pa ++ pv) (hb : Below W.heap.size W W')
    (hok : ∀ (j : Nat) (t : TypeId) (r : Value), f.resultTypes[j]? = some t → (v.resultList f.resultTypes.size)[j]? = some r → Value.okWide P W' .any 0 t r) :
    s.post enc P f apart fresh handsOn again W args v W' := by
  have old : ∀ p ∈ before, p.block < W.heap.size := fun p hp => hW.lt p hp
  have hold : ∀ p ∈ before, (fun b => decide (b < W.heap.size)) p.block = true := fun p hp => by simpa using old p hp
  have hin : ∀ p, p ∈ ([] ++ pa) ++ pv → p ∈ before := fun p hp => by rw [hps]; simpa using hp
  refine ⟨ds, gs, before, [], pa, pv, hW, hres _ _ _, hargs _ hold, hvars _ hold, World.keptBut_mono (fun p hp => ⟨hp, ?_⟩) (hb.frame (· ∈ before)), fun _ => ⟨hok, _, _, ([] ++ pa) ++ pv, ⟨[] ++ pa, pv, trodAll_append (hargs _ (fun _ _ => rfl)) (hres _ _ _), hvars _ (fun _ _ => rfl), rfl, fun b off hp => ?_, fun ha => ?_⟩, fun p hp _ => hin p hp⟩⟩
  · rw [hps, List.mem_append] at hp
    exact Or.inr hp
  · rw [hb.frozen (old _ (hin _ hp))]
    obtain ⟨_, _, _, _, _, hz, _⟩ := hW
    exact hz b off (hin _ hp)
  · obtain ⟨_, _, _, _, _, _, hn⟩ := hW
    have := hn ha
    rw [hps] at this
    simpa using this
set_option maxRecDepth 100000 in
/-- What the walk gives, for every argument and every world that holds the table. -/
theorem contract (H : Type) (enc : TypeId × Value → H) (W : World) (base : Nat) (args : Array Value) (ds gs : List (DataW H)) (before : List MemPlace)
    (hval : ∀ (j : Nat) t v, Tryz.f3.params[j]? = some t → args[j]? = some v → Value.okWide Tryz.prog W .any base t v)
    (hW : DataW.Whole enc Tryz.prog Tryz.f3.params.toList Rows.versGoesSpec.vars false W args.toList ds gs before) (hL : laidMetH Tryz.prog Rows.versGoesRow.laid W) :
    Calls Tryz.prog 3 args W fun e W' => ∃ v, e = .returned v ∧ Rows.versGoesSpec.post enc Tryz.prog Tryz.f3 false true false false W args v W' := by
  have hW' := hW
  obtain ⟨p, q, hA0, hV, rfl, hfz, hnd⟩ := hW
  have hA : DataW.TrodAll enc Tryz.prog W 0 (fun _ => true) true Tryz.f3.params.toList args.toList ds p := hA0
  rw [Tryz.params3] at hA hval
  obtain ⟨v0, vs0, d0, ds0, p0, q0, hargs, rfl, rfl, h0, r0⟩ := trodAll_cons hA
  obtain ⟨v1, vs1, d1, ds1, p1, q1, hargs1, rfl, rfl, h1, r1⟩ := trodAll_cons r0
  obtain ⟨rfl, rfl, rfl⟩ := trodAll_nil r1
  subst hargs1
  obtain rfl : args = #[v0, v1] := by cases args; simp_all
  obtain ⟨rfl, rfl⟩ := trodVars_none hV
  obtain ⟨n, rfl, rfl, rfl, hwf⟩ := open_int Tryz.underlying3 (hval 1 3 v1 rfl rfl) h1
  obtain ⟨sa, sl, sc, rfl⟩ := okWide_slice Tryz.underlying22 (hval 0 22 v0 rfl rfl)
  have h0k := h0
  obtain ⟨fuel, hf⟩ := h0
  obtain ⟨l, he, As, hAs⟩ := open_acts hf
  obtain ⟨rfl, rfl, rfl⟩ : sa = l.a ∧ sl = l.len ∧ sc = l.cap := by
    have he : [Value.slice sa sl sc] = [.slice l.a l.len l.cap] := he
    injection he with he
    injection he with h1 h2 h3
    exact ⟨h1, h2, h3⟩
  clear hA0
  simp only [List.append_nil] at hW'
  have walk := goes_ok (below := n) hAs (kh hL) (hC_hw W) (by simp [vokR, vok]) W (hC_rel W)
  refine walk.mono fun e W' ⟨v, h', he, hr, _, _, hfr, hle, hv⟩ => ?_
  subst hv
  subst he
  have hb := below_of hr hfr hle
  have hlt : ∀ x ∈ p0, x.block < W.heap.size := fun x hx => by simpa using hW'.lt x hx
  refine ⟨_, rfl, post_below (pa := p0) (pv := []) hW' (fun _ _ _ => trodAll_cons_mk (shut_bool Tryz.underlying4 _) trodAll_mk0) (fun sp hsp => ?_) (fun _ _ => rfl) (by simp) hb (ok_one (by kernel_rfl) rfl (okWide_bool_mk Tryz.underlying4 _))⟩
  · have k0 := WideElems.Trod_stays (sp' := sp) laidOut (by kernel_rfl) (of_decide_eq_true (by kernel_rfl)) h0k (fun x hx => hb.same (hlt x hx)) (fun x hx => hsp x hx)
    have k1 : DataW.Trod enc Tryz.prog W' 0 sp true 3 (.int .i64 n) (.lit (.int .i64 n)) [] := shut_int Tryz.underlying3 hwf
    have := trodAll_cons_mk k0 (trodAll_cons_mk k1 trodAll_mk0)
    rw [List.append_nil, List.append_nil] at this
    exact this
end Go.Proofs.YtomcnpeeelhpcaaGreatDoor.versGoes
