/-
  Stores in memory: all sums; keeping what is reached. Tries out of stores: what 'trie.Load' comes to; 'Save'. Tries out of stores: the walk of 'load'. Tries into stores, and out of them.
-/
import Derived.Test.YtomcnpeeelhpcaaGreatDoorPai
namespace Go.Vw
open Go Go.Proofs

structure StGood (st : Store) : Prop where
  nd : (st.map (·.1)).Nodup
  len : ∀ p ∈ st, p.1.length ≤ 1048576 ∧ p.2.length ≤ 1073741823
theorem StGood.ok {st : Store} (h : StGood st) : StOk st := fun k t hk => (h.len _ (stFind_mem hk)).2
theorem ssums_ok {h : Heap} {p : Option Addr} {mb : Nat} {st : Store} (hS : isS h p mb st) (hG : StGood st) (hl : st.length ≤ 1000000) :
    Spec Tryz.prog 159 [.pointer p] h (fun v h' => h.le h' ∧ ∃ (sl : Sl) (ss : List Bs), v = .slice sl.a sl.len sl.cap ∧ ss.Perm (st.map (·.1)) ∧ Grow h h' sl 1 (sv ss)) := by
  apply ok159
  unfold VC159
  obtain ⟨b, e, rfl, hb, kvs, hm, hr⟩ := hS
  have hkeys := rows2_keys hr
  have hlen : kvs.length = st.length := by have := congrArg List.length hkeys; simpa using this
  refine ⟨_, rfl, some mb, by rw [add_zero']; exact rd_of hb, keysS_ok.mono ?_⟩
  rintro v h1 ⟨c, hc, rfl, rfl⟩
  have hle := Heap.le_set (h := h) (Obj.cells ⟨[Value.map (some mb)]⟩ 268 (0, 0)) hc
  obtain ⟨es, k, hmb, hes⟩ := hm
  refine ⟨⟨.func 310, #[], #[.pointer (some ⟨c, 0, none⟩)]⟩, rfl, ?_⟩
  refine (sortedS_ok (vt := .slice) (kvs := kvs) (Heap.set_same _ _ _) ⟨es, k, hle _ _ hmb, hes⟩ (by omega) ?_).mono ?_
  · intro q hq
    have : q.1 ∈ st.map (·.1) := by rw [← hkeys]; exact List.mem_map.2 ⟨q, hq, rfl⟩
    obtain ⟨q', hq', he⟩ := List.mem_map.1 this
    have := (hG.len q' hq').1
    rw [he] at this
    omega
  · rintro v h2 ⟨hle2, sl, ss, rfl, hp, g⟩
    refine ⟨sl, rfl, Heap.le_trans hle hle2, sl, ss.mergeSort (fun x y => decide (x ≤ y)), rfl, ((List.mergeSort_perm ss (fun x y => decide (x ≤ y))).trans hp).trans (by rw [hkeys]), ?_⟩
    obtain ⟨g1, g2, g3, g4⟩ := g
    refine ⟨Heap.le_trans hle g1, g2, g3, ?_⟩
    rcases g4 with h | ⟨b', rest, e', h5, h6, h7, h8⟩
    · exact .inl h
    · exact .inr ⟨b', rest, e', h5, Heap.none_of hle h6, h7, h8⟩

theorem kDel_filter {st : Store} (hn : (st.map (·.1)).Nodup) (s : Bs) : kDel .str st s = st.filter fun p => decide (p.1 ≠ s) := by
  induction st with
  | nil => rfl
  | cons p r ih =>
    rw [List.map_cons, List.nodup_cons] at hn
    unfold kDel
    by_cases he : s = p.1
    · have : kEq .str s p.1 = true := by simpa [kEq] using he
      rw [if_pos this, List.filter_cons_of_neg (by simp [he])]
      symm
      rw [List.filter_eq_self]
      intro q hq
      simp only [decide_eq_true_eq]
      intro hc
      exact hn.1 (by rw [← he, ← hc]; exact List.mem_map.2 ⟨q, hq, rfl⟩)
    · have : ¬ kEq .str s p.1 = true := by simpa [kEq] using he
      rw [if_neg this, List.filter_cons_of_pos (by simp; exact fun h => he h.symm), ih hn.2]
/-- What is left of a store. -/
def keepM (st : Store) (roots : List Bs) : Store := st.filter fun p => decide (p.1 ∈ reachM st roots)
theorem StGood.filter {st : Store} (h : StGood st) (f : Bs × Bs → Bool) : StGood (st.filter f) :=
  ⟨h.nd.sublist ((List.filter_sublist (p := f)).map _), fun p hp => h.len p (List.mem_filter.1 hp).1⟩

set_option maxHeartbeats 1000000 in
theorem keep_ok {h : Heap} {p : Option Addr} {mb : Nat} {st : Store} {s : Sl} {roots : List Bs} (hS : isS h p mb st) (hG : StGood st) (hr : rowOf h s.a s.len = some (sv roots)) (hrl : roots.length ≤ 1000000) (hst : st.length ≤ 1000000) :
    Spec Tryz.prog 71 [.pointer p, .slice s.a s.len s.cap] h (fun v h' => ∃ n, v = .int .i64 n ∧ isS h' p mb (keepM st roots) ∧ Heap.leB mb h h') := by
  apply ok71
  unfold VC71
  refine (reached_ok hS hG.ok hr hrl hst).mono ?_
  rintro v h1 ⟨hle1, r, rfl, hrn, hmi⟩
  refine ⟨some r, rfl, (ssums_ok (isS_le hle1 hS) hG hst).mono ?_⟩
  rintro v h2 ⟨hle2, sl, ss, rfl, hperm, g⟩
  refine ⟨sl, rfl, ?_⟩
  obtain ⟨inn, hinn⟩ : ∃ inn, inn = reachM st roots := ⟨_, rfl⟩
  rw [← hinn] at hmi
  obtain ⟨es0, c0, hmb0⟩ := isS_map hS
  have hrmb : r ≠ mb := by rintro rfl; rw [hrn] at hmb0; cases hmb0
  obtain ⟨esr, cr, her, hesr⟩ := hmi
  have hssl : ss.length = sl.len := grow_len g
  have hssn : ss.length ≤ 1000000 := by
    have := hperm.length_eq
    rw [List.length_map] at this
    omega
  refine ⟨fun n i h3 => (0 ≤ i ∧ i ≤ sl.len ∧ Heap.leB mb h2 h3 ∧ isS h3 p mb (st.filter fun q => decide (q.1 ∈ inn ∨ q.1 ∉ ss.take i.toNat)), sl.len - i.toNat), ⟨by omega, by omega, Heap.leB_refl _ _, ?_⟩, ?_⟩
  · have : (st.filter fun q => decide (q.1 ∈ inn ∨ q.1 ∉ ss.take 0)) = st := by
      rw [List.filter_eq_self]
      intro q _
      simp
    show isS h2 p mb (st.filter fun q => decide (q.1 ∈ inn ∨ q.1 ∉ ss.take 0))
    rw [this]
    exact isS_le (Heap.le_trans hle1 hle2) hS
  · rintro n i h3 ⟨h0, hi, hlB, hS3⟩
    obtain ⟨i, rfl⟩ : ∃ j : Nat, i = j := ⟨i.toNat, by omega⟩
    rw [Int.toNat_natCast] at hS3
    have hmb2 := hle2 _ _ (hle1 _ _ hmb0)
    refine ⟨fun hlt J hJ => ?_, fun hge => ?_⟩
    · have hi : i < sl.len := by simp at hlt; omega
      have e1 : IntKind.wrap .i64 ((i : Int) + 1) = ((i + 1 : Nat) : Int) := by rw [wrap64 (by omega) (by omega)]; omega
      rw [e1] at hJ
      simp only [Int.toNat_natCast] at hJ ⊢
      obtain ⟨blk, hblk⟩ := g.own (by omega)
      have hrow := g.row
      rw [hblk, Nat.mul_one] at hrow
      have hrow3 : rdn h3 ⟨blk, 0, none⟩ sl.len = some (sv ss) := rdn_leB hlB hmb2 hrow
      have htk : ss.take (i + 1) = ss.take i ++ [ss.getD i []] := take_succ_getD (by omega)
      have hmi3 : mapIs h3 (some r) .str (.int .i64) (inL inn) := ⟨esr, cr, hlB _ _ hrmb (hle2 _ _ her), hesr⟩
      refine ⟨⟨by omega, by omega⟩, ⟨blk, 0, none⟩, hblk, ss.getD i [], by rw [rd_of_rdn hrow3 (by omega)]; exact ng (by omega), inL inn, hmi3, fun n3 hf J1 hJ1 => ⟨fun hz => ?_, fun _ => ?_⟩, fun hf J2 hJ2 => ⟨fun _ => ?_, fun hh => by simp at hh⟩⟩
      · have hf' : kFind .str (inL inn) (ss.getD i []) = some n3 := hf
        rw [inL_find] at hf'
        split at hf'
        · injection hf' with hf'
          rw [← hf'] at hz
          simp at hz
        · cases hf'
      · have hf' : kFind .str (inL inn) (ss.getD i []) = some n3 := hf
        rw [inL_find] at hf'
        split at hf'
        · rename_i hin
          refine hJ1 _ _ (hJ _ _ ⟨⟨by omega, by omega, hlB, ?_⟩, by show sl.len - (i + 1) < sl.len - i; omega⟩)
          have : (st.filter fun q => decide (q.1 ∈ inn ∨ q.1 ∉ ss.take (i + 1))) = st.filter fun q => decide (q.1 ∈ inn ∨ q.1 ∉ ss.take i) := by
            apply List.filter_congr
            intro q _
            apply decide_eq_decide.2
            rw [htk, List.mem_append, List.mem_singleton]
            constructor
            · rintro (h | h)
              · exact .inl h
              · exact .inr fun h' => h (.inl h')
            · rintro (h | h)
              · exact .inl h
              · by_cases hq : q.1 = ss.getD i []
                · exact .inl (hq ▸ hin)
                · exact .inr fun h' => h'.elim h hq
          rw [this]; exact hS3
        · cases hf'
      · have hf' : kFind .str (inL inn) (ss.getD i []) = none := hf
        rw [inL_find] at hf'
        split at hf'
        · cases hf'
        · rename_i hin
          have hS3' := hS3
          obtain ⟨b, e, rfl, hb, kvs, hm, hrw⟩ := hS3
          obtain ⟨esm, cm, hmb3, hesm⟩ := hm
          refine ⟨_, rfl, some mb, by rw [add_zero']; exact rd_of hb, mb, kvs, rfl, ⟨esm, cm, hmb3, hesm⟩, fun es clock hes => hJ2 _ _ (hJ _ _ ⟨⟨by omega, by omega, ?_, ?_⟩, by show sl.len - (i + 1) < sl.len - i; omega⟩)⟩
          · intro x o hx ho
            rw [Heap.set_other _ _ hx]
            exact hlB _ _ hx ho
          · have hbm : b ≠ mb := by rintro rfl; rw [hb] at hmb3; cases hmb3
            have hlB3 : Heap.leB mb h3 (h3.set mb (.map es clock)) := fun x o hx ho => by rw [Heap.set_other _ _ hx]; exact ho
            have hdel : kDel .str (st.filter fun q => decide (q.1 ∈ inn ∨ q.1 ∉ ss.take i)) (ss.getD i []) = st.filter fun q => decide (q.1 ∈ inn ∨ q.1 ∉ ss.take (i + 1)) := by
              rw [kDel_filter (hG.filter _).nd, List.filter_filter]
              apply List.filter_congr
              intro q _
              rw [← Bool.decide_and]
              apply decide_eq_decide.2
              rw [htk, List.mem_append, List.mem_singleton]
              constructor
              · rintro ⟨h1, h | h⟩
                · exact .inl h
                · exact .inr fun h' => h'.elim h h1
              · rintro (h | h)
                · exact ⟨fun hq => hin (hq ▸ h), .inl h⟩
                · exact ⟨fun hq => h (.inr hq), .inr fun h' => h (.inl h')⟩
            refine ⟨b, e, rfl, by rw [Heap.set_other _ _ hbm]; exact hb, kDel .str kvs (ss.getD i []), mapIs_set hes, ?_⟩
            have := rows2_leB hlB3 hmb3 (rows2_del (kt := .str) (k := ss.getD i []) hrw)
            rw [hdel] at this
            exact this
    · have hi : i = sl.len := by simp at hge; omega
      subst hi
      rw [List.take_of_length_le (by omega)] at hS3
      refine ⟨n, rfl, ?_, fun x o hx ho => hlB _ _ hx (hle2 _ _ (hle1 _ _ ho))⟩
      have : keepM st roots = st.filter fun q => decide (q.1 ∈ inn ∨ q.1 ∉ ss) := by
        unfold keepM
        rw [← hinn]
        apply List.filter_congr
        intro q hq
        apply decide_eq_decide.2
        have : q.1 ∈ ss := hperm.mem_iff.2 (List.mem_map.2 ⟨q, hq, rfl⟩)
        exact ⟨fun h => .inl h, fun h => h.elim id fun h => absurd this h⟩
      rw [this]; exact hS3
end Go.Vw
namespace Go.Vw
open Go Go.Proofs

theorem decN_check {s : Bs} (h : (decN s).2 = 0) : checkN (decN s).1 = true := by
  unfold decN at h ⊢
  rcases hr : (RdS.mk s 0 0).Bytes 1 with ⟨l, r1⟩
  rw [hr] at h
  dsimp only at h ⊢
  rcases hx : (if kindOf l = 3 then (((branchR r1).1, true), (branchR r1).2) else otherR (kindOf l) r1) with ⟨⟨n, fine⟩, r2⟩
  rw [hx] at h
  dsimp only at h ⊢
  by_cases hc : r2.End.1 = 0 ∧ fine = true ∧ checkN n = true
  · rw [if_pos hc]; exact hc.2.2
  · rw [if_neg hc] at h; exact absurd h (by decide)
theorem nodeAt_check {st : Store} {s : Bs} (h : (nodeAt st s).2 = 0) : checkN (nodeAt st s).1 = true := by
  unfold nodeAt at h ⊢
  split at h
  · simp at h
  · rename_i t ht
    exact decN_check h

/-- The trie of a node and of those below it. -/
def mkT (n : GApiNode) (ks : Fin 16 → T) : T :=
  if n.Kind = 1 then .leaf n.Path n.Value else if n.Kind = 2 then .ext n.Path (ks 0) else .br n.Value ks
/-- How many items there were, and what is wrong. -/
abbrev MC := Int × Int
def itemM (long : Nat) (mc : MC) : Bool × MC :=
  if long = 0 ∨ long % 2 = 1 then (false, (mc.1, 4))
  else if 1024 < IntKind.wrap .i64 (mc.1 + 1) then (false, (IntKind.wrap .i64 (mc.1 + 1), 2))
  else (true, (IntKind.wrap .i64 (mc.1 + 1), mc.2))
def kidsM (ld : Bs → MC → T × MC) (kids : List Bs) : Nat → MC → (Fin 16 → T) × MC
  | 0, mc => (fun _ => .nil, mc)
  | i + 1, mc =>
    let (ks, mc1) := kidsM ld kids i mc
    if kids.getD i [] = [] then (ks, mc1)
    else
      let (t, mc2) := ld (kids.getD i []) mc1
      (upd ks (Fin.ofNat 16 i) t, mc2)
def loadM (st : Store) : Nat → Bs → Nat → Bool → MC → T × MC
  | 0, _, _, _, mc => (.nil, mc)
  | f + 1, sum, d, below, mc =>
    if mc.2 ≠ 0 then (.nil, mc) else
    let (n, e) := nodeAt st sum
    if e ≠ 0 then (.nil, (mc.1, e)) else
    let long := d + n.Path.length
    if (below = true ∧ n.Kind ≠ 3) ∨ 16 < long ∨ ((n.Kind = 3 ∧ n.Kids ≠ empties) ∧ 16 ≤ long) then (.nil, (mc.1, 4)) else
    let (ok, mc1) := if n.Value ≠ [] then itemM long mc else (true, mc)
    if ok = false then (.nil, mc1) else
    let (ks, mc2) := kidsM (fun s mc => loadM st f s (if n.Kind = 2 then long else d + 1) (n.Kind == 2) mc) n.Kids 16 mc1
    if mc2.2 ≠ 0 then (.nil, mc2) else (mkT n ks, mc2)
def loadTop (st : Store) (root : Bs) : T × Int := if root = [] then (.nil, 0) else
  let (t, mc) := loadM st 20 root 0 false (0, 0)
  if mc.2 ≠ 0 then (.nil, mc.2) else (t, 0)

def ldO (e : TypeId) (sp : Option Addr) (mc : MC) : Obj := .cells ⟨[.pointer sp, .int .i64 mc.1, .int .i64 mc.2]⟩ e (0, 0)
section
variable {h : Heap} {b : Nat} {e : TypeId} {sp : Option Addr} {mc : MC}
theorem ld_s (hb : h b = some (ldO e sp mc)) : rd h ⟨b, 0, none⟩ = some (.pointer sp) := rd_of hb
theorem ld_many (hb : h b = some (ldO e sp mc)) : rd h ⟨b, 1, none⟩ = some (.int .i64 mc.1) := rd_of hb
theorem ld_code (hb : h b = some (ldO e sp mc)) : rd h ⟨b, 2, none⟩ = some (.int .i64 mc.2) := rd_of hb
theorem ld_wmany (hb : h b = some (ldO e sp mc)) (n : Int) : wr h ⟨b, 1, none⟩ [.int .i64 n] = some (h.set b (ldO e sp (n, mc.2))) := wr_of hb (by simp) _
theorem ld_wcode (hb : h b = some (ldO e sp mc)) (n : Int) : wr h ⟨b, 2, none⟩ [.int .i64 n] = some (h.set b (ldO e sp (mc.1, n))) := wr_of hb (by simp) _

theorem wrong_ok (hb : h b = some (ldO e sp mc)) (hc : mc.2 = 0) (c : Int) : Spec Tryz.prog 253 [.pointer (some ⟨b, 0, none⟩), .int .i64 c] h (fun v h' => v = .pointer none ∧ h' = h.set b (ldO e sp (mc.1, c))) := by
  apply ok253
  unfold VC253
  refine ⟨_, rfl, _, ld_code hb, fun J hJ => ⟨fun _ => ⟨_, rfl, _, ld_wcode hb c, hJ _ ⟨rfl, rfl⟩⟩, fun hn => ?_⟩⟩
  simp [hc] at hn
theorem item_ok (hb : h b = some (ldO e sp mc)) (hc : mc.2 = 0) {long : Nat} (hl : long ≤ 1048576) : Spec Tryz.prog 254 [.pointer (some ⟨b, 0, none⟩), .int .i64 long] h (fun v h' => v = .bool (itemM long mc).1 ∧ h' = h.set b (ldO e sp (itemM long mc).2)) := by
  apply ok254
  unfold VC254
  intro J hJ
  have hbad : (long = 0 ∨ long % 2 = 1) → J true h := fun hc' => by
    refine hJ _ _ ⟨fun _ => (wrong_ok hb hc 4).mono ?_, fun hh => by simp at hh⟩
    rintro v h2 ⟨rfl, rfl⟩
    refine ⟨_, rfl, ?_⟩
    unfold itemM
    rw [if_pos hc']
    exact ⟨rfl, rfl⟩
  have hgood : ¬ (long = 0 ∨ long % 2 = 1) → J false h := fun hc' => by
    refine hJ _ _ ⟨fun hh => by simp at hh, fun _ => ⟨_, rfl, _, ld_many hb, _, rfl, _, ld_wmany hb _, _, rfl, _, ld_many (Heap.set_same _ _ _), fun hgt => (wrong_ok (mc := (IntKind.wrap .i64 (mc.1 + 1), mc.2)) (Heap.set_same _ _ _) hc 2).mono ?_, fun hle => ?_⟩⟩
    · have hgt : 1024 < IntKind.wrap .i64 (mc.1 + 1) := by simpa using hgt
      rintro v h2 ⟨rfl, rfl⟩
      refine ⟨_, rfl, ?_⟩
      unfold itemM
      rw [if_neg hc', if_pos hgt, Heap.set_set]
      exact ⟨rfl, rfl⟩
    · have hle : ¬ 1024 < IntKind.wrap .i64 (mc.1 + 1) := by simpa using hle
      unfold itemM
      rw [if_neg hc', if_neg hle]
      exact ⟨rfl, rfl⟩
  refine ⟨fun hz => ⟨by decide, ?_⟩, fun hz => hbad (.inl (by simpa using hz))⟩
  have hz : long ≠ 0 := by simpa using hz
  have htm : Int.tmod (long : Int) 2 = ((long % 2 : Nat) : Int) := by rw [Int.tmod_eq_emod_of_nonneg (by omega)]; omega
  rw [htm]
  by_cases ho : long % 2 = 1
  · rw [ho]; exact hbad (.inr ho)
  · have h0 : long % 2 = 0 := by omega
    rw [h0]; exact hgood (fun h => h.elim hz (fun h => by omega))
end

theorem isK_leN {h g : Heap} {b : Nat} (hl : Heap.leB b h g) (hb : ∀ e t f, h b ≠ some (knO e t f)) : ∀ {t : T} {p : Option Addr}, isK h t p → isK g t p
  | .nil, _, hk => hk
  | .leaf a v, _, ⟨c, e, f, h1, h2, h3⟩ => ⟨c, e, f, h1, hl _ _ (by rintro rfl; exact hb _ _ _ h2) h2, h3⟩
  | .ext a k, _, ⟨c, e, f, h1, h2, h3, h4⟩ => ⟨c, e, f, h1, hl _ _ (by rintro rfl; exact hb _ _ _ h2) h2, isK_leN hl hb h3, h4⟩
  | .br v ks, _, ⟨c, e, f, h1, h2, h3⟩ => ⟨c, e, f, h1, hl _ _ (by rintro rfl; exact hb _ _ _ h2) h2, fun i => isK_leN hl hb (h3 i)⟩
theorem ldO_kn {e e' : TypeId} {sp : Option Addr} {mc : MC} {t : T} {f : Fin 16 → Option Addr} : ldO e sp mc ≠ knO e' t f := by
  intro hc
  unfold ldO knO at hc
  injection hc with h1
  injection h1 with h1
  have h3 := congrArg List.length h1
  rw [kn_len (g := ⟨t.node, kl f, t.enc, t.sum, t.many⟩) (kl_len _) (kl_len _)] at h3
  simp only [List.length_cons, List.length_nil] at h3
  omega

theorem check1 {n : GApiNode} (h : checkN n = true) (hk : n.Kind = 1) : n.Kids = empties ∧ n.Path.length ≤ 16 ∧ n.Value.length ≤ 32 := by
  unfold checkN at h
  rw [if_pos hk] at h
  simp only [Bool.and_eq_true, pathOk] at h
  refine ⟨by simpa using h.1.1.1, by simpa using h.1.1.2.2, by simpa using h.2⟩
theorem check2 {n : GApiNode} (h : checkN n = true) (hk : n.Kind = 2) : n.Kids = n.Kids.headD [] :: List.replicate 15 [] ∧ (n.Kids.headD []).length = 32 ∧ 1 ≤ n.Path.length ∧ n.Path.length ≤ 16 ∧ n.Value = [] := by
  unfold checkN at h
  rw [if_neg (by omega), if_pos hk] at h
  simp only [Bool.and_eq_true, pathOk, sumsOk] at h
  refine ⟨by simpa using h.1.1.1, by simpa using h.1.1.2, by simpa using h.1.2.1.2, by simpa using h.1.2.2, by simpa using h.2⟩
theorem check3 {n : GApiNode} (h : checkN n = true) (hk : n.Kind = 3) : n.Path = [] ∧ n.Value.length ≤ 32 := by
  unfold checkN at h
  rw [if_neg (by omega), if_neg (by omega), if_pos hk] at h
  simp only [Bool.and_eq_true] at h
  exact ⟨by simpa using h.1.1.1, by simpa using h.2⟩
theorem kidsM_nil {ld : Bs → MC → T × MC} {kids : List Bs} : ∀ (i : Nat) (mc : MC) (j : Fin 16), (i ≤ 16) → (i ≤ j.val ∨ kids.getD j.val [] = []) → ((kidsM ld kids i mc).1 j).isNil = true
  | 0, _, _, _, _ => rfl
  | i + 1, mc, j, hi, hj => by
    unfold kidsM
    have ih := kidsM_nil (ld := ld) (kids := kids) i mc j (by omega)
    rcases hk : kidsM ld kids i mc with ⟨ks, mc1⟩
    rw [hk] at ih
    dsimp only at ih ⊢
    split
    · rename_i he
      dsimp only
      by_cases hji : j.val = i
      · exact ih (.inl (by omega))
      · exact ih (hj.elim (fun h => .inl (by omega)) .inr)
    · rename_i he
      dsimp only
      have hne : j ≠ Fin.ofNat 16 i := by
        rintro rfl
        have hv : (Fin.ofNat 16 i).val = i := by simp [Fin.ofNat]; omega
        rw [hv] at hj
        exact hj.elim (fun h => by omega) he
      rw [upd_other _ _ hne]
      exact ih (hj.elim (fun h => .inl (by omega)) .inr)
theorem wlong {d : Nat} {n : Nat} (h : d + n ≤ 1048576) : IntKind.wrap .i64 ((d : Int) + (n : Int)) = ((d + n : Nat) : Int) := by
  rw [wrap64 (by omega) (by omega)]; omega
end Go.Vw
namespace Go.Vw
open Go Go.Proofs

theorem mkT_some (n : GApiNode) (ks : Fin 16 → T) : (mkT n ks).isNil = false := by
  unfold mkT
  split
  · rfl
  · split <;> rfl
theorem itemM_bad {long : Nat} {mc : MC} (h : (itemM long mc).1 = false) : (itemM long mc).2.2 ≠ 0 := by
  unfold itemM at h ⊢
  split
  · simp
  · rename_i h1
    rw [if_neg h1] at h
    split
    · simp
    · rename_i h2
      rw [if_neg h2] at h
      cases h
theorem loadM_some {st : Store} {f : Nat} {sum : Bs} {d : Nat} {below : Bool} {mc : MC} (h : (loadM st (f + 1) sum d below mc).2.2 = 0) : mc.2 = 0 ∧ (loadM st (f + 1) sum d below mc).1.isNil = false := by
  unfold loadM at h ⊢
  by_cases h1 : mc.2 ≠ 0
  · rw [if_pos h1] at h
    exact absurd h h1
  · rw [if_neg h1] at h ⊢
    refine ⟨Classical.not_not.1 h1, ?_⟩
    rcases hn : nodeAt st sum with ⟨n, e⟩
    rw [hn] at h
    dsimp only at h ⊢
    by_cases h2 : e ≠ 0
    · rw [if_pos h2] at h
      exact absurd h h2
    · rw [if_neg h2] at h ⊢
      split at h
      · simp at h
      · rename_i h3
        rw [if_neg h3]
        rcases hi : (if n.Value ≠ [] then itemM (d + n.Path.length) mc else (true, mc)) with ⟨ok, mc1⟩
        rw [hi] at h
        dsimp only at h ⊢
        by_cases hok : ok = false
        · rw [if_pos hok] at h
          exfalso
          by_cases hv : n.Value ≠ []
          · rw [if_pos hv] at hi
            have := itemM_bad (long := d + n.Path.length) (mc := mc) (by rw [hi]; exact hok)
            rw [hi] at this
            exact this h
          · rw [if_neg hv] at hi
            injection hi with hi _
            rw [← hi] at hok
            cases hok
        · rw [if_neg hok] at h ⊢
          rcases hk : kidsM (fun s mc => loadM st f s (if n.Kind = 2 then d + n.Path.length else d + 1) (n.Kind == 2) mc) n.Kids 16 mc1 with ⟨ks, mc2⟩
          rw [hk] at h
          dsimp only at h ⊢
          by_cases h4 : mc2.2 ≠ 0
          · rw [if_pos h4] at h
            exact absurd h h4
          · rw [if_neg h4]
            exact mkT_some _ _
theorem kidsM_some {ld : Bs → MC → T × MC} {kids : List Bs} (hld : ∀ s mc, (ld s mc).2.2 = 0 → mc.2 = 0 ∧ (ld s mc).1.isNil = false) :
    ∀ (i : Nat) (mc : MC), i ≤ 16 → (kidsM ld kids i mc).2.2 = 0 → mc.2 = 0 ∧ ∀ j : Fin 16, j.val < i → kids.getD j.val [] ≠ [] → ((kidsM ld kids i mc).1 j).isNil = false
  | 0, mc, _, h => ⟨h, fun j hj => absurd hj (by omega)⟩
  | i + 1, mc, hi, h => by
    unfold kidsM at h ⊢
    have ih := kidsM_some (kids := kids) hld i mc (by omega)
    rcases hk : kidsM ld kids i mc with ⟨ks, mc1⟩
    rw [hk] at ih h
    dsimp only at ih h ⊢
    have hv : (Fin.ofNat 16 i).val = i := by simp [Fin.ofNat]; omega
    by_cases he : kids.getD i [] = []
    · rw [if_pos he] at h ⊢
      have ih := ih h
      refine ⟨ih.1, fun j hj hne => ih.2 j ?_ hne⟩
      have : j.val ≠ i := fun e => hne (by rw [e]; exact he)
      omega
    · rw [if_neg he] at h ⊢
      have hl := hld _ _ h
      have ih := ih hl.1
      refine ⟨ih.1, fun j hj hne => ?_⟩
      dsimp only
      by_cases hji : j = Fin.ofNat 16 i
      · rw [hji, upd_same]; exact hl.2
      · rw [upd_other _ _ hji]
        refine ih.2 j ?_ hne
        have : j.val ≠ i := fun e => hji (Fin.ext (by rw [hv]; exact e))
        omega

set_option maxHeartbeats 2000000 in
theorem load_ok : ∀ (f : Nat) {h0 h : Heap} {lb mb : Nat} {e : TypeId} {sp : Option Addr} {st : Store} {mc : MC} {sum place : Bs} {below : Bool}, isS h0 sp mb st → StOk st → KH h0 → h0 lb = none → h0.le h → h lb = some (ldO e sp mc) → place.length ≤ 17 → 18 ≤ f + place.length →
    Spec Tryz.prog 173 [.pointer (some ⟨lb, 0, none⟩), S sum, S place, .bool below] h (fun v h' => ∃ p, v = .pointer p ∧ Heap.leB lb h h' ∧ h' lb = some (ldO e sp (loadM st f sum place.length below mc).2) ∧ isK h' (loadM st f sum place.length below mc).1 p)
  | 0, h0, h, lb, mb, e, sp, st, mc, sum, place, below, _, _, _, _, _, _, hd, hf => absurd hf (by omega)
  | f + 1, h0, h, lb, mb, e, sp, st, mc, sum, place, below, hS, hO, hK, hln, hle, hb, hd, hf => by
    apply ok173
    unfold VC173
    obtain ⟨res, hres⟩ : ∃ res, res = loadM st (f + 1) sum place.length below mc := ⟨_, rfl⟩
    rw [← hres]
    unfold loadM at hres
    refine ⟨_, rfl, _, ld_code hb, fun hc => ?_, fun hc => ?_⟩
    · have hc : mc.2 ≠ 0 := by simpa using hc
      rw [if_pos hc] at hres
      subst hres
      exact ⟨none, rfl, Heap.leB_refl _ _, hb, rfl⟩
    · have hc : mc.2 = 0 := by simpa using hc
      rw [if_neg (fun h => h hc)] at hres
      refine ⟨_, rfl, sp, by rw [add_zero']; exact ld_s hb, (snode_ok (isS_le hle hS) hO).mono ?_⟩
      rintro v h1 ⟨rfl, rfl⟩
      have hchk := nodeAt_check (st := st) (s := sum)
      have hkl := nodeAt_kids st sum
      rcases hn : nodeAt st sum with ⟨n, c⟩
      rw [hn] at hres hchk hkl
      dsimp only at hres hchk hkl ⊢
      refine ⟨n, c, rfl, ⟨node_len hkl, node_len hkl⟩, fun hcc => ?_, fun hcc J hJ => ?_⟩
      · have hcc : c ≠ 0 := by simpa using hcc
        rw [if_pos hcc] at hres
        subst hres
        refine (wrong_ok hb hc c).mono ?_
        rintro v h2 ⟨rfl, rfl⟩
        exact ⟨none, rfl, none, rfl, fun x o hx ho => by rw [Heap.set_other _ _ hx]; exact ho, Heap.set_same _ _ _, rfl⟩
      · have hcc : c = 0 := by simpa using hcc
        have hchk := hchk hcc
        rw [if_neg (fun h => h hcc)] at hres
        have hkind := check_kind hchk
        have hpl : n.Path.length ≤ 16 := by
          rcases hkind with h | h | h
          · exact (check1 hchk h).2.1
          · exact (check2 hchk h).2.2.2.1
          · rw [(check3 hchk h).1]; simp
        have hvl : n.Value.length ≤ 32 := by
          rcases hkind with h | h | h
          · exact (check1 hchk h).2.2
          · rw [(check2 hchk h).2.2.2.2]; simp
          · exact (check3 hchk h).2
        have hw := wlong (d := place.length) (n := n.Path.length) (by omega)
        have inner : ∀ b : Bool, b = decide (n.Kind = 3 ∧ n.Kids ≠ empties) → J b h1 := by
          intro b hbi
          refine hJ _ _ fun J1 hJ1 => ?_
          rw [hw]
          have jbad : ((below = true ∧ n.Kind ≠ 3) ∨ 16 < place.length + n.Path.length ∨ ((n.Kind = 3 ∧ n.Kids ≠ empties) ∧ 16 ≤ place.length + n.Path.length)) → J1 true h1 := fun hcond => by
            refine hJ1 _ _ ⟨fun _ => (wrong_ok hb hc 4).mono ?_, fun hh => by simp at hh⟩
            rw [if_pos hcond] at hres
            rintro v h2 ⟨rfl, rfl⟩
            subst hres
            exact ⟨none, rfl, none, rfl, fun x o hx ho => by rw [Heap.set_other _ _ hx]; exact ho, Heap.set_same _ _ _, rfl⟩
          have jgood : ¬ ((below = true ∧ n.Kind ≠ 3) ∨ 16 < place.length + n.Path.length ∨ ((n.Kind = 3 ∧ n.Kids ≠ empties) ∧ 16 ≤ place.length + n.Path.length)) → J1 false h1 := fun hcond => by
            refine hJ1 _ _ ⟨fun hh => by simp at hh, fun _ J2 hJ2 => ?_⟩
            rw [if_neg hcond] at hres
            obtain ⟨long, hlong⟩ : ∃ long, long = place.length + n.Path.length := ⟨_, rfl⟩
            rw [← hlong] at hres hcond hw
            rw [hw]
            have hlong16 : long ≤ 16 := by
              rcases Nat.lt_or_ge 16 long with h | h
              · exact absurd (.inr (.inl h)) hcond
              · exact h
            have fin2 : ∀ (ok : Bool) (mc1 : MC) (h2 : Heap), (ok, mc1) = (if n.Value ≠ [] then itemM long mc else (true, mc)) → Heap.leB lb h1 h2 → h2 lb = some (ldO e sp mc1) → J2 (!ok) h2 := by
              intro ok mc1 h2 hok hB2 hb2
              rw [← hok] at hres
              dsimp only at hres
              cases ok with
              | false =>
                rw [if_pos rfl] at hres
                subst hres
                exact hJ2 _ _ ⟨fun _ => ⟨none, rfl, hB2, hb2, rfl⟩, fun hh => by simp at hh⟩
              | true =>
                rw [if_neg (by decide)] at hres
                obtain ⟨ld, hld⟩ : ∃ ld : Bs → MC → T × MC, ld = fun s mc => loadM st f s (if n.Kind = 2 then long else place.length + 1) (n.Kind == 2) mc := ⟨_, rfl⟩
                rw [← hld] at hres
                have hle2 : h0.le h2 := fun x o ho => hB2 _ _ (by rintro rfl; rw [hln] at ho; cases ho) (hle _ _ ho)
                refine hJ2 _ _ ⟨fun hh => by simp at hh, fun _ => ⟨n.Kids, node_sub hkl, ?_⟩⟩
                refine ⟨fun n2 l4 h7 => (0 ≤ n2 ∧ n2 ≤ 16 ∧ Heap.leB lb h1 h7 ∧ h7 lb = some (ldO e sp (kidsM ld n.Kids n2.toNat mc1).2) ∧ KL h7 (kidsM ld n.Kids n2.toNat mc1).1 l4, 16 - n2.toNat), ⟨List.replicate 16 none, rfl, by decide, by decide, hB2, hb2, KL.none h2⟩, ?_⟩
                rintro n2 l4 h7 ⟨hn0, hn16, hB7, hb7, hkl7⟩
                obtain ⟨i, rfl⟩ : ∃ j : Nat, n2 = j := ⟨n2.toNat, by omega⟩
                rw [Int.toNat_natCast] at hb7 hkl7
                have hle7 : h0.le h7 := fun x o ho => hB7 _ _ (by rintro rfl; rw [hln] at ho; cases ho) (hle _ _ ho)
                refine ⟨fun hlt J3 hJ3 => ?_, fun hge => ?_⟩
                · have hi : i < 16 := by simp at hlt; omega
                  have e1 : IntKind.wrap .i64 ((i : Int) + 1) = ((i + 1 : Nat) : Int) := by rw [wrap64 (by omega) (by omega)]; omega
                  rw [e1] at hJ3
                  simp only [Int.toNat_natCast] at hJ3 ⊢
                  have hks : kidsM ld n.Kids (i + 1) mc1 = (if n.Kids.getD i [] = [] then kidsM ld n.Kids i mc1 else (upd (kidsM ld n.Kids i mc1).1 (Fin.ofNat 16 i) (ld (n.Kids.getD i []) (kidsM ld n.Kids i mc1).2).1, (ld (n.Kids.getD i []) (kidsM ld n.Kids i mc1).2).2)) := by
                    conv => lhs; unfold kidsM
                  refine ⟨⟨by omega, by omega⟩, n.Kids.getD i [], ng (by omega), fun he => ⟨l4, rfl, ?_⟩, fun hne => ⟨[UInt8.ofNat i], ?_, by simp; omega, fun J4 hJ4 => ?_⟩⟩
                  · have he : n.Kids.getD i [] = [] := by simpa using he
                    rw [if_pos he] at hks
                    exact hJ3 _ _ ⟨l4, rfl, ⟨by omega, by omega, hB7, by rw [hks]; exact hb7, by rw [hks]; exact hkl7⟩, by show 16 - (i + 1) < 16 - i; omega⟩
                  · rw [wrapU8 (by omega) (by omega)]; simp [byteV]; omega
                  · have hne : ¬ n.Kids.getD i [] = [] := by simpa using hne
                    rw [if_neg hne] at hks
                    have hk1 : n.Kind ≠ 1 := by
                      intro h1
                      have := (check1 hchk h1).1
                      rw [this] at hne
                      exact hne (rep_getD i)
                    have go : ∀ pl : Bs, pl.length = (if n.Kind = 2 then long else place.length + 1) → pl.length ≤ 17 → 18 ≤ f + pl.length → J4 pl h7 := by
                      intro pl hpl1 hpl2 hpl3
                      refine hJ4 _ _ ((load_ok f hS hO hK hln hle7 hb7 hpl2 hpl3).mono ?_)
                      rintro v h8 ⟨p8, rfl, hB8, hb8, hk8⟩
                      have hldv : ld (n.Kids.getD i []) (kidsM ld n.Kids i mc1).2 = loadM st f (n.Kids.getD i []) pl.length (n.Kind == 2) (kidsM ld n.Kids i mc1).2 := by
                        rw [hpl1, hld]
                      rw [← hldv] at hb8 hk8
                      refine ⟨p8, rfl, ⟨by omega, by omega⟩, by rw [List.length_map, hkl7.len]; omega, l4.set i p8, by exact pv_set, hJ3 _ _ ⟨_, rfl, ⟨by omega, by omega, Heap.leB_trans hB7 hB8, by rw [hks]; exact hb8, ?_⟩, by show 16 - (i + 1) < 16 - i; omega⟩⟩
                      rw [hks]
                      obtain ⟨fk, rfl, hfk⟩ := hkl7
                      have hv : (Fin.ofNat 16 i).val = i := by simp [Fin.ofNat]; omega
                      refine ⟨fun j => if j = Fin.ofNat 16 i then p8 else fk j, ?_, fun j => ?_⟩
                      · conv => lhs; rw [← hv]
                        exact kl_set fk (Fin.ofNat 16 i) p8
                      · show isK h8 (if j = Fin.ofNat 16 i then _ else _) (if j = Fin.ofNat 16 i then p8 else fk j)
                        by_cases hj : j = Fin.ofNat 16 i
                        · rw [if_pos hj, if_pos hj]; exact hk8
                        · rw [if_neg hj, if_neg hj]
                          exact isK_leN hB8 (fun e t f hc => by rw [hb7] at hc; injection hc with hc; exact ldO_kn hc) (hfk j)
                    refine ⟨fun h2 => ⟨by omega, go _ ?_ ?_ ?_⟩, fun h2 => go _ ?_ ?_ ?_⟩
                    · have h2 : n.Kind = 2 := by simpa using h2
                      rw [if_pos h2, List.length_append, hlong]
                    · rw [List.length_append]; omega
                    · have h2 : n.Kind = 2 := by simpa using h2
                      have := (check2 hchk h2).2.2.1
                      rw [List.length_append]; omega
                    · have h2 : ¬ n.Kind = 2 := by simpa using h2
                      rw [if_neg h2, List.length_append, List.length_singleton]
                    · have h2 : ¬ n.Kind = 2 := by simpa using h2
                      have h3 : n.Kind = 3 := by rcases hkind with h | h | h; exact absurd h hk1; exact absurd h h2; exact h
                      have hne' : n.Kids ≠ empties := by
                        intro he
                        rw [he] at hne
                        exact hne (rep_getD i)
                      have : ¬ 16 ≤ long := fun h => hcond (.inr (.inr ⟨⟨h3, hne'⟩, h⟩))
                      rw [List.length_append, List.length_singleton]; omega
                    · rw [List.length_append, List.length_singleton]; omega
                · have hi : i = 16 := by simp at hge; omega
                  subst hi
                  rcases hkm : kidsM ld n.Kids 16 mc1 with ⟨ks, mc2⟩
                  have hnil := fun j h => kidsM_nil (ld := ld) (kids := n.Kids) 16 mc1 j (Nat.le_refl _) (.inr h)
                  have hsome := kidsM_some (ld := ld) (kids := n.Kids) (by
                    intro s mc hz
                    obtain ⟨f', rfl⟩ : ∃ f', f = f' + 1 := ⟨f - 1, by omega⟩
                    rw [hld] at hz ⊢
                    exact loadM_some hz) 16 mc1 (Nat.le_refl _)
                  rw [hkm] at hres hb7 hkl7 hnil hsome
                  dsimp only at hres hb7 hkl7 hnil hsome
                  refine ⟨_, rfl, _, ld_code hb7, fun hc2 => ?_, fun hc2 => ?_⟩
                  · have hc2 : mc2.2 ≠ 0 := by simpa using hc2
                    rw [if_pos hc2] at hres
                    subst hres
                    exact ⟨none, rfl, hB7, hb7, rfl⟩
                  · have hc2 : mc2.2 = 0 := by simpa using hc2
                    rw [if_neg (fun h => h hc2)] at hres
                    have hsome := (hsome hc2).2
                    obtain ⟨fk, rfl, hfk⟩ := hkl7
                    have hnilk : ∀ {t : T}, t.isNil = true → t = .nil := fun {t} h => by cases t <;> first | rfl | cases h
                    have hmk : (mkT n ks).kind = n.Kind ∧ (mkT n ks).path = n.Path ∧ (mkT n ks).val = n.Value ∧ (∀ i, (mkT n ks).kids i = ks i) := by
                      unfold mkT
                      rcases hkind with h | h | h
                      · rw [if_pos h]
                        refine ⟨h.symm, rfl, rfl, fun i => ?_⟩
                        have : n.Kids.getD i.val [] = [] := by rw [(check1 hchk h).1]; exact rep_getD _
                        rw [hnilk (hnil i this)]; rfl
                      · rw [if_neg (by omega), if_pos h]
                        have h2 := check2 hchk h
                        refine ⟨h.symm, rfl, h2.2.2.2.2.symm, fun i => ?_⟩
                        rw [kids_ext]
                        by_cases hi : i = 0
                        · rw [if_pos hi, hi]
                        · rw [if_neg hi]
                          have : n.Kids.getD i.val [] = [] := by
                            rw [h2.1]
                            obtain ⟨j, hj⟩ : ∃ j, i.val = j + 1 := ⟨i.val - 1, by have : i.val ≠ 0 := fun h => hi (Fin.ext h); omega⟩
                            rw [hj, List.getD, List.getElem?_cons_succ, List.getElem?_replicate]
                            split <;> rfl
                          rw [hnilk (hnil i this)]
                      · rw [if_neg (by omega), if_neg (by omega)]
                        exact ⟨h.symm, (check3 hchk h).1.symm, rfl, fun i => rfl⟩
                    have hms : (mkT n ks).small := ⟨by rw [hmk.2.1]; omega, by rw [hmk.2.2.1]; omega⟩
                    refine ⟨node_len hkl, by rw [List.length_map, kl_len], (tied_ok (h := h7) (t := mkT n ks) (mkT_some _ _) hms (f := fk) (fun i => by rw [hmk.2.2.2 i]; exact hfk i) (n0 := n) hkl hmk.1.symm hmk.2.1.symm hmk.2.2.1.symm (fun i hin => ?_) (hK.le hle7)).mono ?_⟩
                    · rw [hmk.2.2.2 i] at hin
                      by_cases hg : n.Kids.getD i.val [] = []
                      · exact hg
                      · have := hsome i i.isLt hg
                        rw [hin] at this; cases this
                    · rintro v h10 ⟨hle10, p14, rfl, hp14⟩
                      subst hres
                      exact ⟨p14, rfl, p14, rfl, Heap.leB_trans hB7 (Heap.le_leB hle10 _), hle10 _ _ hb7, hp14⟩
            refine ⟨fun hv => ?_, fun hv => ?_⟩
            · have hv : n.Value ≠ [] := by simpa using hv
              refine (item_ok hb hc (long := long) (by omega)).mono ?_
              rintro v h2 ⟨rfl, rfl⟩
              refine ⟨_, rfl, fin2 _ _ _ (by rw [if_pos hv]) (fun x o hx ho => by rw [Heap.set_other _ _ hx]; exact ho) (Heap.set_same _ _ _)⟩
            · have hv : ¬ n.Value ≠ [] := by simpa using hv
              exact fin2 true mc h1 (by rw [if_neg hv]) (Heap.leB_refl _ _) hb
          have ge16 : decide (((place.length + n.Path.length : Nat) : Int) ≥ 16) = decide (16 ≤ place.length + n.Path.length) := by apply decide_eq_decide.2; omega
          have gt16 : decide (((place.length + n.Path.length : Nat) : Int) > 16) = decide (16 < place.length + n.Path.length) := by apply decide_eq_decide.2; omega
          rw [ge16, gt16]
          have third : ¬ (below = true ∧ n.Kind ≠ 3) → (decide (16 < place.length + n.Path.length) = false → (b = true → J1 (decide (16 ≤ place.length + n.Path.length)) h1) ∧ (b = false → J1 false h1)) ∧ (decide (16 < place.length + n.Path.length) = true → J1 true h1) := by
            intro h1n
            refine ⟨fun hgt => ⟨fun hb1 => ?_, fun hb0 => ?_⟩, fun hgt => jbad (.inr (.inl (by simpa using hgt)))⟩
            · rw [hb1] at hbi
              have hin : n.Kind = 3 ∧ n.Kids ≠ empties := by simpa using hbi.symm
              by_cases h16 : 16 ≤ place.length + n.Path.length
              · have : decide (16 ≤ place.length + n.Path.length) = true := by simpa using h16
                rw [this]; exact jbad (.inr (.inr ⟨hin, h16⟩))
              · have : decide (16 ≤ place.length + n.Path.length) = false := by simpa using h16
                rw [this]
                refine jgood fun hc => ?_
                rcases hc with h | h | h
                · exact h1n h
                · simp at hgt; omega
                · exact h16 h.2
            · rw [hb0] at hbi
              have hin : ¬ (n.Kind = 3 ∧ n.Kids ≠ empties) := by
                have := of_decide_eq_false hbi.symm
                exact this
              refine jgood fun hc => ?_
              rcases hc with h | h | h
              · exact h1n h
              · simp at hgt; omega
              · exact hin h.1
          refine ⟨fun hbl => ⟨fun hk => third (fun hc => ?_), fun hk => jbad (.inl ⟨hbl, ?_⟩)⟩, fun hbl => third (fun hc => ?_)⟩
          · have hk : n.Kind = 3 := by simpa using hk
            exact hc.2 hk
          · simpa using hk
          · rw [hbl] at hc; exact absurd hc.1 (by decide)
        refine ⟨fun hk3 => ⟨n.Kids, node_sub hkl, rfl, n.Kids, empties, rfl, rfl, ⟨hkl, rfl⟩, inner _ ?_⟩, fun hk3 => inner _ ?_⟩
        · have hk3 : n.Kind = 3 := by simpa using hk3
          by_cases he : n.Kids = empties
          · have : (n.Kids == empties) = true := by simpa using he
            rw [this]
            symm; simp [he]
          · have : (n.Kids == empties) = false := by simpa using he
            rw [this]
            symm; simp [hk3, he]
        · have hk3 : ¬ n.Kind = 3 := by simpa using hk3
          symm; simp [hk3]
end Go.Vw
namespace Go.Vw
open Go Go.Proofs

theorem tload_ok {h : Heap} {sp : Option Addr} {mb : Nat} {st : Store} {root : Bs} (hS : isS h sp mb st) (hO : StOk st) (hK : KH h) :
    Spec Tryz.prog 76 [.pointer sp, S root] h (fun v h' => h.le h' ∧ ∃ q, v = .tuple ⟨[.pointer q, .int .i64 (loadTop st root).2]⟩ ∧ ((loadTop st root).2 = 0 → isT h' q (loadTop st root).1) ∧ ((loadTop st root).2 ≠ 0 → q = none)) := by
  apply ok76
  unfold VC76
  obtain ⟨res, hres⟩ : ∃ res, res = loadTop st root := ⟨_, rfl⟩
  rw [← hres]
  unfold loadTop at hres
  refine ⟨fun he => ?_, fun hne b hb => ?_⟩
  · have he : root = [] := by simpa using he
    rw [if_pos he] at hres
    subst hres
    refine tnew_ok.mono ?_
    rintro v h1 ⟨hle, p, rfl, hp⟩
    exact ⟨p, rfl, hle, p, rfl, fun _ => hp, fun h => absurd rfl h⟩
  · have hne : root ≠ [] := by simpa using hne
    rw [if_neg hne] at hres
    rcases hl : loadM st 20 root 0 false (0, 0) with ⟨t, mc⟩
    rw [hl] at hres
    dsimp only at hres
    have hle := Heap.le_set (h := h) (ldO 277 sp (0, 0)) hb
    refine (load_ok 20 (place := []) (sum := root) (below := false) hS hO hK hb hle (Heap.set_same _ _ _) (by simp) (by simp)).mono ?_
    rintro v h2 ⟨p, rfl, hB, hb2, hk⟩
    have e0 : ([] : Bs).length = 0 := rfl
    rw [e0, hl] at hb2 hk
    dsimp only at hb2 hk
    have hle2 : h.le h2 := fun x o ho => by
      have hxb : x ≠ b := Heap.ne_of hb ho
      exact hB _ _ hxb (by rw [Heap.set_other _ _ hxb]; exact ho)
    refine ⟨p, rfl, _, ld_code hb2, fun hc => ⟨_, ld_code hb2, hle2, ?_⟩, fun hc b1 hb1 => ?_⟩
    · have hc : mc.2 ≠ 0 := by simpa using hc
      rw [if_pos hc] at hres
      subst hres
      exact ⟨none, rfl, fun h => absurd h hc, fun _ => rfl⟩
    · have hc : mc.2 = 0 := by simpa using hc
      rw [if_neg (fun h => h hc)] at hres
      subst hres
      have hle3 := Heap.le_set (h := h2) (Obj.cells ⟨[Value.pointer p]⟩ 153 (0, 0)) hb1
      exact ⟨Heap.le_trans hle2 hle3, _, rfl, fun _ => ⟨b1, 153, p, rfl, Heap.set_same _ _ _, isK_le hle3 hk⟩, fun h => absurd rfl h⟩

theorem enc_len {t : T} {d : Nat} (h : t.Fits d) : t.enc.length ≤ 33554432 := encN_len (T.nodeOk h.small)
theorem nodes_enc : ∀ {t : T} {d : Nat}, t.Fits d → ∀ s ∈ t.nodes, s.length ≤ 33554432
  | .nil, _, _, s, hs => by cases hs
  | .leaf p v, d, h, s, hs => by
    have : s = (T.leaf p v).enc := List.mem_singleton.1 hs
    rw [this]; exact enc_len h
  | .ext p k, d, h, s, hs => by
    have hF := h
    unfold T.Fits at h
    rcases List.mem_cons.1 hs with rfl | hs
    · exact enc_len hF
    · exact nodes_enc h.2.2.2.2 s hs
  | .br v ks, d, h, s, hs => by
    have hF := h
    unfold T.Fits at h
    rcases List.mem_cons.1 hs with rfl | hs
    · exact enc_len hF
    · obtain ⟨i, _, hs⟩ := List.mem_flatMap.1 hs
      exact nodes_enc (h.2.2.2.2 i) s hs

def saveM (st : Store) (l : List Bs) : Store := l.foldl stPut st
theorem rowLeB {h g : Heap} {b : Nat} {p : Option Addr} {st : Store} (hl : Heap.leB b h g) (hS : isS h p b st) {a : Option Addr} {n : Nat} {v : List Value} (hv : rowOf h a n = some v) : rowOf g a n = some v := by
  obtain ⟨es, c, hb⟩ := isS_map hS
  exact rowOf_leB hl hb hv
theorem row_rd {h : Heap} {a : Option Addr} {n : Nat} {l : List Bs} (hr : rowOf h a n = some (sv l)) {i : Nat} (hi : i < n) : ∃ ad, a = some ad ∧ rd h (Addr.add ad (i * 1)) = some (S (l.getD i [])) := by
  have hlen := row_len hr
  rw [List.length_map] at hlen
  cases a with
  | none =>
    unfold rowOf at hr
    dsimp only at hr
    rw [if_neg (by omega)] at hr
    cases hr
  | some ad =>
    refine ⟨ad, rfl, ?_⟩
    rw [Nat.mul_one, rd_of_rdn hr hi]
    have := ng (l := l) (i := i) (by omega)
    rwa [Nat.mul_one] at this
theorem save_ok {h : Heap} {p sp : Option Addr} {mb : Nat} {st : Store} {t : T} (hk : isT h p t) (hF : t.Fits 0) (hs : t.size ≤ 1000000) (hS : isS h sp mb st) (hK : KH h) :
    Spec Tryz.prog 68 [.pointer p, .pointer sp] h (fun v h' => v = S t.sum ∧ isS h' sp mb (saveM st t.nodes) ∧ Heap.leB mb h h') := by
  apply ok68
  unfold VC68
  refine (tnodes_ok hk hF hs).mono ?_
  rintro v h1 ⟨hle1, sl, rfl, g⟩
  refine ⟨sl, rfl, ?_⟩
  have hS1 := isS_le hle1 hS
  obtain ⟨es, c, hmb1⟩ := isS_map hS1
  have hlen := grow_len g
  have hnl := (nodes_len hF).1
  have hrow := g.row
  rw [Nat.mul_one] at hrow
  refine ⟨fun i h2 => (0 ≤ i ∧ i ≤ sl.len ∧ Heap.leB mb h1 h2 ∧ isS h2 sp mb (saveM st (t.nodes.take i.toNat)), sl.len - i.toNat), ⟨by omega, by omega, Heap.leB_refl _ _, hS1⟩, ?_⟩
  rintro i h2 ⟨h0, hi, hB, hS2⟩
  obtain ⟨i, rfl⟩ : ∃ j : Nat, i = j := ⟨i.toNat, by omega⟩
  rw [Int.toNat_natCast] at hS2
  have hK2 := (hK.le hle1).leB hB hmb1
  refine ⟨fun hlt => ?_, fun hge => ?_⟩
  · have hi : i < sl.len := by simp at hlt; omega
    have e1 : IntKind.wrap .i64 ((i : Int) + 1) = ((i + 1 : Nat) : Int) := by rw [wrap64 (by omega) (by omega)]; omega
    rw [e1]
    simp only [Int.toNat_natCast]
    obtain ⟨ad, had, hrd⟩ := row_rd (rowLeB hB hS1 hrow) hi
    have hm : t.nodes.getD i [] ∈ t.nodes := by
      have : i < t.nodes.length := by omega
      simp [List.getD, List.getElem?_eq_getElem this]
    have hel := nodes_enc hF _ hm
    refine ⟨⟨by omega, by omega⟩, ad, had, _, hrd, (sput_ok hS2 hK2 (by omega)).mono ?_⟩
    rintro v h3 ⟨rfl, hS3, hB3⟩
    refine ⟨_, rfl, ⟨by omega, by omega, Heap.leB_trans hB hB3, ?_⟩, by show sl.len - (i + 1) < sl.len - i; omega⟩
    rw [take_succ_getD (d := []) (by omega)]
    have : saveM st (t.nodes.take i ++ [t.nodes.getD i []]) = stPut (saveM st (t.nodes.take i)) (t.nodes.getD i []) := by
      unfold saveM; rw [List.foldl_append]; rfl
    rw [this]; exact hS3
  · have hi : i = sl.len := by simp at hge; omega
    subst hi
    rw [List.take_of_length_le (by omega)] at hS2
    refine (troot_ok (isT_leB hB hmb1 (isT_le hle1 hk))).mono ?_
    rintro v h4 ⟨rfl, rfl⟩
    exact ⟨_, rfl, rfl, hS2, Heap.leB_trans (Heap.le_leB hle1 _) hB⟩
theorem sumT_len (t : Bs) : (sumT t).length = 32 := by unfold sumT; exact shaM_len _
theorem kPut_new {k t : Bs} : ∀ {l : Store}, k ∉ l.map (·.1) → kPut .str l k t = l ++ [(k, t)]
  | [], _ => rfl
  | p :: r, hm => by
    unfold kPut
    have : ¬ kEq .str k p.1 = true := by
      intro he
      have : k = p.1 := by simpa [kEq] using he
      exact hm (by rw [this]; exact List.mem_cons_self ..)
    rw [if_neg this, kPut_new (l := r) (fun hc => hm (List.mem_cons_of_mem _ hc))]
    rfl
theorem good_snoc {st : Store} (h : StGood st) {k t : Bs} (hn : k ∉ st.map (·.1)) (hk : k.length ≤ 1048576) (ht : t.length ≤ 1073741823) : StGood (st ++ [(k, t)]) := by
  refine ⟨?_, ?_⟩
  · rw [List.map_append]
    refine List.nodup_append.2 ⟨h.nd, by simp, ?_⟩
    intro a ha b hb hab
    rw [List.map_cons, List.map_nil, List.mem_singleton] at hb
    rw [hab, hb] at ha
    exact hn ha
  · intro q hq
    rcases List.mem_append.1 hq with hq | hq
    · exact h.len q hq
    · rw [List.mem_singleton] at hq
      subst hq
      exact ⟨hk, ht⟩
theorem stPut_good {st : Store} (h : StGood st) {t : Bs} (ht : t.length ≤ 1073741823) : StGood (stPut st t) ∧ (stPut st t).length ≤ st.length + 1 := by
  have hl := sumT_len t
  unfold stPut
  generalize sumT t = k at hl ⊢
  split
  · exact ⟨h, by omega⟩
  · rename_i hn
    rw [kPut_new (stFind_none.1 hn)]
    exact ⟨good_snoc h (stFind_none.1 hn) (by omega) ht, by simp⟩
theorem saveM_good {st : Store} (h : StGood st) : ∀ {l : List Bs}, (∀ s ∈ l, s.length ≤ 1073741823) → StGood (saveM st l) ∧ (saveM st l).length ≤ st.length + l.length
  | [], _ => ⟨h, by simp [saveM]⟩
  | s :: l, hl => by
    have h1 := stPut_good h (hl s (List.mem_cons_self ..))
    have h2 := saveM_good (st := stPut st s) h1.1 (l := l) (fun x hx => hl x (List.mem_cons_of_mem _ hx))
    have e : saveM st (s :: l) = saveM (stPut st s) l := rfl
    rw [e, List.length_cons]
    exact ⟨h2.1, by omega⟩
end Go.Vw
