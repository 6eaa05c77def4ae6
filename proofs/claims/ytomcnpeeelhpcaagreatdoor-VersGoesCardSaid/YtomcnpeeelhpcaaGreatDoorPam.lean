/-
  The chapter's example, walked. Acts, and whether they are long. What goes and what stays, as plain data. VersGoes, walked.
-/
import Derived.Test.YtomcnpeeelhpcaaGreatDoorPal
namespace Go.Vw
open Go Go.Proofs

theorem vX_fresh {h : Heap} {a rm mb : Nat} (ha : h a = none) (hr : h rm = none) (hm : h mb = none) : ∀ c, vX a rm mb c → h c = none := by
  rintro c (rfl | rfl | rfl) <;> assumption
theorem vgoodA {k1 : Bs} (hA : sumT eA = k1) : (VA k1).t.Fits 0 ∧ (VA k1).t.size ≤ 1024 → VGood (VA k1) := by
  rintro ⟨h1, h2⟩
  have := (good0.commit (height := 1) (cs := csA) (by rw [cmA hA]; exact h1) (by rw [cmA hA]; exact h2)).1
  rwa [cmA hA] at this
theorem vgoodB {k1 k2 : Bs} (hG : VGood (VA k1)) (hB : sumT eB = k2) (hne : k1 ≠ k2) : (VB k1 k2).t.Fits 0 ∧ (VB k1 k2).t.size ≤ 1024 → VGood (VB k1 k2) := by
  rintro ⟨h1, h2⟩
  have := (hG.commit (height := 2) (cs := csB) (by rw [cmB hB hne]; exact h1) (by rw [cmB hB hne]; exact h2)).1
  rwa [cmB hB hne] at this
set_option maxHeartbeats 1000000 in
theorem works_ok {h : Heap} (hK : KH h) : Spec Tryz.prog 10 [] h (fun v h' => h.le h' ∧ v = .bool true) := by
  apply ok10
  unfold VC10
  obtain ⟨k1, hA⟩ : ∃ k, sumT eA = k := ⟨_, rfl⟩
  obtain ⟨k2, hB⟩ : ∃ k, sumT eB = k := ⟨_, rfl⟩
  have hne : k1 ≠ k2 := by rw [← hA, ← hB]; exact neAB
  have hk1 : k1 ≠ [] := by rw [← hA]; exact sum_ne _
  have hk2 : k2 ≠ [] := by rw [← hB]; exact sum_ne _
  have sA : tA.sum = k1 := by rw [tA_sum, hA]
  have sB : tB.sum = k2 := by rw [tB_sum, hB]
  refine vnew_ok.mono ?_
  rintro v h1 ⟨hle1, a, rm, mb, rfl, ha, hr, hm, hV⟩
  have hX := vX_fresh ha hr hm
  refine ⟨_, rfl, fun h => (by cases h), fun _ => ⟨rfl, fun b hb => ?_⟩⟩
  have hleb := Heap.le_set (h := h1) (Obj.cells ⟨cGApiItem ⟨[97], [49]⟩⟩ 43 (0, 0)) hb
  have c1 := commit_ok (height := 1) (ch := ⟨some ⟨b, 0, none⟩, 1, 1⟩) (cs := csA) (isV_le hleb hV) (fits_nil 0) (Nat.zero_le _) (hK.le (Heap.le_trans hle1 hleb)) (fun _ => rows1 (Heap.set_same _ _ _)) rfl (by decide)
  rw [cmA hA] at c1
  refine c1.mono ?_
  clear c1
  rintro v h2 ⟨rfl, hV2, hl2, hF2, hs2⟩
  have hGA := vgoodA hA ⟨hF2, hs2⟩
  have hle2 := le_of_leV (Heap.le_trans hle1 hleb) hl2 hX
  refine ⟨k1, 0, rfl, rfl, fun b1 hb1 => ?_⟩
  have hleb1 := Heap.le_set (h := h2) (Obj.cells ⟨cGApiItem ⟨[97], [50]⟩⟩ 43 (0, 0)) hb1
  have c2 := commit_ok (height := 2) (ch := ⟨some ⟨b1, 0, none⟩, 1, 1⟩) (cs := csB) (isV_le hleb1 hV2) hF2 hs2 (hK.le (Heap.le_trans hle2 hleb1)) (fun _ => rows1 (Heap.set_same _ _ _)) rfl (by decide)
  rw [cmB hB hne] at c2
  refine c2.mono ?_
  clear c2
  rintro v h3 ⟨rfl, hV3, hl3, hF3, hs3⟩
  have hGB := vgoodB hGA hB hne ⟨hF3, hs3⟩
  have hle3 := le_of_leV (Heap.le_trans hle2 hleb1) hl3 hX
  have a1 := at_ok (height := 1) hV3 hGB (hK.le hle3)
  rw [atB1 hk1] at a1
  refine ⟨k2, 0, rfl, a1.mono ?_⟩
  clear a1
  rintro v h4 ⟨hle4, p1, rfl, hT4, _⟩
  have hT4 := hT4 rfl
  refine ⟨p1, 0, rfl, fun J hJ => ⟨fun _ => ⟨fun _ => ⟨fun _ => ⟨fun _ => (troot_ok hT4).mono ?_, fun he => ?_⟩, fun h => ?_⟩, fun h => ?_⟩, fun h => ?_⟩⟩
  · rintro v h12 ⟨rfl, rfl⟩
    refine ⟨_, rfl, hJ _ _ ⟨fun h => ?_, fun _ => ?_⟩⟩
    · rw [sA] at h; simp at h
    have hV4 := isV_le hle4 hV3
    have p := prune_ok (below := 2) hV4 hGB (by show 2 ≤ 1000000; decide) (by show 2 ≤ 1000000; decide)
    rw [gnC, pmC hne] at p
    refine p.mono ?_
    clear p
    rintro v h6 ⟨rfl, hV6, hl6⟩
    have hGC : VGood (VC k2) := by
      have := hGB.prune 2
      rwa [pmC hne] at this
    have hle6 := le_of_leV (Heap.le_trans hle3 hle4) hl6 hX
    have a1 := at_ok (height := 1) hV6 hGC (hK.le hle6)
    rw [atC1] at a1
    refine ⟨_, rfl, a1.mono ?_⟩
    clear a1
    rintro v h7 ⟨hle7, p2, rfl, _, _⟩
    have a1 := at_ok (height := 2) (isV_le hle7 hV6) hGC (hK.le (Heap.le_trans hle6 hle7))
    rw [atC2 hk2] at a1
    refine ⟨p2, 120, rfl, a1.mono ?_⟩
    clear a1
    rintro v h8 ⟨hle8, p3, rfl, hT8, _⟩
    have hT8 := hT8 rfl
    refine ⟨p3, 0, rfl, fun J1 hJ1 => ⟨fun _ => ⟨fun _ => ⟨fun _ => (troot_ok hT8).mono ?_, fun h => ?_⟩, fun h => ?_⟩, fun h => ?_⟩⟩
    · rintro v h10 ⟨rfl, rfl⟩
      refine ⟨_, rfl, fun _ => (texts_ok (isV_le (Heap.le_trans hle7 hle8) hV6) hGC (by show 1 ≤ 1000000; decide)).mono ?_, fun h => ?_⟩
      · rintro v h11 ⟨hle11, rfl⟩
        refine ⟨_, rfl, hJ1 _ _ ⟨Heap.le_trans hle6 (Heap.le_trans hle7 (Heap.le_trans hle8 hle11)), rfl⟩⟩
      · rw [sB] at h; simp at h
    · simp at h
    · simp at h
    · simp at h
  · exfalso
    have he : k1 = k2 := by simpa using he
    exact hne he
  · simp at h
  · simp at h
  · simp at h
end Go.Vw
namespace Go.Vw
open Go Go.Proofs

theorem cAct_len (x : GPharoslaw12Act) : (cGPharoslaw12Act x).length = 3 := rfl
abbrev Acts := List (GPharoslaw12Act × List GApiItem)
/-- Acts, where they lie. -/
structure ActsIn (h : Heap) (l : Sl) (As : Acts) : Prop where
  len : l.len = As.length
  row : As ≠ [] → rowOf h l.a ((As.map (·.1)).length * 3) = some (aggs cGPharoslaw12Act (As.map (·.1)))
  chl : ∀ A ∈ As, A.1.Changes.len = A.2.length
  chr : ∀ A ∈ As, A.2 ≠ [] → rowOf h A.1.Changes.a (A.2.length * 2) = some (aggs cGApiItem A.2)
theorem ActsIn.le {h g : Heap} (hl : h.le g) {l : Sl} {As : Acts} (k : ActsIn h l As) : ActsIn g l As :=
  ⟨k.len, fun hn => rowOf_le hl (k.row hn), k.chl, fun A hA hn => rowOf_le hl (k.chr A hA hn)⟩
theorem fld_rd {h : Heap} {ad : Addr} {n k : Nat} {l : List Value} (hr : rdn h ad n = some l) (hk : k < n) : rd h ⟨ad.block, ad.off + k, none⟩ = l[k]? := by
  unfold rdn at hr
  split at hr
  · rename_i c e fr hc
    split at hr
    · cases hr
    · split at hr
      · rename_i hle
        injection hr with hr
        unfold rd
        dsimp only
        rw [hc]
        dsimp only
        rw [if_neg (by simp), ← hr, List.getElem?_take_of_lt hk, List.getElem?_drop]
        simp
      · cases hr
  · cases hr
theorem ActsIn.at1 {h : Heap} {l : Sl} {As : Acts} (k : ActsIn h l As) {i : Nat} (hi : i < As.length) : ∃ ad, l.a = some ad ∧ rdn h (Addr.add ad (i * 3)) 3 = some (cGPharoslaw12Act As[i].1) := by
  have := agg_rd (by decide) cAct_len (k.row (List.ne_nil_of_length_pos (by omega))) (i := i) (by rw [List.length_map]; exact hi)
  rw [List.getElem_map] at this
  exact this
theorem ActsIn.sl {h : Heap} {l : Sl} {As : Acts} (k : ActsIn h l As) {i : Nat} (hi : i < As.length) : ∃ ad, l.a = some ad ∧ rd h ⟨(Addr.add ad (i * 3)).block, (Addr.add ad (i * 3)).off + 2, none⟩ = some (Value.slice As[i].1.Changes.a As[i].1.Changes.len As[i].1.Changes.cap) := by
  obtain ⟨ad, h1, h2⟩ := k.at1 hi
  exact ⟨ad, h1, fld_rd (k := 2) h2 (by decide)⟩
theorem ActsIn.key {h : Heap} {l : Sl} {As : Acts} (k : ActsIn h l As) {A : GPharoslaw12Act × List GApiItem} (hA : A ∈ As) {i : Nat} (hi : i < A.2.length) :
    ∃ ad, A.1.Changes.a = some ad ∧ rd h (Addr.add (Addr.add ad (i * 2)) 0) = some (S A.2[i].Key) ∧ rd h ⟨(Addr.add ad (i * 2)).block, (Addr.add ad (i * 2)).off + 1, none⟩ = some (S A.2[i].Value) := by
  obtain ⟨ad, h1, h2⟩ := agg_rd (by decide) cItem_len (k.chr A hA (List.ne_nil_of_length_pos (by omega))) hi
  exact ⟨ad, h1, rd_of_rdn (i := 0) h2 (by decide), fld_rd (k := 1) h2 (by decide)⟩

set_option maxHeartbeats 1000000 in
theorem long_gen {h : Heap} {l : Sl} {As : Acts} (hA : ActsIn h l As) {Q : Value → Heap → Prop} (ht : Q (.bool true) h) (hf : As.length ≤ 10 → (∀ A ∈ As, A.2.length ≤ 10) → Q (.bool false) h) : Spec Tryz.prog 11 [.slice l.a l.len l.cap] h Q := by
  apply ok11
  unfold VC11
  have yes : ∀ {h1 : Heap}, h1 = h → Q (.bool true) h1 := fun e => e ▸ ht
  rw [hA.len]
  refine ⟨fun _ => yes rfl, fun hl => ?_⟩
  have hl : As.length ≤ 10 := by simp at hl; omega
  refine ⟨fun n h1 => (0 ≤ n ∧ n ≤ As.length ∧ h1 = h ∧ ∀ A ∈ As.take n.toNat, A.2.length ≤ 10, As.length - n.toNat), ⟨by omega, by omega, rfl, fun A hA => (by cases hA)⟩, ?_⟩
  rintro n h1 ⟨h0, h2, rfl, h3⟩
  obtain ⟨n, rfl⟩ : ∃ j : Nat, n = j := ⟨n.toNat, by omega⟩
  simp only [Int.toNat_natCast] at h3 ⊢
  refine ⟨fun hlt => ?_, fun hge => hf hl fun A hAm => ?_⟩
  · have hi : n < As.length := by simp at hlt; omega
    obtain ⟨ad, had, hrd⟩ := hA.sl hi
    have hm : As[n] ∈ As := List.getElem_mem hi
    have hcl := hA.chl _ hm
    obtain ⟨A, hAe⟩ : ∃ A, A = As[n] := ⟨_, rfl⟩
    rw [← hAe] at hrd hm hcl
    have b1 : (0 : Int) ≤ (n : Int) ∧ (n : Int) < (As.length : Int) := ⟨by omega, by omega⟩
    refine ⟨b1, ad, had, A.1.Changes, hrd, fun _ => yes rfl, fun hs => ?_⟩
    have hs : A.1.Changes.len ≤ 10 := by simp at hs; omega
    refine ⟨fun n1 h2 => (0 ≤ n1 ∧ n1 ≤ A.1.Changes.len ∧ h2 = h1, A.1.Changes.len - n1.toNat), ⟨by omega, by omega, rfl⟩, ?_⟩
    rintro n1 h2 ⟨g0, g1, rfl⟩
    obtain ⟨n1, rfl⟩ : ∃ j : Nat, n1 = j := ⟨n1.toNat, by omega⟩
    simp only [Int.toNat_natCast]
    refine ⟨b1, ad, had, A.1.Changes, hrd, fun hlt1 J hJ => ?_, fun hge1 => ?_⟩
    · have hi1 : n1 < A.1.Changes.len := by simp at hlt1; omega
      have e1 : IntKind.wrap .i64 ((n1 : Int) + 1) = ((n1 + 1 : Nat) : Int) := by rw [wrap64 (by omega) (by omega)]; omega
      rw [e1] at hJ
      simp only [Int.toNat_natCast] at hJ
      have b2 : (0 : Int) ≤ (n1 : Int) ∧ (n1 : Int) < (A.1.Changes.len : Int) := ⟨by omega, by omega⟩
      obtain ⟨ad3, had3, hk, hv⟩ := hA.key hm (i := n1) (by omega)
      have next : ∀ b, J b h2 := fun b => hJ _ _ ⟨fun _ => yes rfl, fun _ => ⟨⟨by omega, by omega, rfl⟩, by show A.1.Changes.len - (n1 + 1) < A.1.Changes.len - n1; omega⟩⟩
      exact ⟨b1, ad, had, A.1.Changes, hrd, b2, ad3, had3, _, hk, fun _ => ⟨b1, ad, had, A.1.Changes, hrd, b2, ad3, had3, _, hv, next _⟩, fun _ => next _⟩
    · have e1 : IntKind.wrap .i64 ((n : Int) + 1) = ((n + 1 : Nat) : Int) := by rw [wrap64 (by omega) (by omega)]; omega
      rw [e1]
      simp only [Int.toNat_natCast]
      refine ⟨⟨by omega, by omega, (by first | rfl | trivial | exact fun _ => trivial), fun B hB => ?_⟩, by show As.length - (n + 1) < As.length - n; omega⟩
      rw [List.take_succ_eq_append_getElem hi] at hB
      rcases List.mem_append.1 hB with hB | hB
      · exact h3 B hB
      · rw [List.mem_singleton, ← hAe] at hB
        rw [hB]; omega
  · have hi : n = As.length := by simp at hge; omega
    refine h3 A ?_
    rw [hi, List.take_of_length_le (Nat.le_refl _)]
    exact hAm
theorem long_ok {h : Heap} {l : Sl} {As : Acts} (hA : ActsIn h l As) : Spec Tryz.prog 11 [.slice l.a l.len l.cap] h (fun v h' => h' = h ∧ ∃ b, v = .bool b ∧ (b = false → As.length ≤ 10 ∧ ∀ A ∈ As, A.2.length ≤ 10)) :=
  long_gen hA ⟨rfl, true, rfl, fun h => (by cases h)⟩ fun h1 h2 => ⟨rfl, false, rfl, fun _ => ⟨h1, h2⟩⟩
end Go.Vw
namespace Go.Vw
open Go Go.Proofs

theorem prune_keys (V : VM) (b : Int) : (pruneM V b).roots.map (·.1) = (V.roots.map (·.1)).filter (stB V b) := by
  unfold pruneM
  dsimp only
  rw [List.filter_map]
  rfl
theorem last_at {V : VM} (hG : VGood V) {i : Nat} (hi : i < (V.roots.map (·.1)).length) : (V.roots.map (·.1))[i] = V.last ↔ i = (V.roots.map (·.1)).length - 1 := by
  have hs := hG.srt
  rw [hG.lst]
  generalize V.roots.map (·.1) = ks at hi hs
  have hl : ks.getLast? = some ks[ks.length - 1] := by
    rw [List.getLast?_eq_getElem?, List.getElem?_eq_getElem (by omega)]
  rw [hl]
  show ks[i] = ks[ks.length - 1] ↔ _
  constructor
  · intro h
    apply Classical.byContradiction
    intro hc
    have := List.pairwise_iff_getElem.1 hs i (ks.length - 1) hi (by omega) (by omega)
    omega
  · intro h
    subst h
    rfl
theorem stays_at {V : VM} (hG : VGood V) (b : Int) {i : Nat} (hi : i < (V.roots.map (·.1)).length) : stB V b (V.roots.map (·.1))[i] = (decide ((V.roots.map (·.1))[i] ≥ b) || decide (i = (V.roots.map (·.1)).length - 1)) := by
  unfold stB
  congr 1
  exact decide_eq_decide.2 (last_at hG hi)
theorem root_stays {V : VM} (hG : VGood V) {b x : Int} (hx : x ∈ V.roots.map (·.1)) (hs : stB V b x = true) : (rootM (pruneM V b) x).2 = 0 := by
  obtain ⟨p, hp, rfl⟩ := List.mem_map.1 hx
  have : kFind (.int .i64) (pruneM V b).roots p.1 = some p.2 := iFind_mem (srt_nodup (hG.prune b).srt) (List.mem_filter.2 ⟨hp, hs⟩)
  unfold rootM
  rw [this]
theorem root_gone {V : VM} {b x : Int} (hs : stB V b x = false) : (rootM (pruneM V b) x).2 = 120 := by
  have h1 : kFind (.int .i64) (pruneM V b).roots x = none := iFind_none.2 (by
    rw [prune_keys]
    intro hm
    have := (List.mem_filter.1 hm).2
    rw [hs] at this; cases this)
  have h2 : x < (pruneM V b).below := by
    have : x < b := by
      unfold stB at hs
      simp at hs
      omega
    show x < if b > V.below then b else V.below
    split <;> omega
  unfold rootM
  rw [h1]
  dsimp only
  rw [if_pos h2]
theorem gone_len (V : VM) (b : Int) : goneM V b + ((V.roots.map (·.1)).filter (stB V b)).length = (V.roots.map (·.1)).length := by
  unfold goneM
  rw [List.filter_map, List.length_map, List.length_map]
  have := List.length_eq_countP_add_countP (fun p : Int × Bs => stB V b p.1) (l := V.roots)
  rw [← List.countP_eq_length_filter, ← List.countP_eq_length_filter]
  have e : V.roots.countP (fun p => !stB V b p.1) = V.roots.countP (fun p => decide (¬ stB V b p.1 = true)) := by
    congr 1
    funext p
    cases stB V b p.1 <;> rfl
  rw [e]
  have e2 : List.countP (stB V b ∘ fun x => x.fst) V.roots = List.countP (fun p => stB V b p.1) V.roots := rfl
  rw [e2]
  omega
theorem gone_none {V : VM} {b : Int} (h : ∀ p ∈ V.roots, stB V b p.1 = true) : goneM V b = 0 := by
  unfold goneM
  rw [List.length_eq_zero_iff, List.filter_eq_nil_iff]
  intro p hp
  rw [h p hp]
  decide
def lastH (b : Int) : Int := (if (1048577 : Int) < (if (1 : Int) > b then 1 else b) then 1048577 else (if (1 : Int) > b then 1 else b)) - 1
theorem lastH_lt {b : Int} (hb : 1 ≤ b) : lastH b < b := by
  unfold lastH
  split <;> split <;> omega
theorem again_none {V : VM} {b : Int} (hG : VGood (commitM (pruneM V b) (lastH b) []).1) : goneM (commitM (pruneM V b) (lastH b) []).1 b = 0 := by
  rcases commitM_cases (pruneM V b) (lastH b) [] with ⟨h1, _⟩ | ⟨h1, h2, h3, h4, _, _⟩
  · rw [h1]
    apply gone_none
    intro p hp
    exact (List.mem_filter.1 hp).2
  · by_cases hb : 1 ≤ b
    · exfalso
      have := lastH_lt hb
      have hbl : b ≤ (pruneM V b).below := by
        show b ≤ if b > V.below then b else V.below
        split <;> omega
      omega
    · apply gone_none
      intro p hp
      have := (hG.keys p hp).1
      unfold stB
      have : decide (b ≤ p.1) = true := by simp; omega
      rw [this, Bool.true_or]
theorem last_old {V : VM} {b : Int} (hb : 1 ≤ b) : (commitM (pruneM V b) (lastH b) []).2.2 ≠ 0 := by
  rcases commitM_cases (pruneM V b) (lastH b) [] with ⟨_, h⟩ | ⟨h1, h2, h3, h4, _, _⟩
  · exact h
  · exfalso
    have := lastH_lt hb
    have hbl : b ≤ (pruneM V b).below := by
      show b ≤ if b > V.below then b else V.below
      split <;> omega
    omega
theorem isV_known {h : Heap} {a rm mb : Nat} {V : VM} (k : isV h a rm mb V) : ∀ c, vX a rm mb c → h c ≠ none := by
  obtain ⟨sp, np, kvs, ha, ⟨es, c, hm, _⟩, hrw, hS, hT, hrm⟩ := k
  obtain ⟨es', c', hmb⟩ := isS_map hS
  rintro c (rfl | rfl | rfl)
  · rw [ha]; exact fun h => by cases h
  · rw [hm]; exact fun h => by cases h
  · rw [hmb]; exact fun h => by cases h
theorem Grow.leV {X : Nat → Prop} {h0 h1 h2 : Heap} {sl : Sl} {l : List Value} (g : Grow h0 h1 sl 1 l) (hX : ∀ c, X c → h0 c ≠ none) (hl : Go.Vw.leV X h1 h2) : rowOf h2 sl.a sl.len = some l := by
  have hr := g.row
  rw [Nat.mul_one] at hr
  rcases g.2.2.2 with ⟨h5, h6⟩ | ⟨b, rest, e, h5, h6, h7, h8⟩
  · rw [h5] at hr ⊢; exact hr
  · rw [h5] at hr ⊢
    have hb := hl.keep h7 (fun hx => hX b hx h6)
    show rdn _ _ _ = _
    have hr : rdn h1 ⟨b, 0, none⟩ sl.len = some l := hr
    unfold rdn at hr ⊢
    dsimp only at hr ⊢
    rw [h7] at hr
    rw [hb]
    exact hr
theorem rowI_rd {h : Heap} {a : Option Addr} {n : Nat} {l : List Int} (hr : rowOf h a n = some (iv l)) {i : Nat} (hi : i < n) (hl : i < l.length) : ∃ ad, a = some ad ∧ rd h (Addr.add ad (i * 1)) = some (.int .i64 l[i]) := by
  cases a with
  | none =>
    unfold rowOf at hr
    dsimp only at hr
    rw [if_neg (by omega)] at hr
    cases hr
  | some ad => exact ⟨ad, rfl, int_rd hr hi hl⟩
end Go.Vw
namespace Go.Vw
open Go Go.Proofs

set_option maxHeartbeats 2000000 in
theorem goes_gen {h : Heap} {l : Sl} {As : Acts} {below : Int} (hA : ActsIn h l As) (hK : KH h) {Q : Value → Heap → Prop} (hQ : ∀ h', h.le h' → Q (.bool true) h') : Spec Tryz.prog 3 [.slice l.a l.len l.cap, .int .i64 below] h Q := by
  apply ok3
  unfold VC3
  refine (works_ok hK).mono ?_
  rintro v h1 ⟨hle1, rfl⟩
  refine ⟨true, rfl, fun hh => (by cases hh), fun _ => (long_ok (hA.le hle1)).mono ?_⟩
  rintro v h2 ⟨rfl, b1, rfl, hb1⟩
  refine ⟨b1, rfl, fun _ => hQ _ hle1, fun hb => ?_⟩
  obtain ⟨hAl, hAc⟩ := hb1 hb
  refine vnew_ok.mono ?_
  rintro v h3 ⟨hle3, a, rm, mb, rfl, ha, hr, hm, hV0⟩
  have hX : ∀ c, vX a rm mb c → h c = none := fun c hc => Heap.none_of hle1 (vX_fresh ha hr hm c hc)
  have hle3 := Heap.le_trans hle1 hle3
  refine ⟨_, rfl, fun n h4 => (0 ≤ n ∧ n ≤ As.length ∧ h.le h4 ∧ ∃ V, isV h4 a rm mb V ∧ VGood V ∧ V.st.length ≤ 3072 * n.toNat ∧ V.roots.length ≤ n.toNat, As.length - n.toNat), ⟨by omega, by omega, hle3, _, hV0, good0, Nat.le_refl _, Nat.le_refl _⟩, ?_⟩
  rintro n h4 ⟨hn0, hn1, hle4, V, hV, hG, hVs, hVr⟩
  obtain ⟨n, rfl⟩ : ∃ j : Nat, n = j := ⟨n.toNat, by omega⟩
  simp only [Int.toNat_natCast] at hVs hVr ⊢
  rw [hA.len]
  refine ⟨fun hlt => ?_, fun hge => ?_⟩
  · have hi : n < As.length := by simp at hlt; omega
    have e1 : IntKind.wrap .i64 ((n : Int) + 1) = ((n + 1 : Nat) : Int) := by rw [wrap64 (by omega) (by omega)]; omega
    rw [e1]
    simp only [Int.toNat_natCast]
    have hA4 := hA.le hle4
    obtain ⟨ad, had, hrd⟩ := hA4.at1 hi
    have hm : As[n] ∈ As := List.getElem_mem hi
    have hc10 := hAc _ hm
    refine ⟨⟨by omega, by omega⟩, ad, had, As[n].1, hrd, ⟨rfl, rfl⟩, (commit_ok hV hG.fits hG.size (hK.le hle4) (hA4.chr _ hm) (hA4.chl _ hm) (by omega)).mono ?_⟩
    rintro v h5 ⟨rfl, hV5, hl5, hF5, hs5⟩
    have hG5 := hG.commit hF5 hs5
    exact ⟨_, _, rfl, ⟨by omega, by omega, le_of_leV hle4 hl5 hX, _, hV5, hG5.1, by omega, by omega⟩, by show As.length - (n + 1) < As.length - n; omega⟩
  clear hn0 hge
  have hVs : V.st.length ≤ 100000 := by
    have : n ≤ 10 := by omega
    omega
  have hVr : V.roots.length ≤ 10 := by omega
  obtain ⟨ks, hks⟩ : ∃ ks, ks = V.roots.map (·.1) := ⟨_, rfl⟩
  have hkl : ks.length ≤ 10 := by rw [hks, List.length_map]; exact hVr
  refine (heights_ok hV hG (by omega)).mono ?_
  rintro v h6 ⟨hle6, sl, rfl, g6⟩
  rw [← hks] at g6
  have hslen : sl.len = ks.length := by have := g6.2.1; rw [Nat.mul_one] at this; rw [← this]; simp [iv]
  have hV6 := isV_le hle6 hV
  refine ⟨sl, rfl, (prune_ok (below := below) hV6 hG (by omega) (by omega)).mono ?_⟩
  rintro v h7 ⟨rfl, hV7, hl7⟩
  have hle7 := le_of_leV (Heap.le_trans hle4 hle6) hl7 hX
  have hG7 := hG.prune below
  obtain ⟨W, hW⟩ : ∃ W, W = pruneM V below := ⟨_, rfl⟩
  have hpk := prune_keys V below
  have hgl := gone_len V below
  have hWs : W.st.length ≤ 100000 := by
    rw [hW]
    exact Nat.le_trans (List.length_filter_le _ _) hVs
  rw [← hks] at hpk hgl
  rw [← hW] at hV7 hG7 hpk
  obtain ⟨now, hnow⟩ : ∃ now, now = ks.filter (stB V below) := ⟨_, rfl⟩
  rw [← hnow] at hpk hgl
  have hWr : W.roots.length = now.length := by rw [← hpk, List.length_map]
  have hnl : now.length ≤ 10 := by omega
  refine ⟨_, rfl, (heights_ok hV7 hG7 (by omega)).mono ?_⟩
  rintro v h8 ⟨hle8, sl1, rfl, g8⟩
  rw [hpk] at g8
  have hslen1 : sl1.len = now.length := by have := g8.2.1; rw [Nat.mul_one] at this; rw [← this]; simp [iv]
  have hV8 := isV_le hle8 hV7
  have hle8' := Heap.le_trans hle7 hle8
  have hrow : rowOf h8 sl.a sl.len = some (iv ks) := rowOf_le hle8 (g6.leV (isV_known hV) hl7)
  have hrow1 : rowOf h8 sl1.a sl1.len = some (iv now) := by have := g8.row; rwa [Nat.mul_one] at this
  refine ⟨sl1, rfl, fun k i h9 => (0 ≤ i ∧ i ≤ ks.length ∧ h9 = h8 ∧ k = (((ks.take i.toNat).filter (stB V below)).length : Nat), ks.length - i.toNat), ⟨by omega, by omega, rfl, rfl⟩, ?_⟩
  rintro k i h9 ⟨hi0, hi1, rfl, hk⟩
  obtain ⟨i, rfl⟩ : ∃ j : Nat, i = j := ⟨i.toNat, by omega⟩
  rw [Int.toNat_natCast] at hk
  have hkk : ((ks.take i).filter (stB V below)).length ≤ now.length := by
    rw [hnow]
    exact ((List.take_sublist i ks).filter _).length_le
  rw [hslen, hslen1]
  refine ⟨fun hlt J hJ => ?_, fun hge => ?_⟩
  · have hi : i < ks.length := by simp at hlt; omega
    have e1 : IntKind.wrap .i64 ((i : Int) + 1) = ((i + 1 : Nat) : Int) := by rw [wrap64 (by omega) (by omega)]; omega
    rw [e1] at hJ
    simp only [Int.toNat_natCast] at hJ ⊢
    obtain ⟨ad1, had1, hrd1⟩ := rowI_rd hrow (i := i) (by omega) hi
    obtain ⟨x, hx⟩ : ∃ x, x = ks[i] := ⟨_, rfl⟩
    rw [← hx] at hrd1
    have hxm : x ∈ V.roots.map (·.1) := by rw [← hks, hx]; exact List.getElem_mem hi
    have hst : stB V below x = (decide (x ≥ below) || decide (i = ks.length - 1)) := by
      subst hks
      rw [hx]
      exact stays_at hG below hi
    have htk : ks.take (i + 1) = ks.take i ++ [x] := by rw [List.take_succ_eq_append_getElem hi, ← hx]
    have hJ' : ∀ k' : Int, k' = (((ks.take (i + 1)).filter (stB V below)).length : Nat) → J k' h9 := fun k' hk' => hJ _ _ ⟨⟨by omega, by omega, (by first | rfl | trivial | exact fun _ => trivial), hk'⟩, by show ks.length - (i + 1) < ks.length - i; omega⟩
    refine ⟨⟨by omega, by omega⟩, ad1, had1, x, hrd1, fun J1 hJ1 => ?_⟩
    have body : ∀ b, b = stB V below x → J1 b h9 := by
      intro b hb
      refine hJ1 b h9 ((root_ok hV8).mono ?_)
      rintro v h10 ⟨rfl, rfl⟩
      refine ⟨_, _, rfl, fun J2 hJ2 => ?_⟩
      have good : J2 false h10 := by
        refine hJ2 _ _ ⟨fun hh => (by cases hh), fun _ J3 hJ3 => ⟨fun hbt J4 hJ4 => ?_, fun hbf => hJ3 _ _ (hJ' _ ?_)⟩⟩
        · have hs : stB V below x = true := by rw [← hb]; exact hbt
          have hnow2 : now = (ks.take i).filter (stB V below) ++ x :: (ks.drop (i + 1)).filter (stB V below) := by
            rw [hnow]
            have : ks = ks.take i ++ x :: ks.drop (i + 1) := by
              rw [hx, ← List.drop_eq_getElem_cons hi, List.take_append_drop]
            rw [this, List.filter_append, List.filter_cons_of_pos hs, ← this]
          have hklt : ((ks.take i).filter (stB V below)).length < now.length := by
            rw [hnow2, List.length_append, List.length_cons]; omega
          have hnk : now[((ks.take i).filter (stB V below)).length]'hklt = x := by
            simp [hnow2]
          obtain ⟨ad2, had2, hrd2⟩ := rowI_rd hrow1 (i := ((ks.take i).filter (stB V below)).length) (by omega) hklt
          rw [hnk] at hrd2
          subst hk
          refine ⟨fun hlt => ⟨⟨by omega, by omega⟩, ad2, had2, x, hrd2, hJ4 _ _ ⟨fun hh => by simp at hh, fun _ => hJ3 _ _ (hJ' _ ?_)⟩⟩, fun hge => ?_⟩
          · rw [htk, List.filter_append, List.length_append, List.filter_cons_of_pos hs, List.filter_nil, wrap64 (by omega) (by omega)]
            simp
          · exfalso
            simp at hge
            omega
        · have hs : stB V below x = false := by rw [← hb]; exact hbf
          rw [hk, htk, List.filter_append, List.filter_cons_of_neg (by rw [hs]; decide), List.filter_nil, List.append_nil]
      cases hs : stB V below x with
      | true =>
        have hr := root_stays hG (b := below) hxm hs
        rw [← hW] at hr
        rw [hb, hs, hr]
        exact ⟨fun _ => ⟨fun hh => (by cases hh), fun _ => good⟩, fun hh => (by cases hh)⟩
      | false =>
        have hr := root_gone (V := V) (b := below) (x := x) hs
        rw [← hW] at hr
        rw [hb, hs, hr]
        exact ⟨fun _ => ⟨fun _ => good, fun hh => (by cases hh)⟩, fun hh => (by cases hh)⟩
    refine ⟨fun hb => body _ ?_, fun hb => body _ ?_⟩
    · rw [hst, hb, Bool.false_or]
      have e2 : IntKind.wrap .i64 ((ks.length : Int) - 1) = ((ks.length - 1 : Nat) : Int) := by rw [wrap64 (by omega) (by omega)]; omega
      rw [e2]
      by_cases hc : i = ks.length - 1
      · rw [← hc]; simp
      · have : ¬ ((i : Int) = ((ks.length - 1 : Nat) : Int)) := by omega
        simp [hc, this]
    · rw [hst, hb, Bool.true_or]
  · have hi : i = ks.length := by simp at hge; omega
    subst hi
    rw [List.take_of_length_le (Nat.le_refl _), ← hnow] at hk
    subst hk
    have hlast : IntKind.wrap .i64 ((if (1048577 : Int) < (if (1 : Int) > below then (1 : Int) else below) then (1048577 : Int) else (if (1 : Int) > below then (1 : Int) else below)) - 1) = lastH below := by
      apply wrap64
      · split <;> split <;> omega
      · split <;> split <;> omega
    rw [hlast]
    refine (commit_ok (ch := ⟨none, 0, 0⟩) (cs := []) hV8 hG7.fits hG7.size (hK.le hle8') (fun h => absurd rfl h) rfl (by decide)).mono ?_
    rintro v h15 ⟨rfl, hV15, hl15, hF15, hs15⟩
    have hG15 := hG7.commit hF15 hs15
    have hle15 := le_of_leV hle8' hl15 hX
    have hag : goneM (commitM W (lastH below) []).1 below = 0 := by
      rw [hW]
      exact again_none (by rw [← hW]; exact hG15.1)
    have hgone : IntKind.wrap .i64 ((ks.length : Int) - (now.length : Int)) = (goneM V below : Int) := by
      rw [wrap64 (by omega) (by omega)]; omega
    rw [hgone]
    refine ⟨_, _, rfl, fun J5 hJ5 => ⟨fun _ => ⟨fun _ => (prune_ok (below := below) hV15 hG15.1 (by omega) (by omega)).mono ?_, fun hh => ?_⟩, fun hh => ?_⟩⟩
    · rintro v h17 ⟨rfl, hV17, hl17⟩
      rw [hag]
      have hle17 := le_of_leV hle15 hl17 hX
      refine ⟨_, rfl, fun _ => ⟨fun hb => ?_, fun _ => hJ5 _ _ (hQ _ hle17)⟩, fun hh => (by simp at hh)⟩
      have hb : 1 ≤ below := by simp at hb; omega
      have := last_old (V := V) hb
      rw [← hW] at this
      have : ((commitM W (lastH below) []).2.2 != 0) = true := by simpa using this
      rw [this]
      exact hJ5 _ _ (hQ _ hle17)
    · simp at hh
    · simp at hh
theorem goes_ok {h : Heap} {l : Sl} {As : Acts} {below : Int} (hA : ActsIn h l As) (hK : KH h) : Spec Tryz.prog 3 [.slice l.a l.len l.cap, .int .i64 below] h (fun v h' => h.le h' ∧ v = .bool true) :=
  goes_gen hA hK fun _ hl => ⟨hl, rfl⟩
end Go.Vw
