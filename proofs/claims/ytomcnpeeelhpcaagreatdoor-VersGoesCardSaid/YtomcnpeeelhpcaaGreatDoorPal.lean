/-
  Versions: Root, Heights, At, Texts; what always holds. Versions: Prune. The chapter's example: two sums differ. The chapter's example.
-/
import Derived.Test.YtomcnpeeelhpcaaGreatDoorPak
namespace Go.Vw
open Go Go.Proofs

theorem kPut_last {l : List (Int × Bs)} {k : Int} {v : Bs} (h : ∀ p ∈ l, p.1 < k) : kPut (.int .i64) l k v = l ++ [(k, v)] := by
  induction l with
  | nil => rfl
  | cons p r ih =>
    unfold kPut
    have hp := h p (List.mem_cons_self ..)
    have : ¬ kEq (.int .i64) k p.1 = true := by
      intro he
      have : k = p.1 := by simpa [kEq] using he
      omega
    rw [if_neg this, ih (fun q hq => h q (List.mem_cons_of_mem _ hq))]
    rfl
theorem iFind_mem {l : List (Int × Bs)} (hn : (l.map (·.1)).Nodup) {k : Int} {v : Bs} (h : (k, v) ∈ l) : kFind (.int .i64) l k = some v := by
  induction l with
  | nil => cases h
  | cons p r ih =>
    rw [List.map_cons, List.nodup_cons] at hn
    unfold kFind
    rcases List.mem_cons.1 h with rfl | h
    · rw [if_pos (by simp [kEq])]
    · have : ¬ kEq (.int .i64) k p.1 = true := by
        intro he
        have : k = p.1 := by simpa [kEq] using he
        exact hn.1 (this ▸ List.mem_map.2 ⟨_, h, rfl⟩)
      rw [if_neg this]; exact ih hn.2 h
theorem iFind_none {l : List (Int × Bs)} {k : Int} : kFind (.int .i64) l k = none ↔ k ∉ l.map (·.1) := by
  induction l with
  | nil => exact ⟨fun _ h => (by cases h), fun _ => rfl⟩
  | cons p r ih =>
    unfold kFind
    rw [List.map_cons, List.mem_cons]
    by_cases he : kEq (.int .i64) k p.1 = true
    · rw [if_pos he]
      have : k = p.1 := by simpa [kEq] using he
      exact ⟨fun h => (by cases h), fun h => absurd (.inl this) h⟩
    · rw [if_neg he, ih]
      have : ¬ k = p.1 := by simpa [kEq] using he
      exact ⟨fun h h' => h'.elim this h, fun h h' => h (.inr h')⟩
theorem iDel_filter {β : Type} {l : List (Int × β)} (hn : (l.map (·.1)).Nodup) (s : Int) : kDel (.int .i64) l s = l.filter fun p => decide (p.1 ≠ s) := by
  induction l with
  | nil => rfl
  | cons p r ih =>
    rw [List.map_cons, List.nodup_cons] at hn
    unfold kDel
    by_cases he : p.1 = s
    · have h2 : kEq (.int .i64) s p.1 = true := by simp [kEq, he]
      rw [if_pos h2, List.filter_cons_of_neg (by simp [he])]
      symm
      rw [List.filter_eq_self]
      intro q hq
      have : q.1 ≠ s := fun h => hn.1 (by rw [he, ← h]; exact List.mem_map.2 ⟨q, hq, rfl⟩)
      simpa using this
    · have : ¬ kEq (.int .i64) s p.1 = true := by simpa [kEq] using fun h => he h.symm
      rw [if_neg this, List.filter_cons_of_pos (by simpa using he), ih hn.2]
theorem srt_nodup {l : List Int} (h : l.Pairwise (· < ·)) : l.Nodup := h.imp fun {a b} hab => by omega
theorem srt_last {l : List Int} (h : l.Pairwise (· < ·)) : ∀ x ∈ l, x ≤ (l.getLast?).getD (-1) := by
  intro x hx
  cases hl : l.getLast? with
  | none => rw [List.getLast?_eq_none_iff] at hl; subst hl; cases hx
  | some y =>
    obtain ⟨ys, rfl⟩ := List.getLast?_eq_some_iff.1 hl
    rcases List.mem_append.1 hx with hx | hx
    · have := (List.pairwise_append.1 h).2.2 x hx y (by simp)
      simp; omega
    · have : x = y := by simpa using hx
      simp [this]

theorem saveM_lens {st : Store} (h : StGood st) {t : T} (hF : t.Fits 0) (hs : t.size ≤ 1024) : StGood (saveM st t.nodes) ∧ (saveM st t.nodes).length ≤ st.length + 3072 := by
  have h1 := saveM_good h (l := t.nodes) (fun s hs => Nat.le_trans (nodes_enc hF s hs) (by decide))
  have h2 := (nodes_len hF).1
  exact ⟨h1.1, by omega⟩
theorem commitM_cases (V : VM) (height : Int) (cs : List GApiItem) : ((commitM V height cs).1 = V ∧ (commitM V height cs).2.2 ≠ 0) ∨
    (0 ≤ height ∧ height ≤ 1048576 ∧ V.last < height ∧ V.below ≤ height ∧ (chsM V.t cs).2 = 0 ∧ commitM V height cs = (⟨kPut (.int .i64) V.roots height (chsM V.t cs).1.sum, saveM V.st (chsM V.t cs).1.nodes, (chsM V.t cs).1, height, V.below⟩, (chsM V.t cs).1.sum, 0)) := by
  unfold commitM
  by_cases h1 : height < 0 ∨ 1048576 < height
  · rw [if_pos h1]; exact .inl ⟨rfl, by show (1 : Int) ≠ 0; decide⟩
  · rw [if_neg h1]
    by_cases h2 : height ≤ V.last ∨ height < V.below
    · rw [if_pos h2]; exact .inl ⟨rfl, by show (120 : Int) ≠ 0; decide⟩
    · rw [if_neg h2]
      by_cases h3 : (chsM V.t cs).2 = 0
      · rw [if_pos h3]; exact .inr ⟨by omega, by omega, by omega, by omega, h3, rfl⟩
      · rw [if_neg h3]; exact .inl ⟨rfl, h3⟩
theorem VGood.commit {V : VM} (hG : VGood V) {height : Int} {cs : List GApiItem} (hF : (commitM V height cs).1.t.Fits 0) (hs : (commitM V height cs).1.t.size ≤ 1024) :
    VGood (commitM V height cs).1 ∧ (commitM V height cs).1.st.length ≤ V.st.length + 3072 ∧ (commitM V height cs).1.roots.length ≤ V.roots.length + 1 ∧ (commitM V height cs).1.below = V.below := by
  rcases commitM_cases V height cs with ⟨h, _⟩ | ⟨h1, h2, h3, h4, _, h5⟩
  · rw [h]; exact ⟨hG, by omega, by omega, rfl⟩
  · rw [h5] at hF hs ⊢
    have hlt : ∀ p ∈ V.roots, p.1 < height := by
      intro p hp
      have := srt_last hG.srt p.1 (List.mem_map.2 ⟨p, hp, rfl⟩)
      rw [← hG.lst] at this
      omega
    dsimp only at hF hs ⊢
    rw [kPut_last hlt]
    have hst := saveM_lens hG.good hF hs
    have hsum := sum_len (chsM V.t cs).1
    generalize (chsM V.t cs).1.sum = sm at *
    refine ⟨⟨hF, hs, hst.1, ?_, ?_, ?_, ?_⟩, hst.2, by simp, rfl⟩
    · intro p hp
      rcases List.mem_append.1 hp with hp | hp
      · exact hG.keys p hp
      · rw [List.mem_singleton] at hp; subst hp; exact ⟨h1, h2⟩
    · show List.Pairwise _ (List.map _ (V.roots ++ [_]))
      rw [List.map_append, List.pairwise_append]
      refine ⟨hG.srt, by simp, ?_⟩
      intro x hx y hy
      obtain ⟨p, hp, rfl⟩ := List.mem_map.1 hx
      have : y = height := by simpa using hy
      rw [this]; exact hlt p hp
    · show height = ((List.map _ (V.roots ++ [_])).getLast?).getD (-1)
      rw [List.map_append, List.getLast?_append]
      rfl
    · intro p hp
      rcases List.mem_append.1 hp with hp | hp
      · exact hG.lens p hp
      · rw [List.mem_singleton] at hp; subst hp
        show sm.length ≤ 1000000
        omega

def rootM (V : VM) (height : Int) : Bs × Int := match kFind (.int .i64) V.roots height with
  | some r => (r, 0)
  | none => if height < V.below then ([], 120) else ([], 5)
theorem root_ok {h : Heap} {a rm mb : Nat} {V : VM} {height : Int} (hV : isV h a rm mb V) : Spec Tryz.prog 16 [.pointer (some ⟨a, 0, none⟩), .int .i64 height] h (fun v h' => h' = h ∧ v = .tuple ⟨[S (rootM V height).1, .int .i64 (rootM V height).2]⟩) := by
  apply ok16
  unfold VC16
  obtain ⟨sp, np, kvs, ha, hm, hrw, hS, hT, hrm⟩ := hV
  refine ⟨_, rfl, some rm, rd_of ha, kvs, hm, fun sl hf => ⟨fun _ => ?_, fun h => by cases h⟩, fun hf => ⟨fun h => (by cases h), fun _ => ⟨_, rfl, V.below, rd_of ha, fun hb => ?_, fun hb => ?_⟩⟩⟩
  · obtain ⟨t, ht, hc, hr⟩ := rows2_some (kt := .int .i64) hrw hf
    have e : rootM V height = (t, 0) := by unfold rootM; rw [ht]
    rw [e]
    cases hsa : sl.a with
    | none =>
      rw [hsa] at hr
      unfold rowOf at hr
      dsimp only at hr
      split at hr
      · injection hr with hr
        have ht0 : t = [] := by
          cases t with
          | nil => rfl
          | cons x r => cases hr
        subst ht0
        exact ⟨rfl, rfl⟩
      · cases hr
    | some ad =>
      rw [hsa] at hr
      exact ⟨t, hr, rfl, rfl⟩
  · have hf := (rows2_none (kt := .int .i64) hrw).1 hf
    have hb : height < V.below := by simpa using hb
    have e : rootM V height = ([], 120) := by unfold rootM; rw [hf]; exact if_pos hb
    rw [e]; exact ⟨rfl, rfl⟩
  · have hf := (rows2_none (kt := .int .i64) hrw).1 hf
    have hb : ¬ height < V.below := by simpa using hb
    have e : rootM V height = ([], 5) := by unfold rootM; rw [hf]; exact if_neg hb
    rw [e]; exact ⟨rfl, rfl⟩

def iv (l : List Int) : List Value := l.map fun n => Value.int .i64 n
theorem heights_ok {h : Heap} {a rm mb : Nat} {V : VM} (hV : isV h a rm mb V) (hG : VGood V) (hl : V.roots.length ≤ 1000000) :
    Spec Tryz.prog 14 [.pointer (some ⟨a, 0, none⟩)] h (fun v h' => h.le h' ∧ ∃ sl : Sl, v = .slice sl.a sl.len sl.cap ∧ Grow h h' sl 1 (iv (V.roots.map (·.1)))) := by
  apply ok14
  unfold VC14
  obtain ⟨sp, np, kvs, ha, hm, hrw, hS, hT, hrm⟩ := hV
  refine ⟨_, rfl, some rm, rd_of ha, keysI_ok.mono ?_⟩
  rintro v h1 ⟨c, hc, rfl, rfl⟩
  have hle := Heap.le_set (h := h) (Obj.cells ⟨[Value.map (some rm)]⟩ 140 (0, 0)) hc
  have hkeys := rows2_keys hrw
  have hlen : kvs.length = V.roots.length := by have := congrArg List.length hkeys; simpa using this
  refine ⟨⟨.func 163, #[], #[.pointer (some ⟨c, 0, none⟩)]⟩, rfl, ?_⟩
  refine (sortedI_ok (vt := .slice) (kvs := kvs) (Heap.set_same _ _ _) (mapIs_le hle hm) (by omega) ?_).mono ?_
  · intro q hq
    have : q.1 ∈ V.roots.map (·.1) := by rw [← hkeys]; exact List.mem_map.2 ⟨q, hq, rfl⟩
    obtain ⟨q', hq', he⟩ := List.mem_map.1 this
    have := hG.keys q' hq'
    rw [he] at this
    omega
  · rintro v h2 ⟨hle2, sl, ss, rfl, hp, g⟩
    have hsort : ss.mergeSort (fun x y => decide (x ≤ y)) = V.roots.map (·.1) := by
      have hp2 : (ss.mergeSort (fun x y => decide (x ≤ y))).Perm (V.roots.map (·.1)) := ((List.mergeSort_perm ss _).trans hp).trans (by rw [hkeys])
      refine List.Perm.eq_of_pairwise (le := fun x y : Int => x ≤ y) (fun x y _ _ h1 h2 => by omega) ?_ (hG.srt.imp fun {x y} h => by omega) hp2
      have := List.pairwise_mergeSort (le := fun x y : Int => decide (x ≤ y)) (by simp; omega) (by simp; omega) ss
      exact this.imp fun {x y} h => by simpa using h
    rw [hsort] at g
    refine ⟨sl, rfl, Heap.le_trans hle hle2, sl, rfl, ?_⟩
    obtain ⟨g1, g2, g3, g4⟩ := g
    refine ⟨Heap.le_trans hle g1, g2, g3, ?_⟩
    rcases g4 with h | ⟨b', rest, e', h5, h6, h7, h8⟩
    · exact .inl h
    · exact .inr ⟨b', rest, e', h5, Heap.none_of hle h6, h7, h8⟩
theorem texts_ok {h : Heap} {a rm mb : Nat} {V : VM} (hV : isV h a rm mb V) (hG : VGood V) (hl : V.st.length ≤ 1000000) :
    Spec Tryz.prog 65 [.pointer (some ⟨a, 0, none⟩)] h (fun v h' => h.le h' ∧ v = .int .i64 V.st.length) := by
  apply ok65
  unfold VC65
  obtain ⟨sp, np, kvs, ha, hm, hrw, hS, hT, hrm⟩ := hV
  refine ⟨_, rfl, sp, by rw [add_zero']; exact rd_of ha, (ssums_ok hS hG.good hl).mono ?_⟩
  rintro v h1 ⟨hle, sl, ss, rfl, hp, g⟩
  refine ⟨sl, rfl, hle, ?_⟩
  have := hp.length_eq
  rw [List.length_map, grow_len g] at this
  rw [this]
def atM (V : VM) (height : Int) : T × Int := if (rootM V height).2 = 0 then loadTop V.st (rootM V height).1 else (.nil, (rootM V height).2)
theorem at_ok {h : Heap} {a rm mb : Nat} {V : VM} {height : Int} (hV : isV h a rm mb V) (hG : VGood V) (hK : KH h) :
    Spec Tryz.prog 20 [.pointer (some ⟨a, 0, none⟩), .int .i64 height] h (fun v h' => h.le h' ∧ ∃ q, v = .tuple ⟨[.pointer q, .int .i64 (atM V height).2]⟩ ∧ ((atM V height).2 = 0 → isT h' q (atM V height).1) ∧ ((atM V height).2 ≠ 0 → q = none)) := by
  apply ok20
  unfold VC20
  refine (root_ok hV).mono ?_
  rintro v h1 ⟨rfl, rfl⟩
  obtain ⟨sp, np, kvs, ha, hm, hrw, hS, hT, hrm⟩ := hV
  obtain ⟨R, hR⟩ : ∃ R, R = atM V height := ⟨_, rfl⟩
  rw [← hR]
  unfold atM at hR
  refine ⟨_, _, rfl, fun he => ?_, fun he => ?_⟩
  · have he : ¬ (rootM V height).2 = 0 := by simpa using he
    rw [if_neg he] at hR
    subst hR
    exact ⟨Heap.le_refl _, none, rfl, fun h => absurd h he, fun _ => rfl⟩
  · have he : (rootM V height).2 = 0 := by simpa using he
    rw [if_pos he] at hR
    subst hR
    refine ⟨_, rfl, sp, by rw [add_zero']; exact rd_of ha, (tload_ok hS hG.good.ok hK).mono ?_⟩
    rintro v h2 ⟨hle, q, rfl, h3, h4⟩
    exact ⟨q, _, rfl, hle, q, rfl, h3, h4⟩
end Go.Vw
namespace Go.Vw
open Go Go.Proofs

/-- All but one block. -/
def Heap.del (h : Heap) (b : Nat) : Heap := fun c => if c = b then none else h c
theorem Heap.del_le {h g : Heap} {b : Nat} (hl : (h.del b).le g) : Heap.leB b h g := fun c o hc ho => hl c o (by unfold Heap.del; rw [if_neg hc]; exact ho)
theorem Heap.del_of {h g : Heap} {b : Nat} (hl : Heap.leB b h g) : (h.del b).le g := fun c o ho => by
  unfold Heap.del at ho
  split at ho
  · cases ho
  · rename_i hc; exact hl c o hc ho
theorem Heap.del_same (h : Heap) (b : Nat) : h.del b b = none := by unfold Heap.del; rw [if_pos rfl]
theorem rows2_filter {κ : Type} {h : Heap} {c : κ → Bool} : ∀ {l : List (κ × Sl)} {m : List (κ × Bs)}, rows2 h l m → rows2 h (l.filter fun p => c p.1) (m.filter fun p => c p.1)
  | [], [], _ => trivial
  | [], _ :: _, k => k.elim
  | _ :: _, [], k => k.elim
  | p :: r, q :: s, ⟨h1, h2, h3, h4⟩ => by
    rw [List.filter_cons, List.filter_cons, h1]
    split
    · exact ⟨h1, h2, h3, rows2_filter h4⟩
    · exact rows2_filter h4
theorem Grow.nomap {h₀ h₁ : Heap} {sl : Sl} {size : Nat} {l : List Value} (g : Grow h₀ h₁ sl size l) {c : Nat} {es : Array MapEntry} {k : Nat} (hm : h₁ c = some (.map es k)) : ∀ ad, sl.a = some ad → ad.block ≠ c := by
  rintro ad had rfl
  rcases g.2.2.2 with ⟨hh, _⟩ | ⟨b, rest, e, h5, h6, h7, _⟩
  · rw [hh] at had; cases had
  · rw [h5] at had; cases had
    rw [hm] at h7; cases h7
def stB (V : VM) (below : Int) (x : Int) : Bool := decide (below ≤ x) || decide (x = V.last)
def pruneM (V : VM) (below : Int) : VM :=
  ⟨V.roots.filter fun p => stB V below p.1, keepM V.st ((V.roots.filter fun p => stB V below p.1).map (·.2)), V.t, V.last, if below > V.below then below else V.below⟩
def goneM (V : VM) (below : Int) : Nat := (V.roots.filter fun p => !stB V below p.1).length
theorem int_rd {h : Heap} {ad : Addr} {n : Nat} {l : List Int} (hr : rdn h ad n = some (iv l)) {i : Nat} (hi : i < n) (hl : i < l.length) : rd h (Addr.add ad (i * 1)) = some (.int .i64 l[i]) := by
  rw [Nat.mul_one, rd_of_rdn hr hi]
  unfold iv
  rw [List.getElem?_map, List.getElem?_eq_getElem hl]
  rfl

set_option maxHeartbeats 1000000 in
theorem prune_ok {h : Heap} {a rm mb : Nat} {V : VM} {below : Int} (hV : isV h a rm mb V) (hG : VGood V) (hl : V.roots.length ≤ 1000000) (hst : V.st.length ≤ 1000000) :
    Spec Tryz.prog 15 [.pointer (some ⟨a, 0, none⟩), .int .i64 below] h (fun v h' => v = .int .i64 (goneM V below : Nat) ∧ isV h' a rm mb (pruneM V below) ∧ leV (vX a rm mb) h h') := by
  apply ok15
  unfold VC15
  obtain ⟨sp, np, kvs, ha, hm, hrw, hS, hT, hrm⟩ := hV
  obtain ⟨es0, k0, hmb0⟩ := isS_map hS
  have hamb : a ≠ mb := by rintro rfl; rw [ha] at hmb0; cases hmb0
  have hm0 := hm
  obtain ⟨es1, k1, hrm0, hes1⟩ := hm0
  have harm : a ≠ rm := by rintro rfl; rw [ha] at hrm0; cases hrm0
  obtain ⟨bl, hbl⟩ : ∃ bl : Int, bl = if below > V.below then below else V.below := ⟨_, rfl⟩
  refine ⟨_, rfl, V.below, rd_of ha, _, rfl, _, wr_of ha (by show 4 < 5; decide) _, ?_⟩
  rw [← hbl]
  show Spec _ _ _ (h.set a (vO sp rm np V.last bl)) _
  have hl1 : leV (vX a rm mb) h (h.set a (vO sp rm np V.last bl)) := leV_set ha (.vers ..) (.inl rfl)
  obtain ⟨V1, hV1⟩ : ∃ V1 : VM, V1 = ⟨V.roots, V.st, V.t, V.last, bl⟩ := ⟨_, rfl⟩
  have hi1 : isV (h.set a (vO sp rm np V.last bl)) a rm mb V1 := by
    subst hV1
    exact ⟨sp, np, kvs, Heap.set_same _ _ _, ⟨es1, k1, by rw [Heap.set_other _ _ (Ne.symm harm)]; exact hrm0, hes1⟩, rows2_leV hl1 hrw, isS_leV hl1 (Heap.set_other _ _ (Ne.symm hamb)) hS, isT_leV hl1 hT, hrm⟩
  have hG1 : VGood V1 := by
    subst hV1
    exact ⟨hG.fits, hG.size, hG.good, hG.keys, hG.srt, hG.lst, hG.lens⟩
  have hr1 : V1.roots = V.roots := by rw [hV1]
  refine (heights_ok hi1 hG1 (by rw [hr1]; exact hl)).mono ?_
  rintro v h2 ⟨hle2, sl, rfl, g⟩
  rw [hr1] at g
  have hl2 := hl1.trans (Heap.le_leV hle2 (vX a rm mb))
  have hi2 := isV_le hle2 hi1
  clear hi1 hG1 hr1
  subst hV1
  obtain ⟨sp', np', kvs2, ha2, hm2, hrw2, hS2, hT2, _⟩ := hi2
  obtain ⟨rfl, rfl⟩ : sp' = sp ∧ np' = np := by
    have := hle2 _ _ (Heap.set_same h a (vO sp rm np V.last bl))
    rw [ha2] at this
    simp only [vO, Option.some.injEq, Obj.cells.injEq, Array.mk.injEq, List.cons.injEq, Value.pointer.injEq] at this
    exact ⟨this.1.1, this.1.2.2.1⟩
  dsimp only at ha2 hm2 hrw2 hS2 hT2
  have hkeys := rows2_keys hrw2
  have hnd : (V.roots.map (·.1)).Nodup := srt_nodup hG.srt
  have hndk : (kvs2.map (·.1)).Nodup := by rw [hkeys]; exact hnd
  have hlen : sl.len = V.roots.length := by
    have := g.2.1
    rw [Nat.mul_one] at this
    rw [← this]; simp [iv]
  have hrow := g.row
  rw [Nat.mul_one] at hrow
  obtain ⟨es2, k2, hrm2, hes2⟩ := hm2
  -- what stays so far
  obtain ⟨cf, hcf⟩ : ∃ cf : Nat → Int → Bool, cf = fun i x => stB V below x || decide (x ∉ (V.roots.map (·.1)).take i) := ⟨_, rfl⟩
  have inv : ∀ {i : Nat} {h3 : Heap}, (h2.del rm).le h3 → mapIs h3 (some rm) (.int .i64) .slice (kvs2.filter fun p => cf i p.1) → leV (vX a rm mb) h2 h3 ∧ h3 a = some (vO sp' rm np' V.last bl) ∧ rows2 h3 (kvs2.filter fun p => cf i p.1) (V.roots.filter fun p => cf i p.1) ∧ isS h3 sp' mb V.st ∧ isT h3 np' V.t := by
    rintro i h3 hd ⟨es3, k3, hrm3, _⟩
    have hB := Heap.del_le hd
    have hlv : leV (vX a rm mb) h2 h3 := leB_leV hB ⟨_, _, hrm2⟩ ⟨_, _, hrm3⟩ (.inr (.inl rfl))
    obtain ⟨es4, k4, hmb2⟩ := isS_map hS2
    exact ⟨hlv, hB _ _ harm ha2, rows2_filter (c := cf i) (rows2_leV hlv hrw2), isS_leV hlv (by rw [hmb2]; exact hB _ _ (Ne.symm hrm) hmb2) hS2, isT_leV hlv hT2⟩
  refine ⟨sl, rfl, fun n s i h3 => (0 ≤ i ∧ i ≤ sl.len ∧ n = (((V.roots.take i.toNat).filter fun p => !stB V below p.1).length : Nat) ∧ Grow (h2.del rm) h3 s 1 (sv (((V.roots.take i.toNat).filter fun p => stB V below p.1).map (·.2))) ∧ mapIs h3 (some rm) (.int .i64) .slice (kvs2.filter fun p => cf i.toNat p.1), sl.len - i.toNat), ⟨by omega, by omega, rfl, ⟨Heap.del_of (Heap.leB_refl _ _), rfl, Nat.le_refl _, .inl ⟨rfl, rfl⟩⟩, ?_⟩, ?_⟩
  · refine ⟨es2, k2, hrm2, ?_⟩
    rw [hes2]
    congr 1
    symm
    rw [List.filter_eq_self]
    intro p _
    rw [hcf]
    simp
  · rintro n s i h3 ⟨h0, hi, hn, g3, hm3⟩
    obtain ⟨i, rfl⟩ : ∃ j : Nat, i = j := ⟨i.toNat, by omega⟩
    rw [Int.toNat_natCast] at hn g3 hm3
    obtain ⟨hlv, ha3, hrw3, hS3, hT3⟩ := inv g3.1 hm3
    have hsl := grow_len g3
    have hflen : ((V.roots.take i).filter fun p => stB V below p.1).length ≤ i := Nat.le_trans (List.length_filter_le _ _) (by rw [List.length_take]; omega)
    rw [List.length_map] at hsl
    have hnl : ((V.roots.take i).filter fun p => !stB V below p.1).length ≤ i := Nat.le_trans (List.length_filter_le _ _) (by rw [List.length_take]; omega)
    refine ⟨fun hlt J hJ => ?_, fun hge => ?_⟩
    · have hi : i < sl.len := by simp at hlt; omega
      have hir : i < V.roots.length := by omega
      have e1 : IntKind.wrap .i64 ((i : Int) + 1) = ((i + 1 : Nat) : Int) := by rw [wrap64 (by omega) (by omega)]; omega
      rw [e1] at hJ
      simp only [Int.toNat_natCast] at hJ ⊢
      obtain ⟨blk, hblk⟩ := g.own (by omega)
      rw [hblk] at hrow
      have hrow3 : rdn h3 ⟨blk, 0, none⟩ sl.len = some (iv (V.roots.map (·.1))) := rdn_leB (Heap.del_le g3.1) hrm2 hrow
      obtain ⟨q, hq⟩ : ∃ q, q = V.roots[i] := ⟨_, rfl⟩
      have hrd : rd h3 (Addr.add ⟨blk, 0, none⟩ (i * 1)) = some (.int .i64 q.1) := by
        rw [int_rd hrow3 hi (by rw [List.length_map]; exact hir), List.getElem_map, ← hq]
      have htk : V.roots.take (i + 1) = V.roots.take i ++ [q] := by rw [List.take_succ_eq_append_getElem hir, ← hq]
      have hqm : q ∈ V.roots := hq ▸ List.getElem_mem hir
      have hqn : q.1 ∉ (V.roots.map (·.1)).take i := by
        rw [← List.take_append_drop i (V.roots.map (·.1))] at hnd
        have hd := (List.nodup_append.1 hnd).2.2
        intro hc
        refine hd _ hc q.1 ?_ rfl
        rw [List.drop_eq_getElem_cons (by rw [List.length_map]; exact hir), List.getElem_map, ← hq]
        exact List.mem_cons_self ..
      have hcq : cf i q.1 = true := by rw [hcf]; simp [hqn]
      have hcs : ∀ x, cf (i + 1) x = (cf i x && (stB V below q.1 || decide (x ≠ q.1))) := by
        intro x
        have h1 : (V.roots.map (·.1)).take (i + 1) = (V.roots.map (·.1)).take i ++ [q.1] := by rw [← List.map_take, htk, List.map_append, List.map_take]; rfl
        rw [hcf]
        dsimp only
        rw [h1]
        by_cases hx : x = q.1
        · subst hx
          by_cases hs : stB V below q.1 = true
          · simp [hs]
          · simp [hs]
        · by_cases hm : x ∈ (V.roots.map (·.1)).take i
          · simp [hm, hx]
          · simp [hm, hx]
      -- what goes
      have goes : stB V below q.1 = false → ∀ (x : Array MapEntry) (clock : Nat), x.toList.map (fun ma => (ma.key, ma.val)) = (kDel (.int .i64) (kvs2.filter fun p => cf i p.1) q.1).map (fun x1 => (Value.int .i64 x1.1, Value.slice x1.2.a x1.2.len x1.2.cap)) → J (IntKind.wrap .i64 (n + 1)) s (h3.set rm (.map x clock)) := by
        intro hsb x clock hx
        obtain ⟨es3, k3, hrm3, _⟩ := hm3
        refine hJ _ _ _ ⟨⟨by omega, by omega, ?_, ?_, ⟨x, clock, Heap.set_same _ _ _, ?_⟩⟩, by show sl.len - (i + 1) < sl.len - i; omega⟩
        · rw [htk, List.filter_append, List.length_append, List.filter_cons_of_pos (by rw [hsb]; rfl), hn, wrap64 (by omega) (by omega)]
          simp
        · rw [htk, List.filter_append, List.filter_cons_of_neg (by rw [hsb]; decide), List.filter_nil, List.append_nil]
          exact g3.setmap (Heap.del_same _ _) hrm3 _
        · refine hx.trans ?_
          show List.map _ _ = List.map _ _
          rw [iDel_filter (List.Nodup.sublist ((List.filter_sublist (p := fun p => cf i p.1)).map _) hndk), List.filter_filter]
          congr 1
          apply List.filter_congr
          intro p _
          rw [hcs, hsb, Bool.false_or, Bool.and_comm]
      -- what stays
      have stays : stB V below q.1 = true → ∀ (s4 : Sl) (h6 : Heap), AppRes h3 s 1 9 (sv (((V.roots.take i).filter fun p => stB V below p.1).map (·.2))) [S q.2] 1 s4 h6 → J n s4 h6 := by
        intro hsb s4 h6 happ
        have g6 := g3.app (m := 1) (ys := [S q.2]) rfl happ
        obtain ⟨es3, k3, hrm3, hes3⟩ := hm3
        have hk6 := (app_keep g3 (m := 1) (ys := [S q.2]) rfl happ hrm3 (g3.nomap hrm3)).1
        refine hJ _ _ _ ⟨⟨by omega, by omega, ?_, ?_, ⟨es3, k3, hk6, ?_⟩⟩, by show sl.len - (i + 1) < sl.len - i; omega⟩
        · rw [htk, List.filter_append, List.filter_cons_of_neg (by rw [hsb]; decide), List.filter_nil, List.append_nil, hn]
        · rw [htk, List.filter_append, List.filter_cons_of_pos (by rw [hsb]), List.filter_nil, List.map_append]
          have : sv ((((V.roots.take i).filter fun p => stB V below p.1).map (·.2)) ++ [q.2]) = sv (((V.roots.take i).filter fun p => stB V below p.1).map (·.2)) ++ [S q.2] := by simp [sv]
          show Grow _ _ _ _ (sv (_ ++ [q.2]))
          rw [this]; exact g6
        · refine hes3.trans ?_
          congr 1
          apply List.filter_congr
          intro p _
          rw [hcs, hsb, Bool.true_or, Bool.and_true]
      have hfq : kFind (.int .i64) (V.roots.filter fun p => cf i p.1) q.1 = some q.2 :=
        iFind_mem (List.Nodup.sublist ((List.filter_sublist (p := fun p => cf i p.1)).map _) hnd) (List.mem_filter.2 ⟨hqm, hcq⟩)
      refine ⟨⟨by omega, by omega⟩, ⟨blk, 0, none⟩, hblk, q.1, hrd, fun J1 hJ1 => ?_⟩
      have body : ∀ b : Bool, b = (!stB V below q.1) → J1 b h3 := by
        intro b hb
        refine hJ1 b h3 ⟨fun hbt => ⟨_, rfl, some rm, rd_of ha3, rm, _, rfl, hm3, fun x clock hx => goes (by rw [hbt] at hb; simpa using hb.symm) x clock hx⟩, fun hbf => ⟨_, rfl, some rm, rd_of ha3, _, hm3, fun s3 hf => ?_, fun hf => ?_⟩⟩
        · have hsb : stB V below q.1 = true := by rw [hbf] at hb; simpa using hb.symm
          obtain ⟨t, ht, hc, hr⟩ := rows2_some (kt := .int .i64) hrw3 hf
          have htq : t = q.2 := by
            have ht : kFind (.int .i64) (V.roots.filter fun p => cf i p.1) q.1 = some t := ht
            rw [hfq] at ht; injection ht with ht; exact ht.symm
          subst htq
          have hg3 := g3.row
          have hfit := g3.fits (m := 1) (ys := [S q.2]) rfl
          cases hsa : s3.a with
          | none =>
            rw [hsa] at hr
            unfold rowOf at hr
            dsimp only at hr
            split at hr
            · injection hr with hr
              have ht0 : q.2 = [] := by
                cases hq2 : q.2 with
                | nil => rfl
                | cons x r => rw [hq2] at hr; cases hr
              rw [ht0] at stays hfit
              exact ⟨(by first | rfl | trivial | exact fun _ => trivial), _, hg3, by omega, by omega, hfit.1, hfit.2, fun s4 h6 happ => stays hsb s4 h6 happ⟩
            · cases hr
          | some ad =>
            rw [hsa] at hr
            exact ⟨q.2, hr, (by first | rfl | trivial | exact fun _ => trivial), _, hg3, by omega, by omega, hfit.1, hfit.2, fun s4 h6 happ => stays hsb s4 h6 happ⟩
        · exfalso
          have := (rows2_none (kt := .int .i64) hrw3).1 hf
          have : kFind (.int .i64) (V.roots.filter fun p => cf i p.1) q.1 = none := this
          rw [hfq] at this
          cases this
      refine ⟨fun hlt => ⟨_, rfl, V.last, rd_of ha3, body _ ?_⟩, fun hge => body _ ?_⟩
      · have hlt : q.1 < below := by simpa using hlt
        have : decide (below ≤ q.1) = false := by simp; omega
        unfold stB; rw [this, Bool.false_or]
        by_cases hx : q.1 = V.last <;> simp [hx]
      · have hge : ¬ q.1 < below := by simpa using hge
        have : decide (below ≤ q.1) = true := by simp; omega
        unfold stB; rw [this, Bool.true_or]; rfl
    · have hi : i = sl.len := by simp at hge; omega
      subst hi
      have htl : V.roots.take sl.len = V.roots := List.take_of_length_le (by omega)
      rw [htl] at hn g3
      have hcl : ∀ p ∈ V.roots, cf sl.len p.1 = stB V below p.1 := by
        intro p hp
        rw [hcf]
        have : p.1 ∈ (V.roots.map (·.1)).take sl.len := by
          rw [List.take_of_length_le (by rw [List.length_map]; omega)]
          exact List.mem_map.2 ⟨p, hp, rfl⟩
        simp [this]
      have hrf : (V.roots.filter fun p => cf sl.len p.1) = V.roots.filter fun p => stB V below p.1 := List.filter_congr hcl
      rw [hrf] at hrw3
      have hg3 := g3.row
      rw [Nat.mul_one] at hg3
      refine ⟨_, rfl, sp', by rw [add_zero']; exact rd_of ha3, (keep_ok hS3 hG.good hg3 ?_ hst).mono ?_⟩
      · rw [List.length_map]
        have := List.length_filter_le (fun p => stB V below p.1) V.roots
        omega
      rintro v h9 ⟨n6, rfl, hS9, hB9⟩
      refine ⟨n6, rfl, by rw [hn]; rfl, ?_, ?_⟩
      · have hlv9 : leV (vX a rm mb) h3 h9 := leB_leV hB9 (isS_map hS3) (isS_map hS9) (.inr (.inr rfl))
        obtain ⟨es3, k3, hrm3, hes3⟩ := hm3
        exact ⟨sp', np', _, (show h9 a = some (vO sp' rm np' V.last (if below > V.below then below else V.below)) from by rw [← hbl]; exact hB9 _ _ hamb ha3), ⟨es3, k3, hB9 _ _ hrm hrm3, hes3⟩, rows2_leV hlv9 hrw3, hS9, isT_leV hlv9 hT3, hrm⟩
      · exact hl2.trans (hlv.trans (leB_leV hB9 (isS_map hS3) (isS_map hS9) (.inr (.inr rfl))))
end Go.Vw
namespace Go.Vw
open Go Go.Proofs
def eA : Bs := [1, 1, 2, 32, 97, 1, 1, 49]
def eB : Bs := [1, 1, 2, 32, 97, 1, 1, 50]
set_option maxRecDepth 100000 in
theorem neAB : sumT eA ≠ sumT eB := by
  decide +kernel
end Go.Vw
namespace Go.Vw
open Go Go.Proofs

theorem le_of_leV {h h1 h2 : Heap} {X : Nat → Prop} (hl : h.le h1) (hv : leV X h1 h2) (hX : ∀ c, X c → h c = none) : h.le h2 := fun c o hc => hv.keep (hl c o hc) (fun hx => by rw [hX c hx] at hc; cases hc)
def tA : T := .leaf [6, 1] [49]
def tB : T := .leaf [6, 1] [50]
def nA : GApiNode := ⟨1, [6, 1], [49], empties⟩
def nB : GApiNode := ⟨1, [6, 1], [50], empties⟩
theorem tA_enc : tA.enc = eA := by kernel_rfl
theorem tB_enc : tB.enc = eB := by kernel_rfl
theorem tA_sum : tA.sum = sumT eA := by
  have h1 : checkN tA.node = true := by kernel_rfl
  have h2 : tA.sum = if checkN tA.node then sumT (encN tA.node) else [] := rfl
  rw [h2, if_pos h1]
  exact congrArg sumT tA_enc
theorem tB_sum : tB.sum = sumT eB := by
  have h1 : checkN tB.node = true := by kernel_rfl
  have h2 : tB.sum = if checkN tB.node then sumT (encN tB.node) else [] := rfl
  rw [h2, if_pos h1]
  exact congrArg sumT tB_enc
theorem tA_nodes : tA.nodes = [eA] := congrArg (fun x => [x]) tA_enc
theorem tB_nodes : tB.nodes = [eB] := congrArg (fun x => [x]) tB_enc
theorem decA : decN eA = (nA, 0) := by kernel_rfl
theorem decB : decN eB = (nB, 0) := by kernel_rfl
def csA : List GApiItem := [⟨[97], [49]⟩]
def csB : List GApiItem := [⟨[97], [50]⟩]
theorem chsA : chsM .nil csA = (tA, 0) := by kernel_rfl
theorem chsB : chsM tA csB = (tB, 0) := by kernel_rfl
theorem loadA {st : Store} {k : Bs} (hk : k ≠ []) (hf : stFind st k = some eA) : loadTop st k = (tA, 0) := by
  have hn : nodeAt st k = (nA, 0) := by unfold nodeAt; rw [hf]; exact decA
  have hl : loadM st 20 k 0 false (0, 0) = (tA, (1, 0)) := by
    unfold loadM
    rw [if_neg (by decide), hn]
    rfl
  unfold loadTop
  rw [if_neg hk, hl]
  rfl
theorem loadB {st : Store} {k : Bs} (hk : k ≠ []) (hf : stFind st k = some eB) : loadTop st k = (tB, 0) := by
  have hn : nodeAt st k = (nB, 0) := by unfold nodeAt; rw [hf]; exact decB
  have hl : loadM st 20 k 0 false (0, 0) = (tB, (1, 0)) := by
    unfold loadM
    rw [if_neg (by decide), hn]
    rfl
  unfold loadTop
  rw [if_neg hk, hl]
  rfl
theorem find1 {k1 k2 t1 t2 : Bs} : stFind [(k1, t1), (k2, t2)] k1 = some t1 := by
  unfold stFind kFind
  rw [if_pos (by simp [kEq])]
theorem find2 {k1 k2 t1 t2 : Bs} (h : k1 ≠ k2) : stFind [(k1, t1), (k2, t2)] k2 = some t2 := by
  unfold stFind kFind kFind
  rw [if_neg (by simp [kEq]; exact fun e => h e.symm), if_pos (by simp [kEq])]
theorem keep2 {k1 k2 : Bs} (h : k1 ≠ k2) : keepM [(k1, eA), (k2, eB)] [k2] = [(k2, eB)] := by
  have hf := find2 (t1 := eA) (t2 := eB) h
  have hk : kidsAt [(k1, eA), (k2, eB)] k2 = [] := by
    unfold kidsAt nodeAt
    rw [hf]
    dsimp only
    rw [decB]
    rfl
  have hmu : mu [(k1, eA), (k2, eB)] [k2] [] = 35 := by
    unfold mu unm
    simp
  have hr : reachM [(k1, eA), (k2, eB)] [k2] = [k2] := by
    unfold reachM
    rw [hmu]
    unfold reachF
    show (if stFind [(k1, eA), (k2, eB)] k2 = none ∨ k2 ∈ [] then reachF [(k1, eA), (k2, eB)] 34 [] [] else reachF [(k1, eA), (k2, eB)] 34 ([] ++ kidsAt [(k1, eA), (k2, eB)] k2) ([] ++ [k2])) = _
    rw [if_neg (by rw [hf]; simp), hk]
    rfl
  unfold keepM
  rw [hr]
  simp [h]
def VA (k1 : Bs) : VM := ⟨[(1, k1)], [(k1, eA)], tA, 1, 0⟩
def VB (k1 k2 : Bs) : VM := ⟨[(1, k1), (2, k2)], [(k1, eA), (k2, eB)], tB, 2, 0⟩
def VC (k2 : Bs) : VM := ⟨[(2, k2)], [(k2, eB)], tB, 2, 2⟩
theorem sum_ne (t : Bs) : sumT t ≠ [] := fun h => by
  have := sumT_len t
  rw [h] at this
  cases this
theorem stPut_new {st : Store} {t : Bs} (h : stFind st (sumT t) = none) : stPut st t = st ++ [(sumT t, t)] := by
  unfold stPut
  rw [h]
  exact kPut_new (stFind_none.1 h)
theorem cmA {k1 : Bs} (hA : sumT eA = k1) : commitM ⟨[], [], .nil, -1, 0⟩ 1 csA = (VA k1, k1, 0) := by
  have h0 : ∀ k : Bs, stFind [] k = none := fun _ => rfl
  have h1 : saveM [] [eA] = [] ++ [(sumT eA, eA)] := stPut_new (st := []) (t := eA) (h0 _)
  rw [List.nil_append] at h1
  unfold commitM
  rw [if_neg (by decide), if_neg (by decide)]
  dsimp only
  rw [chsA, if_pos rfl]
  dsimp only
  rw [tA_sum, tA_nodes, h1, hA]
  rfl
theorem cmB {k1 k2 : Bs} (hB : sumT eB = k2) (hne : k1 ≠ k2) : commitM (VA k1) 2 csB = (VB k1 k2, k2, 0) := by
  have e : chsM (VA k1).t csB = (tB, 0) := chsB
  have hf : stFind [(k1, eA)] (sumT eB) = none := by
    rw [hB]
    exact stFind_none.2 (by simpa using Ne.symm hne)
  have h1 : saveM [(k1, eA)] [eB] = [(k1, eA)] ++ [(sumT eB, eB)] := stPut_new (st := [(k1, eA)]) (t := eB) hf
  have h2 : kPut (.int .i64) [(1, k1)] (2 : Int) k2 = [(1, k1), (2, k2)] := kPut_last (l := [(1, k1)]) (by
    intro p hp
    rw [List.mem_singleton] at hp
    subst hp
    show (1 : Int) < 2
    decide)
  unfold commitM
  rw [if_neg (by decide), if_neg (by show ¬ ((2 : Int) ≤ 1 ∨ (2 : Int) < 0); decide), e, if_pos rfl]
  dsimp only
  rw [tB_sum, tB_nodes]
  show (VM.mk (kPut (.int .i64) [(1, k1)] (2 : Int) (sumT eB)) (saveM [(k1, eA)] [eB]) tB 2 0, sumT eB, (0 : Int)) = _
  rw [h1, hB, h2]
  rfl
theorem pmC {k1 k2 : Bs} (hne : k1 ≠ k2) : pruneM (VB k1 k2) 2 = VC k2 := by
  have h1 : ((VB k1 k2).roots.filter fun p => stB (VB k1 k2) 2 p.1) = [(2, k2)] := by
    show List.filter (fun p => decide ((2 : Int) ≤ p.1) || decide (p.1 = (2 : Int))) [((1 : Int), k1), (2, k2)] = _
    rw [List.filter_cons_of_neg (by simp), List.filter_cons_of_pos (by simp), List.filter_nil]
  unfold pruneM
  rw [h1]
  have h2 : keepM (VB k1 k2).st [k2] = [(k2, eB)] := keep2 hne
  show VM.mk _ (keepM (VB k1 k2).st [k2]) _ _ _ = _
  rw [h2]
  rfl
theorem gnC {k1 k2 : Bs} : goneM (VB k1 k2) 2 = 1 := by
  unfold goneM
  have : ((VB k1 k2).roots.filter fun p => !stB (VB k1 k2) 2 p.1) = [(1, k1)] := by
    show List.filter (fun p => !(decide ((2 : Int) ≤ p.1) || decide (p.1 = (2 : Int)))) [((1 : Int), k1), (2, k2)] = _
    rw [List.filter_cons_of_pos (by simp), List.filter_cons_of_neg (by simp), List.filter_nil]
  rw [this]
  rfl
theorem atB1 {k1 k2 : Bs} (hk : k1 ≠ []) : atM (VB k1 k2) 1 = (tA, 0) := by
  have h : rootM (VB k1 k2) 1 = (k1, 0) := rfl
  unfold atM
  rw [h, if_pos rfl]
  exact loadA hk find1
theorem atC1 {k2 : Bs} : atM (VC k2) 1 = (.nil, 120) := by
  have h : rootM (VC k2) 1 = ([], 120) := rfl
  unfold atM
  rw [h]
  rfl
theorem atC2 {k2 : Bs} (hk : k2 ≠ []) : atM (VC k2) 2 = (tB, 0) := by
  have h : rootM (VC k2) 2 = (k2, 0) := rfl
  unfold atM
  rw [h, if_pos rfl]
  refine loadB hk ?_
  show stFind [(k2, eB)] k2 = _
  unfold stFind kFind
  rw [if_pos (by simp [kEq])]
theorem good0 : VGood ⟨[], [], .nil, -1, 0⟩ where
  fits := fits_nil 0
  size := Nat.zero_le _
  good := ⟨List.nodup_nil, fun p hp => (by cases hp)⟩
  keys := fun p hp => (by cases hp)
  srt := List.Pairwise.nil
  lst := rfl
  lens := fun p hp => (by cases hp)
theorem VGood.prune {V : VM} (hG : VGood V) (below : Int) : VGood (pruneM V below) where
  fits := hG.fits
  size := hG.size
  good := hG.good.filter _
  keys := fun p hp => hG.keys p (List.mem_filter.1 hp).1
  srt := List.Pairwise.sublist ((List.filter_sublist (p := fun p : Int × Bs => stB V below p.1)).map _) hG.srt
  lst := by
    show V.last = _
    have hl := hG.lst
    cases hr : V.roots.map (·.1) |>.getLast? with
    | none =>
      rw [List.getLast?_eq_none_iff] at hr
      have hr' : V.roots = [] := by simpa using hr
      unfold pruneM
      dsimp only
      rw [hl, hr']
      rfl
    | some x =>
      rw [hr] at hl
      have hl : V.last = x := hl
      obtain ⟨ys, hys⟩ := List.getLast?_eq_some_iff.1 hr
      obtain ⟨ps, qs, h1, h2, h3⟩ := List.map_eq_append_iff.1 hys
      obtain ⟨q, h4, h5⟩ : ∃ q, qs = [q] ∧ q.1 = x := by
        match qs, h3 with
        | [q], h3 => exact ⟨q, rfl, by simpa using h3⟩
      unfold pruneM
      dsimp only
      rw [h1, h4, List.filter_append, List.filter_cons_of_pos (by unfold stB; simp [h5, hl]), List.filter_nil, List.map_append, List.getLast?_append]
      simp [h5, hl]
  lens := fun p hp => hG.lens p (List.mem_filter.1 hp).1
theorem rows1 {h : Heap} {b : Nat} {e : TypeId} {fr : Nat × Nat} {x : GApiItem} (hb : h b = some (.cells ⟨cGApiItem x⟩ e fr)) : rowOf h (some ⟨b, 0, none⟩) (1 * 2) = some (aggs cGApiItem [x]) :=
  rdn_all hb rfl
end Go.Vw
