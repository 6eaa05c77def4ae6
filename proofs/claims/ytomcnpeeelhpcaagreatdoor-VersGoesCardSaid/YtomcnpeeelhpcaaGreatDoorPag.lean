/-
  Tries in memory: joining, reading, parting, putting. Tries in memory: parting, putting. Tries in memory: putting. Tries in memory: deleting.
-/
import Derived.Test.YtomcnpeeelhpcaaGreatDoorPaf
namespace Go.Vw
open Go Go.Proofs

theorem kpost_le {h g : Heap} {t : T} {v : Value} {h' : Heap} (hl : h.le g) (hp : KPost g t v h') : KPost h t v h' := ⟨Heap.le_trans hl hp.1, hp.2⟩
theorem joined_ok' {h : Heap} {p : Bs} {t : T} {q : Option Addr} (hk : isK h t q) (ht : t.isNil = false) (hs : t.small) (hs2 : (joinT p t).small) (hK : KH h) : Spec Tryz.prog 248 [S p, .pointer q] h (KPost h (joinT p t)) := by
  apply ok248
  unfold VC248
  intro J hJ J1 hJ1
  refine ⟨fun he => ?_, fun hne => ?_⟩
  · have he : p = [] := by simpa using he
    subst he
    exact ⟨Heap.le_refl _, q, rfl, hk⟩
  · have hne : p ≠ [] := by simpa using hne
    obtain ⟨b, e, f, rfl, hb, hf⟩ := (isK_iff ht).1 hk
    obtain ⟨x, r, rfl⟩ : ∃ x r, p = x :: r := by cases p with | nil => exact absurd rfl hne | cons x r => exact ⟨x, r, rfl⟩
    refine ⟨_, rfl, _, by rw [add_zero', add_zero']; exact knr_kind hb, fun J2 hJ2 => ⟨fun hk1 => ?_, fun hk1 => ⟨_, rfl, _, by rw [add_zero', add_zero']; exact knr_kind hb, fun J3 hJ3 => ⟨fun hk2 => ?_, fun hk2 => ?_⟩⟩⟩⟩
    · cases t with
      | nil => cases ht
      | ext a k => simp [T.kind] at hk1
      | br v ks => simp [T.kind] at hk1
      | leaf a v =>
        have hl : ((x :: r) ++ a).length ≤ 1048576 := hs2.1
        rw [List.length_append] at hl
        refine ⟨_, rfl, a, by rw [add_zero']; exact knr_path hb, by omega, _, rfl, v, by rw [add_zero']; exact knr_val hb, (leaf_ok (by rw [List.length_append]; exact hl) hs.2 hK).mono ?_⟩
        rintro w h5 ⟨hle, p4, rfl, hp4⟩
        exact ⟨_, rfl, hle, p4, rfl, hp4⟩
    · cases t with
      | nil => cases ht
      | leaf a v => simp [T.kind] at hk2
      | br v ks => simp [T.kind] at hk2
      | ext a k =>
        have hl : ((x :: r) ++ a).length ≤ 1048576 := hs2.1
        have hl' := hl
        rw [List.length_append] at hl'
        refine ⟨_, rfl, a, by rw [add_zero']; exact knr_path hb, by omega, _, rfl, ⟨by decide, by decide⟩, f 0, knr_kid (i := 0) hb (by decide), hJ3 _ _ _ (hJ2 _ _ _ (hJ1 _ _ _ (hJ _ _ _ ⟨rfl, ?_⟩)))⟩
        refine (ext_ok (q := f 0) hl (hf 0) hK).mono ?_
        rintro w h5 ⟨hle, p4, rfl, hp4⟩
        exact ⟨_, rfl, hle, p4, rfl, hp4⟩
    · cases t with
      | nil => cases ht
      | leaf a v => simp [T.kind] at hk1
      | ext a k => simp [T.kind] at hk2
      | br v ks =>
        refine hJ3 _ _ _ (hJ2 _ _ _ (hJ1 _ _ _ (hJ _ _ _ ⟨rfl, ?_⟩)))
        refine (ext_ok (q := some ⟨b, 0, none⟩) hs2.1 hk hK).mono ?_
        rintro w h5 ⟨hle, p4, rfl, hp4⟩
        exact ⟨_, rfl, hle, p4, rfl, hp4⟩

theorem comm_eq {p path : Bs} : p = path ↔ (comm p path = p.length ∧ comm p path = path.length) := by
  constructor
  · rintro rfl
    have : comm p p = p.length := by
      induction p with
      | nil => rfl
      | cons x l ih => unfold comm; rw [if_pos rfl, ih]; rfl
    exact ⟨this, this⟩
  · rintro ⟨h1, h2⟩
    exact comm_both (List.drop_eq_nil_of_le (by omega)) (List.drop_eq_nil_of_le (by omega))
theorem fits_small {t : T} {d : Nat} (h : t.Fits d) : t.path.length ≤ 16 ∧ t.val.length ≤ 32 := by
  cases t with
  | nil => simp [T.path, T.val]
  | leaf p v => unfold T.Fits at h; simp only [T.path, T.val]; omega
  | ext p k => unfold T.Fits at h; simp only [T.path, T.val, List.length_nil]; omega
  | br v ks => unfold T.Fits at h; simp only [T.path, T.val, List.length_nil]; omega
theorem T.Fits.small {t : T} {d : Nat} (h : t.Fits d) : t.small := by
  have := fits_small h
  exact ⟨by omega, by omega⟩
theorem T.Fits.nib {t : T} {d : Nat} (h : t.Fits d) : ∀ x ∈ t.path, x ≤ 15 := by
  cases t with
  | nil => intro x hx; cases hx
  | leaf p v => unfold T.Fits at h; exact h.1
  | ext p k => unfold T.Fits at h; exact h.1
  | br v ks => intro x hx; cases hx

theorem get_ok {h : Heap} {t : T} {p : Option Addr} {path : Bs} {d : Nat} (hk : isK h t p) (hf : t.Fits d) (hp : ∀ x ∈ path, x ≤ 15) (hl : path.length ≤ 1048576) :
    Spec Tryz.prog 170 [.pointer p, S path] h (fun v h' => h' = h ∧ v = S (t.get path)) := by
  apply ok170
  unfold VC170
  refine ⟨fun q l h1 => (h1 = h ∧ ∃ t' d', isK h t' q ∧ t'.Fits d' ∧ (∀ x ∈ l, x ≤ 15) ∧ l.length ≤ 1048576 ∧ t'.get l = t.get path, l.length), ⟨rfl, t, d, hk, hf, hp, hl, rfl⟩, ?_⟩
  rintro q l h1 ⟨rfl, t', d', hk', hf', hx, hl', hg⟩
  have hnil := isK_nil hk'
  refine ⟨fun hsome J hJ => ?_, fun hnone => ?_⟩
  · have ht : t'.isNil = false := by rw [← hnil]; simpa using hsome
    obtain ⟨b, e, f, rfl, hb, hfk⟩ := (isK_iff ht).1 hk'
    have hsm := fits_small hf'
    refine ⟨_, rfl, t'.path, by rw [add_zero']; exact knr_path hb, (common_ok (by omega)).mono ?_⟩
    rintro v h2 ⟨rfl, rfl⟩
    have hc := comm_le t'.path l
    refine ⟨_, rfl, _, rfl, t'.path, by rw [add_zero']; exact knr_path hb, fun hlt => ⟨rfl, ?_⟩, fun hge => ?_⟩
    · have hlt : comm t'.path l < t'.path.length := by simpa using hlt
      rw [← hg]
      cases t' with
      | nil => cases ht
      | leaf a v =>
        have hlt : comm a l < a.length := hlt
        unfold T.get
        rw [if_neg]
        intro hc; exact absurd (comm_eq.1 hc).1 (by omega)
      | ext a k =>
        have hlt : comm a l < a.length := hlt
        unfold T.get; rw [if_pos hlt]
      | br v ks => simp [T.path] at hlt
    · have hge : comm t'.path l = t'.path.length := by simp at hge; omega
      rw [hge] at hc ⊢
      simp only [Int.toNat_natCast, List.take_length]
      refine ⟨by omega, ⟨by omega, Nat.le_refl _⟩, _, rfl, t'.kind, by rw [add_zero', add_zero']; exact knr_kind hb, fun hk2 => ?_, fun hk2 => ⟨fun he => ?_, fun hne => ?_⟩⟩
      · cases t' with
        | nil => cases ht
        | leaf a v => simp [T.kind] at hk2
        | br v ks => simp [T.kind] at hk2
        | ext a k =>
          have hF := hf'
          unfold T.Fits at hF
          have ha : 1 ≤ a.length := by
            cases a with
            | nil => exact absurd rfl hF.2.1
            | cons x r => simp
          refine ⟨_, rfl, ⟨by decide, by decide⟩, f 0, knr_kid (i := 0) hb (by decide), hJ _ _ _ ⟨⟨(by first | rfl | trivial | exact fun _ => trivial), k, d' + a.length, hfk 0, hF.2.2.2.2, mem_drop' hx, by rw [List.length_drop]; omega, ?_⟩, ?_⟩⟩
          · rw [← hg]
            have hge : comm a l = a.length := hge
            conv => rhs; unfold T.get
            rw [if_neg (by omega)]; rfl
          · have hc : a.length ≤ l.length := hc.2
            show (l.drop a.length).length < l.length
            rw [List.length_drop]; omega
      · have he : l.drop t'.path.length = [] := by simpa using he
        refine ⟨_, rfl, t'.val, by rw [add_zero']; exact knr_val hb, (by first | rfl | trivial | exact fun _ => trivial), ?_⟩
        rw [← hg]
        have hll : l.length ≤ t'.path.length := by
          rcases Nat.lt_or_ge t'.path.length l.length with h | h
          · have := congrArg List.length he; rw [List.length_drop] at this; simp at this; omega
          · exact h
        cases t' with
        | nil => cases ht
        | leaf a v =>
          have hal : a = l := comm_eq.2 ⟨hge, by have : l.length ≤ a.length := hll; have : a.length ≤ l.length := hc.2; have : comm a l = a.length := hge; omega⟩
          unfold T.get
          rw [if_pos hal]; rfl
        | ext a k => simp [T.kind] at hk2
        | br v ks =>
          have : l = [] := List.eq_nil_of_length_eq_zero (by have : l.length ≤ 0 := hll; omega)
          subst this; rfl
      · have hne : l.drop t'.path.length ≠ [] := by simpa using hne
        obtain ⟨x, r, hxr⟩ : ∃ x r, l.drop t'.path.length = x :: r := by
          cases h : l.drop t'.path.length with
          | nil => exact absurd h hne
          | cons x r => exact ⟨x, r, rfl⟩
        have hx15 : x ≤ 15 := by
          apply hx x
          apply List.mem_of_mem_drop (i := t'.path.length)
          rw [hxr]; exact List.mem_cons_self ..
        have hxn : x.toNat < 16 := by have := UInt8.le_iff_toNat_le.1 hx15; have e : (15 : UInt8).toNat = 15 := rfl; omega
        have hrl : r.length + 1 ≤ l.length := by
          have := congrArg List.length hxr
          rw [List.length_drop, List.length_cons] at this; omega
        rw [hxr]
        refine ⟨x, by decide, rfl, _, rfl, ⟨by omega, by omega⟩, f ⟨x.toNat, hxn⟩, ?_, by decide, ⟨by simp, Nat.le_refl _⟩, ?_⟩
        · rw [Nat.mul_one, add_mk]
          exact knr_kid hb hxn
        · rw [List.drop_one, List.tail_cons]
          have hfi : (⟨x.toNat, hxn⟩ : Fin 16) = fi x := Fin.ext (fi_val hx15).symm
          refine hJ _ _ _ ⟨⟨(by first | rfl | trivial | exact fun _ => trivial), t'.kids ⟨x.toNat, hxn⟩, d' + 1, hfk _, ?_, fun y hy => hx y (List.mem_of_mem_drop (i := t'.path.length) (by rw [hxr]; exact List.mem_cons_of_mem _ hy)), by omega, ?_⟩, ?_⟩
          · cases t' with
            | nil => cases ht
            | leaf a v => exact fits_nil _
            | ext a k => simp [T.kind] at hk2
            | br v ks => unfold T.Fits at hf'; exact hf'.2.2.2.2 _
          · rw [← hg]
            cases t' with
            | nil => cases ht
            | leaf a v =>
              show T.get .nil r = T.get (.leaf a v) l
              unfold T.get
              rw [if_neg]
              rintro rfl
              have hxr : a.drop a.length = x :: r := hxr
              rw [List.drop_length] at hxr
              cases hxr
            | ext a k => simp [T.kind] at hk2
            | br v ks =>
              have : l = x :: r := hxr
              subst this
              show (ks ⟨x.toNat, hxn⟩).get r = (ks (fi x)).get r
              rw [hfi]
          · show r.length < l.length; omega
  · have ht : t'.isNil = true := by rw [← hnil]; simpa using hnone
    refine ⟨rfl, ?_⟩
    rw [← hg]
    cases t' <;> first | rfl | cases ht
end Go.Vw
namespace Go.Vw
open Go Go.Proofs

def KL (h : Heap) (ks : Fin 16 → T) (l : List (Option Addr)) : Prop := ∃ f, l = kl f ∧ ∀ i, isK h (ks i) (f i)
theorem KL.len {h : Heap} {ks : Fin 16 → T} {l : List (Option Addr)} (k : KL h ks l) : l.length = 16 := by obtain ⟨f, rfl, _⟩ := k; exact kl_len f
theorem KL.le {h g : Heap} {ks : Fin 16 → T} {l : List (Option Addr)} (hl : h.le g) (k : KL h ks l) : KL g ks l := by
  obtain ⟨f, e, hf⟩ := k
  exact ⟨f, e, fun i => isK_le hl (hf i)⟩
theorem KL.none (h : Heap) : KL h (fun _ => .nil) (List.replicate 16 none) := ⟨fun _ => Option.none, kl_rep _, fun _ => rfl⟩
theorem pv_set {l : List (Option Addr)} {i : Nat} {p : Option Addr} : (pv l).set (0 + i * 1) (.pointer p) = pv (l.set i p) := by
  rw [Nat.zero_add, Nat.mul_one]; unfold pv; rw [List.map_set]
theorem KL.set {h : Heap} {ks : Fin 16 → T} {l : List (Option Addr)} (k : KL h ks l) {x : UInt8} (hx : x ≤ 15) {t : T} {p : Option Addr} (hp : isK h t p) : KL h (upd ks (fi x) t) (l.set x.toNat p) := by
  obtain ⟨f, rfl, hf⟩ := k
  refine ⟨fun j => if j = fi x then p else f j, ?_, fun i => ?_⟩
  · rw [← fi_val hx]; exact kl_set f (fi x) p
  · show isK h (if i = fi x then t else ks i) (if i = fi x then p else f i)
    by_cases hi : i = fi x
    · rw [if_pos hi, if_pos hi]; exact hp
    · rw [if_neg hi, if_neg hi]; exact hf i
theorem KL.get {h : Heap} {ks : Fin 16 → T} {l : List (Option Addr)} (k : KL h ks l) {x : UInt8} (hx : x ≤ 15) : ∃ p, (pv l)[0 + x.toNat * 1]? = some (.pointer p) ∧ isK h (ks (fi x)) p := by
  obtain ⟨f, rfl, hf⟩ := k
  have hv := fi_val hx
  refine ⟨f (fi x), ?_, hf _⟩
  rw [Nat.zero_add, Nat.mul_one, ← hv, List.getElem?_map, kl_get? f (fi x).isLt]
  rfl
theorem nib_lt {x : UInt8} (hx : x ≤ 15) : x.toNat < 16 := by have := UInt8.le_iff_toNat_le.1 hx; have e : (15 : UInt8).toNat = 15 := rfl; omega
theorem branchL_ok {h : Heap} {v : Bs} {ks : Fin 16 → T} {l : List (Option Addr)} (hv : v.length ≤ 1048576) (k : KL h ks l) (hK : KH h) : Spec Tryz.prog 250 [S v, .agg ⟨pv l⟩] h (KPost h (.br v ks)) := by
  obtain ⟨f, rfl, hf⟩ := k
  exact branchK_ok hv hf hK

theorem parted_ok {h : Heap} {t : T} {q : Option Addr} {c : Nat} {path v : Bs} {d : Nat} (hk : isK h t q) (ht : t.isNil = false) (hb : t.isBr = false) (hF : t.Fits d) (hc : c ≤ t.path.length)
    (hext : ∀ a k, t = .ext a k → a.drop c ≠ []) (hp : ∀ x ∈ path, x ≤ 15) (hpl : path.length ≤ 1048576) (hv : v.length ≤ 1048576) (hK : KH h) :
    Spec Tryz.prog 252 [.pointer q, .int .i64 c, S path, S v] h (KPost h (partT t (t.path.drop c) path v)) := by
  apply ok252
  unfold VC252
  obtain ⟨b, e, f, rfl, hbl, hf⟩ := (isK_iff ht).1 hk
  have hsm := fits_small hF
  have hnib := hF.nib
  refine ⟨_, rfl, t.path, by rw [add_zero']; exact knr_path hbl, by omega, ⟨by rw [Int.toNat_natCast]; exact hc, Nat.le_refl _⟩, fun J hJ J2 hJ2 => ?_⟩
  rw [Int.toNat_natCast, List.take_length]
  have finJ : ∀ l2 h1, KL h1 (oldK t (t.path.drop c)).2 l2 → h.le h1 → (oldK t (t.path.drop c)).1.length ≤ 1048576 → J (oldK t (t.path.drop c)).1 l2 h1 := by
    intro l2 h1 kl1 hle hol
    refine hJ _ _ _ fun J1 hJ1 => ⟨fun he => ?_, fun hne => ?_⟩
    · have he : path = [] := by simpa using he
      subst he
      refine ⟨l2, rfl, hJ1 _ _ _ ⟨by rw [List.length_map]; exact kl1.len, (branchL_ok hv kl1 (hK.le hle)).mono ?_⟩⟩
      rintro w h3 ⟨hle3, p, rfl, hp3⟩
      exact ⟨p, rfl, Heap.le_trans hle hle3, p, rfl, hp3⟩
    · cases path with
      | nil => simp at hne
      | cons x r =>
        have hx := hp x (List.mem_cons_self ..)
        have hxn := nib_lt hx
        have hrl : r.length ≤ 1048576 := by simp at hpl; omega
        refine ⟨x, by decide, rfl, by decide, ⟨by simp, Nat.le_refl _⟩, ?_⟩
        rw [List.take_length, List.drop_one, List.tail_cons]
        refine (leaf_ok hrl hv (hK.le hle)).mono ?_
        rintro w h4 ⟨hle4, p5, rfl, hp5⟩
        refine ⟨p5, rfl, ⟨by omega, by omega⟩, by rw [List.length_map, kl1.len, Int.toNat_natCast]; omega, l2.set x.toNat p5, by rw [Int.toNat_natCast]; exact pv_set, hJ1 _ _ _ ⟨by rw [List.length_map, List.length_set]; exact kl1.len, (branchL_ok hol ((kl1.le hle4).set hx hp5) ((hK.le hle).le hle4)).mono ?_⟩⟩
        rintro w h3 ⟨hle3, p, rfl, hp3⟩
        exact ⟨p, rfl, Heap.le_trans hle (Heap.le_trans hle4 hle3), p, rfl, hp3⟩
  refine ⟨fun he => ?_, fun hne => ?_⟩
  · have he : t.path.drop c = [] := by simpa using he
    rw [he] at finJ
    cases t with
    | nil => cases ht
    | br w ks => cases hb
    | ext a k => exact absurd he (hext a k rfl)
    | leaf a w =>
      refine ⟨_, rfl, w, by rw [add_zero']; exact knr_val hbl, List.replicate 16 none, rfl, hJ2 _ _ _ ⟨_, rfl, finJ _ _ (KL.none h) (Heap.le_refl _) ?_⟩⟩
      have : w.length ≤ 32 := hsm.2
      show w.length ≤ 1048576
      omega
  · have hne : t.path.drop c ≠ [] := by simpa using hne
    obtain ⟨x, r, hxr⟩ : ∃ x r, t.path.drop c = x :: r := by
      cases h : t.path.drop c with
      | nil => exact absurd h hne
      | cons x r => exact ⟨x, r, rfl⟩
    have hx : x ≤ 15 := hnib x (List.mem_of_mem_drop (i := c) (by rw [hxr]; exact List.mem_cons_self ..))
    have hxn := nib_lt hx
    have hrl : r.length + 1 ≤ t.path.length := by
      have := congrArg List.length hxr
      rw [List.length_drop, List.length_cons] at this; omega
    rw [hxr] at finJ ⊢
    refine ⟨_, rfl, t.kind, by rw [add_zero', add_zero']; exact knr_kind hbl, fun J3 hJ3 => ⟨fun hk1 => ?_, fun hk1 => ?_⟩⟩
    · cases t with
      | nil => cases ht
      | br w ks => cases hb
      | ext a k => simp [T.kind] at hk1
      | leaf a w =>
        have hw : w.length ≤ 32 := hsm.2
        refine ⟨x, by decide, rfl, by decide, ⟨by simp, Nat.le_refl _⟩, _, rfl, w, by rw [add_zero']; exact knr_val hbl, ?_⟩
        rw [List.take_length, List.drop_one, List.tail_cons]
        refine (leaf_ok (by omega) (by omega) hK).mono ?_
        rintro u h4 ⟨hle4, p5, rfl, hp5⟩
        refine ⟨p5, rfl, ⟨by omega, by omega⟩, by rw [Int.toNat_natCast]; omega, (List.replicate 16 none).set x.toNat p5, ?_, hJ3 _ _ ⟨_, rfl, hJ2 _ _ _ ⟨_, rfl, finJ _ _ ((KL.none h4).set hx hp5) hle4 (by simp [oldK])⟩⟩⟩
        rw [Int.toNat_natCast]
        exact pv_set (l := List.replicate 16 none)
    · cases t with
      | nil => cases ht
      | br w ks => cases hb
      | leaf a w => simp [T.kind] at hk1
      | ext a k =>
        have hF' := hF
        unfold T.Fits at hF'
        have hks := fits_small hF'.2.2.2.2
        refine ⟨x, by decide, rfl, by decide, ⟨by simp, Nat.le_refl _⟩, _, rfl, ⟨by decide, by decide⟩, f 0, knr_kid (i := 0) hbl (by decide), ?_⟩
        rw [List.take_length, List.drop_one, List.tail_cons]
        have hjs : (joinT r k).small := by
          have hal : a.length ≤ 16 := hsm.1
          have hrl : r.length + 1 ≤ a.length := hrl
          cases k with
          | nil => cases hF'.2.2.1
          | leaf q u => cases hF'.2.2.1
          | ext q u => cases hF'.2.2.1
          | br u ks =>
            cases r with
            | nil => exact ⟨by simp [joinT, T.path], by have := hks.2; show u.length ≤ 1048576; have : u.length ≤ 32 := hks.2; omega⟩
            | cons y s => exact ⟨by show (y :: s).length ≤ 1048576; omega, by show ([] : Bs).length ≤ 1048576; simp⟩
        have hk0 : isK h k (f 0) := hf 0
        refine (joined_ok' hk0 (br_some hF'.2.2.1) ⟨by omega, by omega⟩ hjs hK).mono ?_
        rintro u h4 ⟨hle4, p5, rfl, hp5⟩
        refine ⟨p5, rfl, ⟨by omega, by omega⟩, by rw [Int.toNat_natCast]; omega, (List.replicate 16 none).set x.toNat p5, ?_, hJ3 _ _ ⟨_, rfl, hJ2 _ _ _ ⟨_, rfl, finJ _ _ ((KL.none h4).set hx hp5) hle4 (by simp [oldK])⟩⟩⟩
        rw [Int.toNat_natCast]
        exact pv_set (l := List.replicate 16 none)
end Go.Vw
namespace Go.Vw
open Go Go.Proofs

theorem oldK_len (t : T) (old : Bs) : (oldK t old).1.length ≤ t.val.length := by
  cases old <;> cases t <;> simp [oldK, T.val]
theorem partT_br (t : T) (old path v : Bs) : (partT t old path v).isNil = false := by cases path <;> rfl
theorem partT_small {t : T} {old path v : Bs} (h1 : t.val.length ≤ 1048576) (h2 : v.length ≤ 1048576) : (partT t old path v).small := by
  have := oldK_len t old
  cases path with
  | nil => exact ⟨by simp [partT, T.path], h2⟩
  | cons x r => exact ⟨by simp [partT, T.path], by show (oldK t old).1.length ≤ 1048576; omega⟩

/-- What is parted, joined to what both have ahead. -/
theorem put_part {h : Heap} {t : T} {q : Option Addr} {path v : Bs} {d : Nat} (hk : isK h t q) (ht : t.isNil = false) (hb : t.isBr = false) (hF : t.Fits d)
    (hext : ∀ a k, t = .ext a k → comm t.path path ≠ a.length) (hp : ∀ x ∈ path, x ≤ 15) (hpl : path.length ≤ 1048576) (hv : v.length ≤ 1048576) (hK : KH h)
    (hsm : (joinT (path.take (comm t.path path)) (partT t (t.path.drop (comm t.path path)) (path.drop (comm t.path path)) v)).small) :
    Spec Tryz.prog 252 [.pointer q, .int .i64 (comm t.path path), S (path.drop (comm t.path path)), S v] h (fun w h1 => ∃ p, w = .pointer p ∧
      Spec Tryz.prog 248 [S (path.take (comm t.path path)), .pointer p] h1 (KPost h (joinT (path.take (comm t.path path)) (partT t (t.path.drop (comm t.path path)) (path.drop (comm t.path path)) v)))) := by
  have hc := comm_le t.path path
  have hs := hF.small
  refine (parted_ok hk ht hb hF hc.1 ?_ (mem_drop' hp) (by rw [List.length_drop]; omega) hv hK).mono ?_
  · rintro a k rfl hd
    apply hext a k rfl
    have hc : comm a path ≤ a.length := hc.1
    have := congrArg List.length hd
    rw [List.length_drop] at this
    simp only [List.length_nil] at this
    show comm a path = a.length
    have this : a.length - comm a path = 0 := this
    omega
  · rintro w h1 ⟨hle, p, rfl, hp1⟩
    refine ⟨p, rfl, (joined_ok' hp1 (partT_br _ _ _ _) (partT_small hs.2 hv) hsm (hK.le hle)).mono ?_⟩
    rintro w h2 hpost
    exact kpost_le hle hpost

theorem put_ok : ∀ (t : T) {h : Heap} {p : Option Addr} {path v : Bs} {d : Nat}, isK h t p → t.Fits d → (∀ x ∈ path, x ≤ 15) → v ≠ [] → v.length ≤ 32 → 0 < d + path.length → (d + path.length) % 2 = 0 → d + path.length ≤ 16 → KH h →
    Spec Tryz.prog 171 [.pointer p, S path, S v] h (KPost h (t.put path v))
  | .nil, h, p, path, v, d, hk, hF, hp, hv, hv2, h0, h1, h2, hK => by
    apply ok171
    unfold VC171
    obtain rfl : p = none := hk
    refine ⟨fun _ => (leaf_ok (by omega) (by omega) hK).mono ?_, fun hn => by simp at hn⟩
    rintro w h' ⟨hle, q, rfl, hq⟩
    exact ⟨q, rfl, hle, q, rfl, hq⟩
  | .leaf a u, h, p, path, v, d, hk, hF, hp, hv, hv2, h0, h1, h2, hK => by
    have hfit := put_fits _ path v d hF hp hv hv2 h0 h1 h2
    apply ok171
    unfold VC171
    obtain ⟨b, e, f, rfl, hb, hf⟩ := (isK_iff (t := .leaf a u) rfl).1 hk
    have hs := fits_small hF
    have ha : a.length ≤ 16 := hs.1
    have hc := comm_le a path
    refine ⟨fun hn => by simp at hn, fun _ => ⟨_, rfl, a, by rw [add_zero']; exact knr_path hb, (common_ok (by omega)).mono ?_⟩⟩
    rintro w h3 ⟨rfl, rfl⟩
    refine ⟨_, rfl, _, rfl, a, by rw [add_zero']; exact knr_path hb, fun J hJ => ⟨_, rfl, 1, by rw [add_zero', add_zero']; exact knr_kind hb, fun hh => by simp at hh, fun _ => ?_⟩⟩
    refine hJ _ _ ⟨fun hh => by simp at hh, fun _ => ⟨_, rfl, 1, by rw [add_zero', add_zero']; exact knr_kind hb, fun hh => by simp at hh, fun _ J1 hJ1 => ?_⟩⟩
    have hJf : J1 false h3 := by
      refine hJ1 _ _ ⟨fun hh => by simp at hh, fun _ J2 hJ2 => ?_⟩
      have e1 : a = path → J2 true h3 := fun he => by
        refine hJ2 _ _ ⟨fun _ => (leaf_ok (by omega) (by omega) hK).mono ?_, fun hh => by simp at hh⟩
        rintro w h' ⟨hle, q, rfl, hq⟩
        refine ⟨q, rfl, hle, q, rfl, ?_⟩
        unfold T.put
        rw [if_pos he]; exact hq
      have e2 : a ≠ path → J2 false h3 := fun he => by
        have hput : T.put (.leaf a u) path v = joinT (path.take (comm a path)) (partT (.leaf a u) (a.drop (comm a path)) (path.drop (comm a path)) v) := by
          conv => lhs; unfold T.put
          rw [if_neg he]
        rw [hput] at hfit
        refine hJ2 _ _ ⟨fun hh => by simp at hh, fun _ => ⟨by omega, ⟨by omega, by omega⟩, by omega, ⟨by omega, Nat.le_refl _⟩, ?_⟩⟩
        rw [Int.toNat_natCast, List.take_length, List.drop_zero]
        refine (put_part (t := .leaf a u) hk rfl rfl hF (fun a k h => by cases h) hp (by omega) (by omega) hK hfit.small).mono ?_
        rintro w h4 ⟨q, rfl, hs⟩
        refine ⟨q, rfl, hs.mono ?_⟩
        rintro w h5 ⟨hle, q, rfl, hq⟩
        exact ⟨q, rfl, hle, q, rfl, by rw [hput]; exact hq⟩
      refine ⟨fun hw => ?_, fun hw => ?_⟩
      · have hw : comm a path = a.length := by have := beq_iff_eq.1 hw; omega
        by_cases he : a = path
        · have : (((comm a path : Nat) : Int) == ((path.length : Nat) : Int)) = true := by rw [beq_iff_eq, (comm_eq.1 he).2]
          rw [this]; exact e1 he
        · have : (((comm a path : Nat) : Int) == ((path.length : Nat) : Int)) = false := by
            rw [beq_eq_false_iff_ne]
            intro hc
            exact he (comm_eq.2 ⟨hw, by omega⟩)
          rw [this]; exact e2 he
      · refine e2 fun he => ?_
        rw [(comm_eq.1 he).1] at hw
        simp at hw
    refine ⟨fun hw => ⟨_, rfl, 1, by rw [add_zero', add_zero']; exact knr_kind hb, hJf⟩, fun _ => hJf⟩
  | .ext a k, h, p, path, v, d, hk, hF, hp, hv, hv2, h0, h1, h2, hK => by
    have hfit := put_fits _ path v d hF hp hv hv2 h0 h1 h2
    have ihk : ∀ {h : Heap} {p : Option Addr} {path v : Bs} {d : Nat}, isK h k p → k.Fits d → (∀ x ∈ path, x ≤ 15) → v ≠ [] → v.length ≤ 32 → 0 < d + path.length → (d + path.length) % 2 = 0 → d + path.length ≤ 16 → KH h →
      Spec Tryz.prog 171 [.pointer p, S path, S v] h (KPost h (k.put path v)) := put_ok k
    have hF' := hF
    unfold T.Fits at hF'
    apply ok171
    unfold VC171
    obtain ⟨b, e, f, rfl, hb, hf⟩ := (isK_iff (t := .ext a k) rfl).1 hk
    have hs := fits_small hF
    have ha : a.length ≤ 16 := hs.1
    have hc := comm_le a path
    have hk0 : isK h k (f 0) := hf 0
    refine ⟨fun hn => by simp at hn, fun _ => ⟨_, rfl, a, by rw [add_zero']; exact knr_path hb, (common_ok (by omega)).mono ?_⟩⟩
    rintro w h3 ⟨rfl, rfl⟩
    refine ⟨_, rfl, _, rfl, a, by rw [add_zero']; exact knr_path hb, fun J hJ => ⟨_, rfl, 2, by rw [add_zero', add_zero']; exact knr_kind hb, fun hh => by simp at hh, fun _ => ?_⟩⟩
    refine hJ _ _ ⟨fun hh => by simp at hh, fun _ => ⟨_, rfl, 2, by rw [add_zero', add_zero']; exact knr_kind hb, fun hh => by simp at hh, fun _ J1 hJ1 => ?_⟩⟩
    refine ⟨fun hw => ⟨_, rfl, 2, by rw [add_zero', add_zero']; exact knr_kind hb, ?_⟩, fun hw => ?_⟩
    · have hw : comm a path = a.length := by have := beq_iff_eq.1 hw; omega
      have hput : T.put (.ext a k) path v = joinT a (k.put (path.drop a.length) v) := by
        conv => lhs; unfold T.put
        rw [if_pos hw]
      rw [hput] at hfit
      refine hJ1 _ _ ⟨fun _ => ⟨_, rfl, a, by rw [add_zero']; exact knr_path hb, _, rfl, ⟨by decide, by decide⟩, f 0, knr_kid (i := 0) hb (by decide), by omega, ⟨by omega, Nat.le_refl _⟩, ?_⟩, fun hh => by simp at hh⟩
      rw [Int.toNat_natCast, List.take_length, hw]
      have hkf := put_fits k (path.drop a.length) v (d + a.length) hF'.2.2.2.2 (mem_drop' hp) hv hv2 (by rw [List.length_drop]; omega) (by rw [List.length_drop, show d + a.length + (path.length - a.length) = d + path.length by omega]; exact h1) (by rw [List.length_drop]; omega)
      refine (ihk hk0 hF'.2.2.2.2 (mem_drop' hp) hv hv2 (by rw [List.length_drop]; omega) (by rw [List.length_drop, show d + a.length + (path.length - a.length) = d + path.length by omega]; exact h1) (by rw [List.length_drop]; omega) hK).mono ?_
      rintro w h4 ⟨hle, q, rfl, hq⟩
      refine ⟨q, rfl, ?_, (joined_ok' hq (put_some _ _ _) hkf.small hfit.small (hK.le hle)).mono ?_⟩
      · rw [add_zero']
        have h1 := knr_path hb
        exact (rd_le hle h1).trans h1.symm
      · rintro w h5 ⟨hle5, q5, rfl, hq5⟩
        exact ⟨q5, rfl, Heap.le_trans hle hle5, q5, rfl, by rw [hput]; exact hq5⟩
    · have hw : ¬ comm a path = a.length := by
        intro hc
        rw [hc] at hw
        simp at hw
      have hput : T.put (.ext a k) path v = joinT (path.take (comm a path)) (partT (.ext a k) (a.drop (comm a path)) (path.drop (comm a path)) v) := by
        conv => lhs; unfold T.put
        rw [if_neg hw]
      rw [hput] at hfit
      refine hJ1 _ _ ⟨fun hh => by simp at hh, fun _ J2 hJ2 => ⟨fun hh => ?_, fun _ => ?_⟩⟩
      · exfalso
        have := beq_iff_eq.1 hh
        exact hw (by omega)
      · refine hJ2 _ _ ⟨fun hh => by simp at hh, fun _ => ⟨by omega, ⟨by omega, by omega⟩, by omega, ⟨by omega, Nat.le_refl _⟩, ?_⟩⟩
        rw [Int.toNat_natCast, List.take_length, List.drop_zero]
        refine (put_part (t := .ext a k) hk rfl rfl hF (fun a' k' he => by cases he; exact hw) hp (by omega) (by omega) hK hfit.small).mono ?_
        rintro w h4 ⟨q, rfl, hs⟩
        refine ⟨q, rfl, hs.mono ?_⟩
        rintro w h5 ⟨hle, q, rfl, hq⟩
        exact ⟨q, rfl, hle, q, rfl, by rw [hput]; exact hq⟩
  | .br u ks, h, p, path, v, d, hk, hF, hp, hv, hv2, h0, h1, h2, hK => by
    have ihk : ∀ i, ∀ {h : Heap} {p : Option Addr} {path v : Bs} {d : Nat}, isK h (ks i) p → (ks i).Fits d → (∀ x ∈ path, x ≤ 15) → v ≠ [] → v.length ≤ 32 → 0 < d + path.length → (d + path.length) % 2 = 0 → d + path.length ≤ 16 → KH h →
      Spec Tryz.prog 171 [.pointer p, S path, S v] h (KPost h ((ks i).put path v)) := fun i => put_ok (ks i)
    have hF' := hF
    unfold T.Fits at hF'
    apply ok171
    unfold VC171
    obtain ⟨b, e, f, rfl, hb, hf⟩ := (isK_iff (t := .br u ks) rfl).1 hk
    have hf : ∀ i, isK h (ks i) (f i) := hf
    refine ⟨fun hn => by simp at hn, fun _ => ⟨_, rfl, [], by rw [add_zero']; exact knr_path hb, (common_ok (by simp)).mono ?_⟩⟩
    rintro w h3 ⟨rfl, rfl⟩
    have hkl : KL h3 ks (kl f) := ⟨f, rfl, hf⟩
    refine ⟨_, rfl, _, rfl, [], by rw [add_zero']; exact knr_path hb, fun J hJ => ⟨_, rfl, 3, by rw [add_zero', add_zero']; exact knr_kind hb, fun _ => ?_, fun hh => by simp at hh⟩⟩
    cases path with
    | nil =>
      refine hJ _ _ ⟨fun _ => ⟨_, rfl, kl f, knr_kids hb, (branchL_ok (by omega) hkl hK).mono ?_⟩, fun hh => by simp at hh⟩
      rintro w h5 ⟨hle, q, rfl, hq⟩
      exact ⟨q, rfl, hle, q, rfl, hq⟩
    | cons x r =>
      have hx := hp x (List.mem_cons_self ..)
      have hxn := nib_lt hx
      simp only [List.length_cons] at h0 h1 h2
      obtain ⟨q0, hq0, hkq⟩ := hkl.get hx
      refine hJ _ _ ⟨fun hh => by simp at hh, fun _ => ⟨_, rfl, 3, by rw [add_zero', add_zero']; exact knr_kind hb, fun _ => ⟨_, rfl, kl f, knr_kids hb, ⟨by rw [List.length_map, kl_len], by rw [List.length_map, kl_len]⟩, x, by decide, rfl, x, by decide, rfl, ⟨by omega, by omega⟩, q0, by rw [Int.toNat_natCast]; exact hq0,
        by decide, ⟨by simp, Nat.le_refl _⟩, ?_⟩, fun hh => by simp at hh⟩⟩
      rw [List.take_length, List.drop_one, List.tail_cons]
      refine (ihk (fi x) hkq (hF'.2.2.2.2 _) (fun z hz => hp z (List.mem_cons_of_mem _ hz)) hv hv2 (by omega) (by rw [show d + 1 + r.length = d + (r.length + 1) by omega]; exact h1) (by omega) hK).mono ?_
      rintro w h4 ⟨hle, q, rfl, hq⟩
      refine ⟨q, rfl, ⟨by omega, by omega⟩, by rw [List.length_map, kl_len, Int.toNat_natCast]; omega, _, rfl, u, by rw [add_zero']; exact rd_le hle (knr_val hb), by rw [List.length_set, List.length_map, kl_len], ?_⟩
      rw [Int.toNat_natCast, pv_set]
      have hul : u.length ≤ 32 := hF'.2.1
      refine (branchL_ok (by omega) ((hkl.le hle).set hx hq) (hK.le hle)).mono ?_
      rintro w h5 ⟨hle5, q5, rfl, hq5⟩
      exact ⟨q5, rfl, Heap.le_trans hle hle5, q5, rfl, hq5⟩
end Go.Vw
namespace Go.Vw
open Go Go.Proofs

def cntI (ks : Fin 16 → T) (i : Nat) : Nat := ((List.finRange 16).take i).countP fun i => !(ks i).isNil
def lastI (ks : Fin 16 → T) (i : Nat) : Fin 16 := ((List.finRange 16).take i).foldl (fun l i => if (ks i).isNil then l else i) 0
theorem cntI_succ (ks : Fin 16 → T) {i : Nat} (hi : i < 16) : cntI ks (i + 1) = cntI ks i + if (ks ⟨i, hi⟩).isNil then 0 else 1 := by
  unfold cntI
  rw [finRange_take hi, List.countP_append, List.countP_singleton]
  cases (ks ⟨i, hi⟩).isNil <;> rfl
theorem lastI_succ (ks : Fin 16 → T) {i : Nat} (hi : i < 16) : lastI ks (i + 1) = if (ks ⟨i, hi⟩).isNil then lastI ks i else ⟨i, hi⟩ := by
  unfold lastI
  rw [finRange_take hi, List.foldl_append]; rfl
theorem cntI_le (ks : Fin 16 → T) (i : Nat) : cntI ks i ≤ 16 := by
  unfold cntI
  have := List.countP_le_length (p := fun i => !(ks i).isNil) (l := (List.finRange 16).take i)
  rw [List.length_take, List.length_finRange] at this
  omega
theorem cntI_end (ks : Fin 16 → T) : cntI ks 16 = cnt ks := by unfold cntI cnt; rw [List.take_of_length_le (by simp)]
theorem lastI_end (ks : Fin 16 → T) : lastI ks 16 = lastK ks := by unfold lastI lastK; rw [List.take_of_length_le (by simp)]

set_option maxHeartbeats 1000000 in
theorem del_ok : ∀ (t : T) {h : Heap} {p : Option Addr} {path : Bs} {d : Nat}, isK h t p → t.Fits d → t.get path ≠ [] → (∀ x ∈ path, x ≤ 15) → path.length ≤ 1048576 → KH h →
    Spec Tryz.prog 166 [.pointer p, S path] h (KPost h (t.del path))
  | .nil, h, p, path, d, hk, hF, hg, hp, hpl, hK => absurd rfl hg
  | .leaf a u, h, p, path, d, hk, hF, hg, hp, hpl, hK => by
    apply ok166
    unfold VC166
    obtain ⟨b, e, f, rfl, hb, hf⟩ := (isK_iff (t := .leaf a u) rfl).1 hk
    exact ⟨_, rfl, 1, by rw [add_zero', add_zero']; exact knr_kind hb, fun _ => ⟨Heap.le_refl _, none, rfl, rfl⟩, fun hh => by simp at hh⟩
  | .ext a k, h, p, path, d, hk, hF, hg, hp, hpl, hK => by
    have ihk : ∀ {h : Heap} {p : Option Addr} {path : Bs} {d : Nat}, isK h k p → k.Fits d → k.get path ≠ [] → (∀ x ∈ path, x ≤ 15) → path.length ≤ 1048576 → KH h → Spec Tryz.prog 166 [.pointer p, S path] h (KPost h (k.del path)) := del_ok k
    have hfit := (del_fits _ path d hF hg).1
    have hF' := hF
    unfold T.Fits at hF'
    unfold T.get at hg
    have hcl : ¬ comm a path < a.length := fun hc => by rw [if_pos hc] at hg; exact hg rfl
    rw [if_neg hcl] at hg
    have hc := comm_le a path
    apply ok166
    unfold VC166
    obtain ⟨b, e, f, rfl, hb, hf⟩ := (isK_iff (t := .ext a k) rfl).1 hk
    have hk0 : isK h k (f 0) := hf 0
    have hkd := del_fits k (path.drop a.length) _ hF'.2.2.2.2 hg
    refine ⟨_, rfl, 2, by rw [add_zero', add_zero']; exact knr_kind hb, fun hh => by simp at hh, fun _ => ⟨_, rfl, 2, by rw [add_zero', add_zero']; exact knr_kind hb, fun _ => ⟨_, rfl, a, by rw [add_zero']; exact knr_path hb, _, rfl, ⟨by decide, by decide⟩, f 0, knr_kid (i := 0) hb (by decide), _, rfl, a, by rw [add_zero']; exact knr_path hb, by omega, ⟨by omega, Nat.le_refl _⟩, ?_⟩, fun hh => by simp at hh⟩⟩
    rw [Int.toNat_natCast, List.take_length]
    refine (ihk hk0 hF'.2.2.2.2 hg (mem_drop' hp) (by rw [List.length_drop]; omega) hK).mono ?_
    rintro w h1 ⟨hle, q, rfl, hq⟩
    refine ⟨q, rfl, ?_, (joined_ok' hq (hkd.2 hF'.2.2.1) hkd.1.small hfit.small (hK.le hle)).mono ?_⟩
    · rw [add_zero']
      have h1 := knr_path hb
      exact (rd_le hle h1).trans h1.symm
    · rintro w h5 ⟨hle5, q5, rfl, hq5⟩
      exact ⟨q5, rfl, Heap.le_trans hle hle5, q5, rfl, hq5⟩
  | .br u ks, h, p, path, d, hk, hF, hg, hp, hpl, hK => by
    have ihk : ∀ i, ∀ {h : Heap} {p : Option Addr} {path : Bs} {d : Nat}, isK h (ks i) p → (ks i).Fits d → (ks i).get path ≠ [] → (∀ x ∈ path, x ≤ 15) → path.length ≤ 1048576 → KH h → Spec Tryz.prog 166 [.pointer p, S path] h (KPost h ((ks i).del path)) := fun i => del_ok (ks i)
    have hfit := (del_fits _ path d hF hg).1
    have hF' := hF
    unfold T.Fits at hF'
    apply ok166
    unfold VC166
    obtain ⟨b, e, f, rfl, hb, hf⟩ := (isK_iff (t := .br u ks) rfl).1 hk
    have hf : ∀ i, isK h (ks i) (f i) := hf
    have hkl : KL h ks (kl f) := ⟨f, rfl, hf⟩
    have hul : u.length ≤ 32 := hF'.2.1
    refine ⟨_, rfl, 3, by rw [add_zero', add_zero']; exact knr_kind hb, fun hh => by simp at hh, fun _ => ⟨_, rfl, 3, by rw [add_zero', add_zero']; exact knr_kind hb, fun hh => by simp at hh, fun _ => ⟨_, rfl, u, by rw [add_zero']; exact knr_val hb, _, rfl, kl f, knr_kids hb, rfl, rfl, ⟨by rw [List.length_map, kl_len], by rw [List.length_map, kl_len]⟩, fun J hJ => ?_⟩⟩⟩
    have finJ : ∀ (v' : Bs) (ks' : Fin 16 → T) (l : List (Option Addr)) (h1 : Heap), KL h1 ks' l → h.le h1 → v'.length ≤ 32 → delB v' ks' = T.del (.br u ks) path → (∀ i, (ks' i).Fits (d + 1)) → J v' l h1 := by
      intro v' ks' l h1 hkl1 hle1 hv' heq hks'
      rw [← heq] at hfit
      have hK1 := hK.le hle1
      refine hJ _ _ _ ⟨by rw [List.length_map]; exact hkl1.len, ?_⟩
      refine ⟨fun m la i h4 => (h4 = h1 ∧ 0 ≤ i ∧ i ≤ 16 ∧ m = (cntI ks' i.toNat : Nat) ∧ la = ((lastI ks' i.toNat).val : Nat), 16 - i.toNat), ⟨rfl, by decide, by decide, rfl, rfl⟩, ?_⟩
      rintro m la i h4 ⟨rfl, h0, h16, rfl, rfl⟩
      obtain ⟨i, rfl⟩ : ∃ j : Nat, i = j := ⟨i.toNat, by omega⟩
      rw [Int.toNat_natCast]
      have hcle := cntI_le ks' i
      refine ⟨fun hlt J1 hJ1 => ?_, fun hge => ?_⟩
      · have hi : i < 16 := by simp at hlt; omega
        have e5 : IntKind.wrap .i64 ((i : Int) + 1) = ((i + 1 : Nat) : Int) := by rw [wrap64 (by omega) (by omega)]; omega
        have e6 : IntKind.wrap .i64 (((cntI ks' i : Nat) : Int) + 1) = ((cntI ks' i + 1 : Nat) : Int) := by rw [wrap64 (by omega) (by omega)]; omega
        rw [e5] at hJ1
        simp only [Int.toNat_natCast] at hJ1
        obtain ⟨f', rfl, hf'⟩ := hkl1
        have hnil := isK_nil (hf' ⟨i, hi⟩)
        have hc := cntI_succ ks' hi
        have hla := lastI_succ ks' hi
        refine ⟨⟨by omega, by omega⟩, f' ⟨i, hi⟩, by rw [Nat.mul_one, List.getElem?_map, kl_get? f' hi]; rfl, fun J2 hJ2 => ⟨fun hs => ?_, fun hs => ?_⟩⟩
        · have hn : (ks' ⟨i, hi⟩).isNil = false := by rw [← hnil]; simpa using hs
          rw [hn] at hc hla
          simp only [Bool.false_eq_true, if_false] at hc hla
          rw [e6]
          exact hJ2 _ _ _ (hJ1 _ _ _ ⟨⟨(by first | rfl | trivial | exact fun _ => trivial), by omega, by omega, by rw [hc], by rw [hla]⟩, by show 16 - (i + 1) < 16 - i; omega⟩)
        · have hn : (ks' ⟨i, hi⟩).isNil = true := by rw [← hnil]; simpa using hs
          rw [hn] at hc hla
          simp only [if_true, Nat.add_zero] at hc hla
          exact hJ2 _ _ _ (hJ1 _ _ _ ⟨⟨(by first | rfl | trivial | exact fun _ => trivial), by omega, by omega, by rw [hc], by rw [hla]⟩, by show 16 - (i + 1) < 16 - i; omega⟩)
      · have hi : i = 16 := by simp at hge; omega
        subst hi
        rw [cntI_end, lastI_end]
        have fin : ∀ {t' : T} {w : Value} {h5 : Heap}, t' = delB v' ks' → KPost h4 t' w h5 → ∃ q, w = .pointer q ∧ KPost h (T.del (.br u ks) path) (.pointer q) h5 := by
          rintro t' w h5 rfl ⟨hle5, q, rfl, hq⟩
          exact ⟨q, rfl, Heap.le_trans hle1 hle5, q, rfl, heq ▸ hq⟩
        have hl := (lastK ks').isLt
        refine ⟨fun hm => ?_, fun hm J3 hJ3 => ?_⟩
        · have hm : cnt ks' = 0 := by have := beq_iff_eq.1 hm; omega
          refine (leaf_ok (by simp) (by omega) hK1).mono fun w h5 hpost => ?_
          refine fin ?_ hpost
          unfold delB; rw [if_pos hm]
        · have hm : ¬ cnt ks' = 0 := by
            intro hc; rw [hc] at hm; simp at hm
          have hlk := lastK_some hm
          have h3t : cnt ks' = 1 ∧ v' = [] → J3 true h4 := fun hc1 => by
            have hd : delB v' ks' = joinT [UInt8.ofNat (lastK ks').val] (ks' (lastK ks')) := by
              unfold delB; rw [if_neg hm, if_pos hc1]
            obtain ⟨f', rfl, hf'⟩ := hkl1
            have hget : (pv (kl f'))[0 + (lastK ks').val * 1]? = some (.pointer (f' (lastK ks'))) := by
              rw [Nat.zero_add, Nat.mul_one, List.getElem?_map, kl_get? f' hl]; rfl
            refine hJ3 _ _ ⟨fun _ => ⟨⟨by omega, by omega⟩, _, by rw [Int.toNat_natCast]; exact hget, (by first | rfl | trivial | exact fun _ => trivial), [UInt8.ofNat (lastK ks').val], ?_, ?_⟩, fun hh => by simp at hh⟩
            · rw [wrapU8 (by omega) (by omega)]
              simp [byteV]; omega
            · refine (joined_ok' (hf' _) hlk (hks' _).small (by rw [← hd]; exact hfit.small) hK1).mono fun w h5 hpost => ?_
              exact fin hd.symm hpost
          have h3f : ¬ (cnt ks' = 1 ∧ v' = []) → J3 false h4 := fun hc1 => by
            refine hJ3 _ _ ⟨fun hh => by simp at hh, fun _ => ⟨by rw [List.length_map]; exact hkl1.len, (branchL_ok (by omega) hkl1 hK1).mono fun w h5 hpost => ?_⟩⟩
            refine fin ?_ hpost
            unfold delB; rw [if_neg hm, if_neg hc1]
          refine ⟨fun h1 => ?_, fun h1 => h3f fun hc => ?_⟩
          · have h1 : cnt ks' = 1 := by have := beq_iff_eq.1 h1; omega
            by_cases hv : v' = []
            · rw [hv]; exact h3t ⟨h1, hv⟩
            · have : (v' == []) = false := by simpa using hv
              rw [this]; exact h3f fun hc => hv hc.2
          · rw [hc.1] at h1; simp at h1
    cases path with
    | nil => exact ⟨fun _ => ⟨kl f, rfl, finJ [] ks _ _ hkl (Heap.le_refl _) (by simp) rfl hF'.2.2.2.2⟩, fun hh => by simp at hh⟩
    | cons x r =>
      have hx := hp x (List.mem_cons_self ..)
      have hxn := nib_lt hx
      simp only [List.length_cons] at hpl
      obtain ⟨q0, hq0, hkq⟩ := hkl.get hx
      have hg' : (ks (fi x)).get r ≠ [] := by unfold T.get at hg; exact hg
      refine ⟨fun hh => by simp at hh, fun _ => ⟨x, by decide, rfl, x, by decide, rfl, ⟨by omega, by omega⟩, q0, by rw [Int.toNat_natCast]; exact hq0, by decide, ⟨by simp, Nat.le_refl _⟩, ?_⟩⟩
      rw [List.take_length, List.drop_one, List.tail_cons]
      refine (ihk (fi x) hkq (hF'.2.2.2.2 _) hg' (fun z hz => hp z (List.mem_cons_of_mem _ hz)) (by omega) hK).mono ?_
      rintro w h4 ⟨hle, q, rfl, hq⟩
      refine ⟨q, rfl, ⟨by omega, by omega⟩, by rw [List.length_map, kl_len, Int.toNat_natCast]; omega, (kl f).set x.toNat q, by rw [Int.toNat_natCast]; exact pv_set, ?_⟩
      exact finJ u (upd ks (fi x) ((ks (fi x)).del r)) _ _ ((hkl.le hle).set hx hq) hle hul rfl (fits_upd hF'.2.2.2.2 (del_fits _ _ _ (hF'.2.2.2.2 _) hg').1)
end Go.Vw
