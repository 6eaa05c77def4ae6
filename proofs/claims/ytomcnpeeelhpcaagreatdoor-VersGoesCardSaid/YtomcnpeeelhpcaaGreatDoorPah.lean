/-
  Tries in memory: the functions of tries. How many items and nodes a trie has, as plain data. Conditions of functions, printed by a tool of mine (vcs.py). Tries in memory: going through all knots; all nodes' texts.
-/
import Derived.Test.YtomcnpeeelhpcaaGreatDoorPag
import Derived.Test.YtomcnpeeelhpcaaGreatDoorVwBase0
namespace Go.Vw
open Go Go.Proofs

def isT (h : Heap) (p : Option Addr) (t : T) : Prop := ∃ b e q, p = some ⟨b, 0, none⟩ ∧ h b = some (.cells ⟨[.pointer q]⟩ e (0, 0)) ∧ isK h t q
theorem isT_le {h g : Heap} (hl : h.le g) {p : Option Addr} {t : T} (k : isT h p t) : isT g p t := by
  obtain ⟨b, e, q, h1, h2, h3⟩ := k
  exact ⟨b, e, q, h1, hl _ _ h2, isK_le hl h3⟩
theorem isT_rd {h : Heap} {b e : Nat} {q : Option Addr} (hb : h b = some (.cells ⟨[.pointer q]⟩ e (0, 0))) : rd h (Addr.add ⟨b, 0, none⟩ 0) = some (.pointer q) := by
  rw [add_zero']; exact rd_of hb
def keyedB (key : Bs) : Bool := !(key == []) && decide (key.length ≤ 8)
def getM (t : T) (key : Bs) : Bs × Int := if keyedB key = true then (if t.get (nib key) = [] then ([], 5) else (t.get (nib key), 0)) else ([], 1)
def putM (t : T) (key v : Bs) : Option T × Int :=
  if keyedB key = false then (none, 1)
  else if v = [] ∨ 32 < v.length then (none, 2)
  else if 1024 ≤ t.many ∧ t.get (nib key) = [] then (none, 2)
  else (some (t.put (nib key) v), 0)
def delM (t : T) (key : Bs) : Option T × Int := if (getM t key).2 = 0 then (some (t.del (nib key)), 0) else (none, (getM t key).2)
def isTo (h : Heap) (p : Option Addr) : Option T → Prop
  | none => p = none
  | some t => isT h p t ∧ t.Fits 0
theorem isTo_le {h g : Heap} (hl : h.le g) {p : Option Addr} : ∀ {t : Option T}, isTo h p t → isTo g p t
  | none, k => k
  | some _, k => ⟨isT_le hl k.1, k.2⟩

theorem nib15 (key : Bs) : ∀ x ∈ nib key, x ≤ 15 := by
  intro x hx
  unfold nib at hx
  rw [List.mem_flatMap] at hx
  obtain ⟨b, _, hb⟩ := hx
  have hlt := b.toNat_lt
  apply UInt8.le_iff_toNat_le.2
  have e15 : (15 : UInt8).toNat = 15 := rfl
  rcases List.mem_cons.1 hb with rfl | hb
  · have : (b / 16).toNat = b.toNat / 16 := by rw [UInt8.toNat_div]; rfl
    omega
  · rw [List.mem_singleton] at hb
    subst hb
    have : (b &&& 15).toNat = b.toNat &&& 15 := by rw [UInt8.toNat_and]; rfl
    rw [this, e15]
    exact Nat.and_le_right
theorem keyed_len {key : Bs} (h : keyedB key = true) : 0 < key.length ∧ key.length ≤ 8 := by
  unfold keyedB at h
  rw [Bool.and_eq_true] at h
  obtain ⟨h1, h2⟩ := h
  refine ⟨?_, by simpa using h2⟩
  cases key with
  | nil => simp at h1
  | cons x l => simp
theorem tnew_ok {h : Heap} : Spec Tryz.prog 17 [] h (fun v h' => h.le h' ∧ ∃ p, v = .pointer p ∧ isT h' p .nil) := by
  apply ok17
  unfold VC17
  exact fun b hb => ⟨Heap.le_set _ hb, _, rfl, b, 153, none, rfl, Heap.set_same _ _ _, rfl⟩
theorem tlen_ok {h : Heap} {p : Option Addr} {t : T} (hk : isT h p t) : Spec Tryz.prog 169 [.pointer p] h (fun v h' => h' = h ∧ v = .int .i64 t.many) := by
  apply ok169
  unfold VC169
  obtain ⟨b, e, q, rfl, hb, hq⟩ := hk
  have hnil := isK_nil hq
  refine ⟨_, rfl, q, isT_rd hb, fun hn => ⟨rfl, ?_⟩, fun hn => ?_⟩
  · rw [hn] at hnil
    cases t <;> first | rfl | cases hnil
  · rw [hn] at hnil
    obtain ⟨b', e', f, rfl, hb', _⟩ := (isK_iff hnil.symm).1 hq
    exact ⟨_, rfl, _, isT_rd hb, _, rfl, _, knr_many hb', rfl, rfl⟩
theorem troot_ok {h : Heap} {p : Option Addr} {t : T} (hk : isT h p t) : Spec Tryz.prog 21 [.pointer p] h (fun v h' => h' = h ∧ v = S t.sum) := by
  apply ok21
  unfold VC21
  obtain ⟨b, e, q, rfl, hb, hq⟩ := hk
  have hnil := isK_nil hq
  refine ⟨_, rfl, q, isT_rd hb, fun hn => ⟨rfl, ?_⟩, fun hn => ?_⟩
  · rw [hn] at hnil
    cases t <;> first | rfl | cases hnil
  · rw [hn] at hnil
    obtain ⟨b', e', f, rfl, hb', _⟩ := (isK_iff hnil.symm).1 hq
    exact ⟨_, rfl, _, isT_rd hb, _, rfl, _, knr_sum hb', rfl, rfl⟩
theorem tget_ok {h : Heap} {p : Option Addr} {t : T} {key : Bs} (hk : isT h p t) (hF : t.Fits 0) : Spec Tryz.prog 165 [.pointer p, S key] h (fun v h' => h' = h ∧ v = .tuple ⟨[S (getM t key).1, .int .i64 (getM t key).2]⟩) := by
  apply ok165
  unfold VC165
  refine keyed_ok.mono ?_
  rintro v h1 ⟨rfl, rfl⟩
  unfold getM
  refine ⟨_, rfl, fun hn => ?_, fun hy => ?_⟩
  · have hn : keyedB key = false := by simpa [keyedB, Decidable.or_iff_not_imp_left] using hn
    rw [if_neg (by rw [hn]; decide)]
    exact ⟨rfl, rfl⟩
  · have hy : keyedB key = true := by unfold keyedB; simpa using hy
    have hkl := keyed_len hy
    rw [if_pos hy]
    obtain ⟨b, e, q, rfl, hb, hq⟩ := hk
    refine ⟨_, rfl, q, isT_rd hb, (of_ok (by omega)).mono ?_⟩
    rintro v h2 ⟨rfl, rfl⟩
    refine ⟨_, rfl, rfl, (get_ok hq hF (nib15 key) (by rw [nib_len]; omega)).mono ?_⟩
    rintro v h3 ⟨rfl, rfl⟩
    refine ⟨_, rfl, fun he => ?_, fun he => ?_⟩
    · have he : t.get (nib key) = [] := by simpa using he
      rw [if_pos he]; exact ⟨rfl, rfl⟩
    · have he : ¬ t.get (nib key) = [] := by simpa using he
      rw [if_neg he]; exact ⟨rfl, rfl⟩
theorem tput_ok {h : Heap} {p : Option Addr} {t : T} {key v : Bs} (hk : isT h p t) (hF : t.Fits 0) (hK : KH h) : Spec Tryz.prog 73 [.pointer p, S key, S v] h (fun w h' => h.le h' ∧ ∃ q, w = .tuple ⟨[.pointer q, .int .i64 (putM t key v).2]⟩ ∧ isTo h' q (putM t key v).1) := by
  apply ok73
  unfold VC73
  refine keyed_ok.mono ?_
  rintro w h1 ⟨rfl, rfl⟩
  unfold putM
  refine ⟨_, rfl, fun hn => ?_, fun hy J hJ => ?_⟩
  · have hn : keyedB key = false := by simpa [keyedB, Decidable.or_iff_not_imp_left] using hn
    rw [if_pos hn]
    exact ⟨Heap.le_refl _, none, rfl, rfl⟩
  · have hy : keyedB key = true := by unfold keyedB; simpa using hy
    have hkl := keyed_len hy
    have hny : ¬ keyedB key = false := by rw [hy]; decide
    have hjt : (v = [] ∨ 32 < v.length) → J true h1 := fun hv => by
      refine hJ _ _ ⟨fun _ => ?_, fun hh => by simp at hh⟩
      rw [if_neg hny, if_pos hv]
      exact ⟨Heap.le_refl _, none, rfl, rfl⟩
    have hjf : ¬ (v = [] ∨ 32 < v.length) → J false h1 := fun hv => by
      refine hJ _ _ ⟨fun hh => by simp at hh, fun _ => (of_ok (by omega)).mono ?_⟩
      rintro w h2 ⟨rfl, rfl⟩
      rw [if_neg hny, if_neg hv]
      refine ⟨_, rfl, fun J1 hJ1 => ?_⟩
      have hk' := hk
      obtain ⟨b, e, q, rfl, hb, hq⟩ := hk'
      have h1t : (1024 ≤ t.many ∧ t.get (nib key) = []) → J1 true h2 := fun hc => by
        refine hJ1 _ _ ⟨fun _ => ?_, fun hh => by simp at hh⟩
        rw [if_pos hc]
        exact ⟨Heap.le_refl _, none, rfl, rfl⟩
      have h1f : ¬ (1024 ≤ t.many ∧ t.get (nib key) = []) → J1 false h2 := fun hc => by
        refine hJ1 _ _ ⟨fun hh => by simp at hh, fun _ => ⟨_, rfl, q, isT_rd hb, ?_⟩⟩
        rw [if_neg hc]
        have hvne : v ≠ [] := fun e => hv (.inl e)
        have hvl : v.length ≤ 32 := by
          rcases Nat.lt_or_ge 32 v.length with h | h
          · exact absurd (.inr h) hv
          · exact h
        have hnl := nib_len key
        refine (put_ok t hq hF (nib15 key) hvne hvl (by omega) (by omega) (by omega) hK).mono ?_
        rintro w h3 ⟨hle, q3, rfl, hq3⟩
        refine ⟨q3, rfl, fun b3 hb3 => ⟨Heap.le_trans hle (Heap.le_set _ hb3), _, rfl, ⟨b3, 153, q3, rfl, Heap.set_same _ _ _, isK_le (Heap.le_set _ hb3) hq3⟩, put_fits t _ v 0 hF (nib15 key) hvne hvl (by omega) (by omega) (by omega)⟩⟩
      refine (tlen_ok hk).mono ?_
      rintro w h3 ⟨rfl, rfl⟩
      refine ⟨_, rfl, fun hge => ?_, fun hlt => h1f fun hc => ?_⟩
      · have hge : 1024 ≤ t.many := by simpa using hge
        refine ⟨_, rfl, q, isT_rd hb, (get_ok hq hF (nib15 key) (by rw [nib_len]; omega)).mono ?_⟩
        rintro w h4 ⟨rfl, rfl⟩
        refine ⟨_, rfl, ?_⟩
        by_cases he : t.get (nib key) = []
        · rw [he]; exact h1t ⟨hge, he⟩
        · have : (t.get (nib key) == []) = false := by simpa using he
          rw [this]; exact h1f fun hc => he hc.2
      · have : ¬ (1024 ≤ t.many) := by simpa using hlt
        exact this hc.1
    refine ⟨fun hv => ?_, fun hv => hjt (.inl (by simpa using hv))⟩
    have hv : ¬ v = [] := by simpa using hv
    by_cases hl : 32 < v.length
    · have : decide ((v.length : Int) > 32) = true := by simp; omega
      rw [this]; exact hjt (.inr hl)
    · have : decide ((v.length : Int) > 32) = false := by simp; omega
      rw [this]; exact hjf fun hc => hc.elim hv hl
theorem tdel_ok {h : Heap} {p : Option Addr} {t : T} {key : Bs} (hk : isT h p t) (hF : t.Fits 0) (hK : KH h) : Spec Tryz.prog 72 [.pointer p, S key] h (fun w h' => h.le h' ∧ ∃ q, w = .tuple ⟨[.pointer q, .int .i64 (delM t key).2]⟩ ∧ isTo h' q (delM t key).1) := by
  apply ok72
  unfold VC72
  refine (tget_ok hk hF).mono ?_
  rintro w h1 ⟨rfl, rfl⟩
  unfold delM
  refine ⟨_, _, rfl, fun hn => ?_, fun hy => ?_⟩
  · have hn : ¬ (getM t key).2 = 0 := by simpa using hn
    rw [if_neg hn]
    exact ⟨Heap.le_refl _, none, rfl, rfl⟩
  · have hy : (getM t key).2 = 0 := by simpa using hy
    rw [if_pos hy]
    have hkey : keyedB key = true ∧ t.get (nib key) ≠ [] := by
      unfold getM at hy
      by_cases hkb : keyedB key = true
      · rw [if_pos hkb] at hy
        refine ⟨hkb, fun he => ?_⟩
        rw [if_pos he] at hy
        exact absurd hy (by decide)
      · rw [if_neg hkb] at hy
        exact absurd hy (by decide)
    have hkl := keyed_len hkey.1
    obtain ⟨b, e, q, rfl, hb, hq⟩ := hk
    refine ⟨_, rfl, q, isT_rd hb, (of_ok (by omega)).mono ?_⟩
    rintro w h2 ⟨rfl, rfl⟩
    refine ⟨_, rfl, rfl, (del_ok t hq hF hkey.2 (nib15 key) (by rw [nib_len]; omega) hK).mono ?_⟩
    rintro w h3 ⟨hle, q3, rfl, hq3⟩
    exact ⟨q3, rfl, fun b3 hb3 => ⟨Heap.le_trans hle (Heap.le_set _ hb3), _, rfl, ⟨b3, 153, q3, rfl, Heap.set_same _ _ _, isK_le (Heap.le_set _ hb3) hq3⟩, (del_fits t _ 0 hF hkey.2).1⟩⟩
end Go.Vw
namespace Go.Vw
open Go Go.Proofs

def sumF (f : Fin 16 → Nat) : Nat := ((List.finRange 16).map f).sum
def T.size : T → Nat
  | .nil => 0
  | .leaf _ _ => 1
  | .ext _ k => k.size
  | .br v ks => sumF (fun i => (ks i).size) + if v = [] then 0 else 1
/-- All nodes' texts, from the top. -/
def T.nodes : T → List Bs
  | .nil => []
  | .leaf p v => [(T.leaf p v).enc]
  | .ext p k => (T.ext p k).enc :: k.nodes
  | .br v ks => (T.br v ks).enc :: (List.finRange 16).flatMap fun i => (ks i).nodes
theorem sum_upd {α : Type} [DecidableEq α] {f g : α → Nat} {i : α} (ho : ∀ j, j ≠ i → g j = f j) : ∀ {l : List α}, l.Nodup → i ∈ l → (l.map g).sum + f i = (l.map f).sum + g i
  | x :: l, hn, hm => by
    rw [List.nodup_cons] at hn
    rw [List.map_cons, List.map_cons, List.sum_cons, List.sum_cons]
    by_cases hx : x = i
    · subst hx
      have : l.map g = l.map f := by
        apply List.map_congr_left
        intro j hj
        exact ho j (fun e => hn.1 (e ▸ hj))
      rw [this]; omega
    · have hm : i ∈ l := by
        rcases List.mem_cons.1 hm with h | h
        · exact absurd h.symm hx
        · exact h
      have ih := sum_upd ho hn.2 hm
      rw [ho x hx]; omega
theorem size_upd (ks : Fin 16 → T) (i : Fin 16) (t : T) : sumF (fun j => (upd ks i t j).size) + (ks i).size = sumF (fun j => (ks j).size) + t.size := by
  have := sum_upd (f := fun j => (ks j).size) (g := fun j => (upd ks i t j).size) (i := i) (fun j hj => by rw [upd_other _ _ hj]) nodup16 (List.mem_finRange i)
  rw [upd_same] at this
  exact this
theorem sumF_zero : sumF (fun _ => 0) = 0 := by decide
theorem size_nils : sumF (fun i => ((fun _ : Fin 16 => T.nil) i).size) = 0 := sumF_zero
theorem sum_ge {α : Type} {f : α → Nat} : ∀ {l : List α} {i : α}, i ∈ l → f i ≤ (l.map f).sum
  | x :: l, i, h => by
    rw [List.map_cons, List.sum_cons]
    rcases List.mem_cons.1 h with rfl | h
    · omega
    · have := sum_ge (f := f) h; omega
theorem sumF_ge (f : Fin 16 → Nat) (i : Fin 16) : f i ≤ sumF f := sum_ge (List.mem_finRange i)
theorem joinT_size (p : Bs) (t : T) : (joinT p t).size = t.size := by
  cases p with
  | nil => rfl
  | cons x r => cases t <;> rfl
theorem partT_size_leaf (a u old path v : Bs) : (partT (.leaf a u) old path v).size ≤ 2 := by
  have hold : sumF (fun i => ((oldK (.leaf a u) old).2 i).size) + (if (oldK (.leaf a u) old).1 = [] then 0 else 1) ≤ 1 := by
    cases old with
    | nil =>
      show sumF (fun i => ((fun _ : Fin 16 => T.nil) i).size) + (if u = [] then 0 else 1) ≤ 1
      rw [size_nils]; split <;> omega
    | cons x r =>
      have h := size_upd (fun _ => .nil) (fi x) (.leaf r u)
      rw [size_nils] at h
      show sumF (fun i => (upd (fun _ => .nil) (fi x) (.leaf r u) i).size) + 0 ≤ 1
      have e1 : T.size .nil = 0 := rfl
      have e2 : T.size (.leaf r u) = 1 := rfl
      rw [e1, e2] at h
      omega
  cases path with
  | nil =>
    show sumF (fun i => ((oldK (.leaf a u) old).2 i).size) + (if v = [] then 0 else 1) ≤ 2
    split <;> split at hold <;> omega
  | cons x r =>
    show sumF (fun i => (upd (oldK (.leaf a u) old).2 (fi x) (.leaf r v) i).size) + (if (oldK (.leaf a u) old).1 = [] then 0 else 1) ≤ 2
    have h := size_upd (oldK (.leaf a u) old).2 (fi x) (.leaf r v)
    have e2 : T.size (.leaf r v) = 1 := rfl
    rw [e2] at h
    omega
theorem partT_size_ext (a : Bs) (k : T) (old path v : Bs) : (partT (.ext a k) old path v).size ≤ k.size + 1 := by
  have hold : sumF (fun i => ((oldK (.ext a k) old).2 i).size) + (if (oldK (.ext a k) old).1 = [] then 0 else 1) ≤ k.size := by
    cases old with
    | nil =>
      show sumF (fun i => ((fun _ : Fin 16 => T.nil) i).size) + 0 ≤ k.size
      rw [size_nils]; omega
    | cons x r =>
      have h := size_upd (fun _ => .nil) (fi x) (joinT r k)
      rw [size_nils, joinT_size] at h
      show sumF (fun i => (upd (fun _ => .nil) (fi x) (joinT r k) i).size) + 0 ≤ k.size
      have e1 : T.size .nil = 0 := rfl
      rw [e1] at h
      omega
  cases path with
  | nil =>
    show sumF (fun i => ((oldK (.ext a k) old).2 i).size) + (if v = [] then 0 else 1) ≤ k.size + 1
    split <;> split at hold <;> omega
  | cons x r =>
    show sumF (fun i => (upd (oldK (.ext a k) old).2 (fi x) (.leaf r v) i).size) + (if (oldK (.ext a k) old).1 = [] then 0 else 1) ≤ k.size + 1
    have h := size_upd (oldK (.ext a k) old).2 (fi x) (.leaf r v)
    have e2 : T.size (.leaf r v) = 1 := rfl
    rw [e2] at h
    omega
theorem tput_size : ∀ (t : T) (path v : Bs), (t.put path v).size ≤ t.size + 1 ∧ (t.get path ≠ [] → v ≠ [] → (t.put path v).size ≤ t.size)
  | .nil, path, v => ⟨Nat.le_refl _, fun h => absurd rfl h⟩
  | .leaf a u, path, v => by
    unfold T.put T.get
    by_cases h : a = path
    · rw [if_pos h, if_pos h]
      exact ⟨by simp [T.size], fun _ _ => Nat.le_refl _⟩
    · rw [if_neg h, if_neg h, joinT_size]
      exact ⟨partT_size_leaf _ _ _ _ _, fun h => absurd rfl h⟩
  | .ext a k, path, v => by
    have ih := tput_size k (path.drop a.length) v
    have hc := comm_le a path
    unfold T.put T.get
    by_cases h : comm a path = a.length
    · rw [if_pos h, if_neg (by omega), joinT_size]
      exact ih
    · rw [if_neg h, if_pos (by omega), joinT_size]
      exact ⟨partT_size_ext _ _ _ _ _, fun h => absurd rfl h⟩
  | .br u ks, path, v => by
    cases path with
    | nil =>
      show sumF (fun i => (ks i).size) + (if v = [] then 0 else 1) ≤ sumF (fun i => (ks i).size) + (if u = [] then 0 else 1) + 1 ∧ (u ≠ [] → v ≠ [] → sumF (fun i => (ks i).size) + (if v = [] then 0 else 1) ≤ sumF (fun i => (ks i).size) + (if u = [] then 0 else 1))
      refine ⟨by split <;> omega, fun h1 h2 => by rw [if_neg h1, if_neg h2]; exact Nat.le_refl _⟩
    | cons x r =>
      have ih := tput_size (ks (fi x)) r v
      have h := size_upd ks (fi x) ((ks (fi x)).put r v)
      show sumF (fun i => (upd ks (fi x) ((ks (fi x)).put r v) i).size) + (if u = [] then 0 else 1) ≤ sumF (fun i => (ks i).size) + (if u = [] then 0 else 1) + 1 ∧ ((ks (fi x)).get r ≠ [] → v ≠ [] → sumF (fun i => (upd ks (fi x) ((ks (fi x)).put r v) i).size) + (if u = [] then 0 else 1) ≤ sumF (fun i => (ks i).size) + (if u = [] then 0 else 1))
      refine ⟨by have := ih.1; omega, fun h1 h2 => by have := ih.2 h1 h2; omega⟩
theorem delB_size (v : Bs) (ks : Fin 16 → T) : (delB v ks).size ≤ max 1 (sumF (fun i => (ks i).size) + if v = [] then 0 else 1) := by
  unfold delB
  split
  · exact Nat.le_max_left _ _
  · split
    · rw [joinT_size]
      have := sumF_ge (fun i => (ks i).size) (lastK ks)
      omega
    · exact Nat.le_max_right _ _
theorem size_pos : ∀ {t : T} {d : Nat}, t.Fits d → t.isNil = false → 1 ≤ t.size
  | .nil, _, _, h => by cases h
  | .leaf _ _, _, _, _ => Nat.le_refl _
  | .ext a k, d, h, _ => by
    unfold T.Fits at h
    show 1 ≤ k.size
    exact size_pos (t := k) h.2.2.2.2 (br_some h.2.2.1)
  | .br v ks, d, h, _ => by
    unfold T.Fits at h
    obtain ⟨_, _, _, h4, h5⟩ := h
    show 1 ≤ sumF (fun i => (ks i).size) + if v = [] then 0 else 1
    by_cases hv : v = []
    · rw [if_pos hv] at h4 ⊢
      have hc : cnt ks ≠ 0 := by omega
      have hl := lastK_some hc
      have := size_pos (h5 (lastK ks)) hl
      have := sumF_ge (fun i => (ks i).size) (lastK ks)
      omega
    · rw [if_neg hv]; omega
theorem del_size : ∀ (t : T) (path : Bs) (d : Nat), t.Fits d → (t.del path).size ≤ max 1 t.size
  | .nil, _, _, _ => Nat.zero_le _
  | .leaf _ _, _, _, _ => by simp [T.del, T.size]
  | .ext a k, path, d, h => by
    unfold T.Fits at h
    unfold T.del
    rw [joinT_size]
    exact del_size k _ _ h.2.2.2.2
  | .br v ks, path, d, h => by
    have hp := size_pos h rfl
    have h' := h
    unfold T.Fits at h'
    cases path with
    | nil =>
      have h1 := delB_size [] ks
      show (delB [] ks).size ≤ max 1 (sumF (fun i => (ks i).size) + if v = [] then 0 else 1)
      rw [if_pos rfl] at h1
      omega
    | cons x r =>
      have ih := del_size (ks (fi x)) r _ (h'.2.2.2.2 _)
      have h1 := delB_size v (upd ks (fi x) ((ks (fi x)).del r))
      have hu := size_upd ks (fi x) ((ks (fi x)).del r)
      show (delB v (upd ks (fi x) ((ks (fi x)).del r))).size ≤ max 1 (sumF (fun i => (ks i).size) + if v = [] then 0 else 1)
      by_cases hz : (ks (fi x)).size = 0
      · have hn : (ks (fi x)).isNil = true := by
          cases hn : (ks (fi x)).isNil with
          | true => rfl
          | false => have := size_pos (h'.2.2.2.2 (fi x)) hn; omega
        have e : ks (fi x) = .nil := by cases h : ks (fi x) <;> first | rfl | (rw [h] at hn; cases hn)
        rw [e] at hu ih
        have e2 : (T.nil.del r).size = 0 := rfl
        have e3 : T.nil.size = 0 := rfl
        rw [e] at h1 ⊢
        omega
      · omega

theorem sumF_split (f : Fin 16 → Nat) (i : Nat) (hi : i ≤ 16) : (((List.finRange 16).take i).map f).sum ≤ sumF f := by
  unfold sumF
  conv => rhs; rw [← List.take_append_drop i (List.finRange 16), List.map_append, List.sum_append]
  omega
theorem mfold_sum (g : Fin 16 → Bool × Int) (c : Fin 16 → Nat) (hc : ∀ i, (if (g i).1 then (0 : Int) else (g i).2) = (c i : Int)) (hb : sumF c ≤ 4611686018427387904) : ∀ i, i ≤ 16 → mfold g i = ((((List.finRange 16).take i).map c).sum : Nat)
  | 0, _ => rfl
  | i + 1, h => by
    have ih := mfold_sum g c hc hb i (by omega)
    have hi : i < 16 := by omega
    have hci := hc ⟨i, hi⟩
    have hs := sumF_split c (i + 1) h
    rw [finRange_take hi, List.map_append, List.sum_append] at hs ⊢
    simp only [List.map_cons, List.map_nil, List.sum_cons, List.sum_nil, Nat.add_zero] at hs ⊢
    rw [mfold_succ g hi, ih]
    by_cases hg : (g ⟨i, hi⟩).1 = true
    · rw [if_pos hg] at hci ⊢
      omega
    · rw [if_neg hg] at hci ⊢
      rw [hci, wrap64 (by omega) (by omega)]
      omega
theorem manyK_sum (v : Bs) (g : Fin 16 → Bool × Int) (c : Fin 16 → Nat) (hc : ∀ i, (if (g i).1 then (0 : Int) else (g i).2) = (c i : Int)) (hb : sumF c ≤ 4611686018427387904) : manyK v g = ((sumF c + if v = [] then 0 else 1 : Nat) : Int) := by
  have h := mfold_sum g c hc hb 16 (Nat.le_refl _)
  rw [List.take_of_length_le (by simp)] at h
  obtain ⟨s, hs⟩ : ∃ s, s = sumF c := ⟨_, rfl⟩
  have h' : mfold g 16 = (s : Int) := by rw [hs]; exact h
  rw [← hs] at hb ⊢
  rw [mfold_end, h']
  split
  · rfl
  · rw [wrap64 (by omega) (by omega)]; omega
theorem many_size : ∀ {t : T} {d : Nat}, t.Fits d → t.size ≤ 4611686018427387904 → t.many = t.size
  | .nil, _, _, _ => rfl
  | .leaf a v, d, h, _ => by
    unfold T.Fits at h
    show manyK v (fun _ => (true, 0)) = ((1 : Nat) : Int)
    rw [manyK_sum v _ (fun _ => 0) (fun i => rfl) (by rw [sumF_zero]; omega), sumF_zero, if_neg h.2.1]
  | .ext a k, d, h, hb => by
    unfold T.Fits at h
    have hb : k.size ≤ 4611686018427387904 := hb
    have ih := many_size h.2.2.2.2 hb
    have hs : sumF (fun i : Fin 16 => if i = 0 then k.size else 0) = k.size := by
      have := sum_upd (f := fun _ : Fin 16 => 0) (g := fun i : Fin 16 => if i = 0 then k.size else 0) (i := 0) (fun j hj => if_neg hj) nodup16 (List.mem_finRange 0)
      simp only [if_true] at this
      have h0 : ((List.finRange 16).map fun _ => 0).sum = 0 := sumF_zero
      rw [h0] at this
      show ((List.finRange 16).map fun i : Fin 16 => if i = 0 then k.size else 0).sum = k.size
      omega
    show manyK [] (fun i => if i = 0 then (k.isNil, k.many) else (true, 0)) = (k.size : Int)
    rw [manyK_sum [] _ (fun i => if i = 0 then k.size else 0) (fun i => ?_) (by rw [hs]; exact hb), hs]
    · rfl
    · by_cases hi : i = 0
      · rw [if_pos hi, if_pos hi, br_some h.2.2.1]; exact ih
      · rw [if_neg hi, if_neg hi]; rfl
  | .br v ks, d, h, hb => by
    unfold T.Fits at h
    have hb' : sumF (fun i => (ks i).size) ≤ 4611686018427387904 := by
      have : sumF (fun i => (ks i).size) + (if v = [] then 0 else 1) ≤ 4611686018427387904 := hb
      omega
    show manyK v (fun i => ((ks i).isNil, (ks i).many)) = ((sumF (fun i => (ks i).size) + if v = [] then 0 else 1 : Nat) : Int)
    rw [manyK_sum v _ (fun i => (ks i).size) (fun i => ?_) hb']
    have ih := many_size (h.2.2.2.2 i) (Nat.le_trans (sumF_ge (fun i => (ks i).size) i) hb')
    cases hn : (ks i).isNil with
    | true =>
      have e : ks i = .nil := by cases h : ks i <;> first | rfl | (rw [h] at hn; cases hn)
      rw [if_pos (by exact rfl), e]; rfl
    | false => rw [if_neg (by simp)]; exact ih

theorem flatMap_len {α : Type} (f : α → List Bs) (l : List α) : (l.flatMap f).length = (l.map fun x => (f x).length).sum := by
  rw [List.length_flatMap]
theorem sum_nodes {ks : Fin 16 → T} (h : ∀ i, (ks i).nodes.length + (if (ks i).isNil then 0 else 2) ≤ 3 * (ks i).size) : ∀ l : List (Fin 16), (l.map fun i => (ks i).nodes.length).sum + 2 * l.countP (fun i => !(ks i).isNil) ≤ 3 * (l.map fun i => (ks i).size).sum
  | [] => Nat.le_refl _
  | x :: l => by
    have ih := sum_nodes h l
    have hx := h x
    rw [List.map_cons, List.map_cons, List.sum_cons, List.sum_cons, List.countP_cons]
    cases hn : (ks x).isNil with
    | true => rw [hn] at hx; simp at hx ⊢; omega
    | false => rw [hn] at hx; simp at hx ⊢; omega
theorem nodes_len : ∀ {t : T} {d : Nat}, t.Fits d → t.nodes.length + (if t.isNil then 0 else 2) ≤ 3 * t.size ∧ (t.isBr = true → t.nodes.length + 3 ≤ 3 * t.size)
  | .nil, _, _ => ⟨Nat.le_refl _, fun h => by cases h⟩
  | .leaf _ _, _, _ => ⟨Nat.le_refl _, fun h => by cases h⟩
  | .ext a k, d, h => by
    unfold T.Fits at h
    have ih := (nodes_len h.2.2.2.2).2 h.2.2.1
    refine ⟨?_, fun h => by cases h⟩
    show k.nodes.length + 1 + 2 ≤ 3 * k.size
    omega
  | .br v ks, d, h => by
    unfold T.Fits at h
    have hs := sum_nodes (fun i => (nodes_len (h.2.2.2.2 i)).1) (List.finRange 16)
    have hl : (T.br v ks).nodes.length = ((List.finRange 16).map fun i => (ks i).nodes.length).sum + 1 := by
      show ((List.finRange 16).flatMap fun i => (ks i).nodes).length + 1 = _
      rw [flatMap_len]
    have hsz : (T.br v ks).size = ((List.finRange 16).map fun i => (ks i).size).sum + if v = [] then 0 else 1 := rfl
    have h4 : 2 ≤ (List.finRange 16).countP (fun i => !(ks i).isNil) + (if v = [] then 0 else 1) := h.2.2.2.1
    rw [hl, hsz]
    have : (T.br v ks).isNil = false := rfl
    rw [this]
    rw [if_neg (by decide)]
    by_cases hv : v = []
    · rw [if_pos hv] at h4 ⊢
      exact ⟨by omega, fun _ => by omega⟩
    · rw [if_neg hv] at h4 ⊢
      exact ⟨by omega, fun _ => by omega⟩
end Go.Vw
namespace Go.Vw
open Go Go.Proofs

/- (*pharos/trie.knot).walk -/
def an77 : An := (.nd none [] [] (.nd none [] [] (.nd (some [.slot 16 .bool]) [] [] .leaf .leaf) .leaf) (.nd none [] [] (.nd none [] [] .leaf (.nd none [] [] (.nd none [] [] (.nd none [] [0, 1, 2, 3, 4, 5, 6, 7, 8, 9, 10, 11, 12, 13] .leaf .leaf) .leaf) .leaf)) (.nd none [] [] .leaf (.nd none [] [] (.nd none [.slot 41 (.int .i64)] [] .leaf .leaf) .leaf))))
def VC77 (k : Option Addr) (place : List UInt8) (visit : FnV) (h : Heap) (Q : Value → Heap → Prop) : Prop :=
 (∀ J : (Bool → (Heap → Prop)),
 (((∀ b : Bool,
 (∀ h1 : Heap,
  (((((b = Bool.true) →
  (Q (Value.tuple ⟨[]⟩) h1)) ∧
  ((b = Bool.false) →
  (∃ ad : Addr,
   ((k = (Option.some ad)) ∧
   (∃ n : Int,
   (((rd h1 (Addr.add (Addr.add ad 0) 0)) = (Option.some (Value.int IntKind.i64 n))) ∧
   ((((n == (2 : Int)) = Bool.true) →
    (∃ ad1 : Addr,
    ((k = (Option.some ad1)) ∧
    ((((0 : Int) ≤ (0 : Int)) ∧
     ((0 : Int) < (16 : Int))) ∧
     (∃ p : (Option Addr),
     (((rd h1 (Addr.mk (ad1).block ((ad1).off + 19) Option.none)) = (Option.some (Value.pointer p))) ∧
     (∃ ad2 : Addr,
     ((k = (Option.some ad2)) ∧
      (∃ l : (List UInt8),
      (((rd h1 (Addr.mk ((Addr.add ad2 0)).block (((Addr.add ad2 0)).off + 1) Option.none)) = (Option.some (S l))) ∧
      ((((List.length place) + (List.length l)) ≤ 9223372036854775807) ∧
      (Spec Tryz.prog 77 [(Value.pointer p), (S (place ++ l)), (Value.func (visit).fn (visit).first (visit).captured)] h1 (fun v h2 =>
       ((v = (Value.tuple ⟨[]⟩)) ∧
       (Q (Value.tuple ⟨[]⟩) h2))))))))))))))) ∧
    (((n == (2 : Int)) = Bool.false) →
    (∃ ad3 : Addr,
    ((k = (Option.some ad3)) ∧
    (∃ l1 : (List (Option Addr)),
     (((rdn h1 (Addr.mk (ad3).block ((ad3).off + 19) Option.none) (16 : Nat)) = (Option.some (List.map (fun (p1 : (Option Addr)) => (Value.pointer p1)) l1))) ∧
     (∃ k1 : (Int → (Heap → (Prod Prop Nat))),
     (((k1 (0 : Int) h1)).fst ∧
     (∀ n1 : Int,
      (∀ h3 : Heap,
      (((k1 n1 h3)).fst →
      ((((decide (n1 < (16 : Int))) = Bool.true) →
       ((((0 : Int) ≤ n1) ∧
       (n1 < (16 : Int))) ∧
       (∃ p2 : (Option Addr),
       ((((List.map (fun (p3 : (Option Addr)) => (Value.pointer p3)) l1))[((Int.toNat n1) * (1 : Nat))]? = (Option.some (Value.pointer p2))) ∧
       (∃ l2 : (List UInt8),
        (((Option.some [(Value.int IntKind.u8 (IntKind.wrap IntKind.u8 n1))]) = (Option.some (List.map byteV l2))) ∧
        ((((List.length place) + (List.length l2)) ≤ 9223372036854775807) ∧
        (Spec Tryz.prog 77 [(Value.pointer p2), (S (place ++ l2)), (Value.func (visit).fn (visit).first (visit).captured)] h3 (fun v1 h4 =>
        ((v1 = (Value.tuple ⟨[]⟩)) ∧
         (((k1 (IntKind.wrap IntKind.i64 (n1 + (1 : Int))) h4)).fst ∧
         (((k1 (IntKind.wrap IntKind.i64 (n1 + (1 : Int))) h4)).snd < ((k1 n1 h3)).snd)))))))))))) ∧
      (((decide (n1 < (16 : Int))) = Bool.false) →
       (Q (Value.tuple ⟨[]⟩) h3))))))))))))))))))))) →
  (J b h1))))) →
 ((((Option.isNone k) = Bool.false) →
  (∃ m : Nat,
  (((visit).fn = (Fn.func m)) ∧
  (((callable Tryz.prog m) = Bool.true) ∧
  ((((List.all ((visit).first).toList vokR) && (List.all ((visit).captured).toList vokR)) = Bool.true) ∧
   (Spec Tryz.prog m ((((visit).first).toList ++ [(S place), (Value.pointer k)]) ++ ((visit).captured).toList) h (fun v2 h5 =>
   (∃ b1 : Bool,
   ((v2 = (Value.bool b1)) ∧
   (J (!b1) h5)))))))))) ∧
 (((Option.isNone k) = Bool.true) →
  (J Bool.true h)))))
theorem vc77 (k : Option Addr) (place : List UInt8) (visit : FnV) (h : Heap) (Q : Value → Heap → Prop) : evF Tryz.prog τ tok 77 an77 [.pointer k, S place, .func visit.fn visit.first visit.captured] h Q = VC77 k place visit h Q := by kernel_rfl
theorem ok77 {k : Option Addr} {place : List UInt8} {visit : FnV} {h : Heap} {Q : Value → Heap → Prop} (hv : VC77 k place visit h Q) : Spec Tryz.prog 77 [.pointer k, S place, .func visit.fn visit.first visit.captured] h Q := evF_sound (P := Tryz.prog) (τ := τ) (ok := tok) (an := an77) (fun _ => drawn mixed) (by rw [vc77]; exact hv)

/- (*pharos/trie.Trie).told -/
def an74 : An := .leaf
def VC74 (t : Option Addr) (may : FnV) (h : Heap) (Q : Value → Heap → Prop) : Prop :=
 (∃ ad : Addr,
 ((t = (Option.some ad)) ∧
 (∃ p : (Option Addr),
 (((rd h (Addr.add ad 0)) = (Option.some (Value.pointer p))) ∧
  (∀ b : Nat,
  (((h b) = Option.none) →
  (∀ b1 : Nat,
  (((Heap.set h b (Obj.cells ⟨[(Value.func (may).fn (may).first (may).captured)]⟩ 157 (Prod.mk 0 0)) b1) = Option.none) →
   (Spec Tryz.prog 77 [(Value.pointer p), (S []), (Value.func (Fn.func 172) ⟨[]⟩ ⟨[(Value.pointer (Option.some (Addr.mk b 0 Option.none))), (Value.pointer (Option.some (Addr.mk b1 0 Option.none)))]⟩)] (Heap.set (Heap.set h b (Obj.cells ⟨[(Value.func (may).fn (may).first (may).captured)]⟩ 157 (Prod.mk 0 0))) b1 (Obj.cells ⟨[(Value.slice Option.none 0 0)]⟩ 39 (Prod.mk 0 0))) (fun v h1 =>
   ((v = (Value.tuple ⟨[]⟩)) ∧
   (∃ sl : Sl,
   (((rd h1 (Addr.mk b1 0 Option.none)) = (Option.some (Value.slice (sl).a (sl).len (sl).cap))) ∧
    (Q (Value.slice (sl).a (sl).len (sl).cap) h1))))))))))))))
theorem vc74 (t : Option Addr) (may : FnV) (h : Heap) (Q : Value → Heap → Prop) : evF Tryz.prog τ tok 74 an74 [.pointer t, .func may.fn may.first may.captured] h Q = VC74 t may h Q := by kernel_rfl
theorem ok74 {t : Option Addr} {may : FnV} {h : Heap} {Q : Value → Heap → Prop} (hv : VC74 t may h Q) : Spec Tryz.prog 74 [.pointer t, .func may.fn may.first may.captured] h Q := evF_sound (P := Tryz.prog) (τ := τ) (ok := tok) (an := an74) (fun _ => drawn mixed) (by rw [vc74]; exact hv)

/- (*pharos/trie.Trie).told$1 -/
def an172 : An := (.nd none [] [] .leaf (.nd none [] [] .leaf (.nd none [] [] (.nd none [] [0, 1, 2, 3, 4, 5, 6, 7] .leaf .leaf) .leaf)))
def VC172 (place : List UInt8) (k : Option Addr) (fv0 : Addr) (fv1 : Addr) (h : Heap) (Q : Value → Heap → Prop) : Prop :=
 (∃ fn : FnV,
 (((rd h fv0) = (Option.some (Value.func (fn).fn (fn).first (fn).captured))) ∧
 (∃ m : Nat,
 (((fn).fn = (Fn.func m)) ∧
  (((callable Tryz.prog m) = Bool.true) ∧
  ((((List.all ((fn).first).toList vokR) && (List.all ((fn).captured).toList vokR)) = Bool.true) ∧
  (Spec Tryz.prog m ((((fn).first).toList ++ [(S place)]) ++ ((fn).captured).toList) h (fun v h1 =>
  (∃ b : Bool,
   ((v = (Value.bool b)) ∧
   ((((!b) = Bool.true) →
   (Q (Value.bool Bool.false) h1)) ∧
   (((!b) = Bool.false) →
   (∃ sl : Sl,
    (((rd h1 fv1) = (Option.some (Value.slice (sl).a (sl).len (sl).cap))) ∧
    (∃ ad : Addr,
    ((k = (Option.some ad)) ∧
    (∃ l : (List UInt8),
     (((rd h1 (Addr.mk (ad).block ((ad).off + 35) Option.none)) = (Option.some (S l))) ∧
     (((rd h1 fv1) = (rd h1 fv1)) ∧
     (((List.length [(S l)]) = (1 * (1 : Nat))) ∧
     (∃ l1 : (List Value),
      (((rowOf h1 (sl).a ((sl).len * (1 : Nat))) = (Option.some l1)) ∧
      (((((sl).len + 1) * (16 : Nat)) ≤ 140737488355328) ∧
      ((((sl).len + 1) ≤ 9223372036854775807) ∧
      (((((sl).len + 1) ≤ (sl).cap) →
       (∀ ad1 : Addr,
       (((sl).a = (Option.some ad1)) →
       ((Option.isSome (wr h1 (Addr.add ad1 ((sl).len * (1 : Nat))) [(S l)])) = Bool.true)))) ∧
       ((((sl).a = Option.none) →
       ((((sl).len + 1) ≤ (sl).cap) →
       ([(S l)] = []))) ∧
       (∀ sl1 : Sl,
       (∀ h2 : Heap,
       ((AppRes h1 (Sl.mk (sl).a (sl).len (sl).cap) (1 : Nat) 9 l1 [(S l)] 1 sl1 h2) →
        (∃ h3 : Heap,
        (((wr h2 fv1 [(Value.slice (sl1).a (sl1).len (sl1).cap)]) = (Option.some h3)) ∧
        (Q (Value.bool Bool.true) h3))))))))))))))))))))))))))))))))
theorem vc172 (place : List UInt8) (k : Option Addr) (fv0 : Addr) (fv1 : Addr) (h : Heap) (Q : Value → Heap → Prop) : evF Tryz.prog τ tok 172 an172 [S place, .pointer k, .pointer (some fv0), .pointer (some fv1)] h Q = VC172 place k fv0 fv1 h Q := by kernel_rfl
theorem ok172 {place : List UInt8} {k : Option Addr} {fv0 : Addr} {fv1 : Addr} {h : Heap} {Q : Value → Heap → Prop} (hv : VC172 place k fv0 fv1 h Q) : Spec Tryz.prog 172 [S place, .pointer k, .pointer (some fv0), .pointer (some fv1)] h Q := evF_sound (P := Tryz.prog) (τ := τ) (ok := tok) (an := an172) (fun _ => drawn mixed) (by rw [vc172]; exact hv)

/- (*pharos/trie.Trie).Nodes$1 -/
def an75 : An := .leaf
def VC75 (a0 : List UInt8) (h : Heap) (Q : Value → Heap → Prop) : Prop :=
 (Q (Value.bool Bool.true) h)
theorem vc75 (a0 : List UInt8) (h : Heap) (Q : Value → Heap → Prop) : evF Tryz.prog τ tok 75 an75 [S a0] h Q = VC75 a0 h Q := by kernel_rfl
theorem ok75 {a0 : List UInt8} {h : Heap} {Q : Value → Heap → Prop} (hv : VC75 a0 h Q) : Spec Tryz.prog 75 [S a0] h Q := evF_sound (P := Tryz.prog) (τ := τ) (ok := tok) (an := an75) (fun _ => drawn mixed) (by rw [vc75]; exact hv)

/- (*pharos/trie.Trie).Nodes -/
def an19 : An := .leaf
def VC19 (t : Option Addr) (h : Heap) (Q : Value → Heap → Prop) : Prop :=
 (Spec Tryz.prog 74 [(Value.pointer t), (Value.func (Fn.func 75) ⟨[]⟩ ⟨[]⟩)] h (fun v h1 =>
 (∃ sl : Sl,
 ((v = (Value.slice (sl).a (sl).len (sl).cap)) ∧
 (Q (Value.slice (sl).a (sl).len (sl).cap) h1)))))
theorem vc19 (t : Option Addr) (h : Heap) (Q : Value → Heap → Prop) : evF Tryz.prog τ tok 19 an19 [.pointer t] h Q = VC19 t h Q := by kernel_rfl
theorem ok19 {t : Option Addr} {h : Heap} {Q : Value → Heap → Prop} (hv : VC19 t h Q) : Spec Tryz.prog 19 [.pointer t] h Q := evF_sound (P := Tryz.prog) (τ := τ) (ok := tok) (an := an19) (fun _ => drawn mixed) (by rw [vc19]; exact hv)

/- (*pharos/trie.Trie).Save -/
def an68 : An := (.nd none [] [] .leaf (.nd none [] [] (.nd none [] [] .leaf (.nd none [] [] (.nd none [.slot 10 (.int .i64)] [] .leaf .leaf) .leaf)) .leaf))
def VC68 (t : Option Addr) (s : Option Addr) (h : Heap) (Q : Value → Heap → Prop) : Prop :=
 (Spec Tryz.prog 19 [(Value.pointer t)] h (fun v h1 =>
 (∃ sl : Sl,
 ((v = (Value.slice (sl).a (sl).len (sl).cap)) ∧
 (∃ k : (Int → (Heap → (Prod Prop Nat))),
  (((k (0 : Int) h1)).fst ∧
  (∀ n : Int,
  (∀ h2 : Heap,
  (((k n h2)).fst →
   ((((decide (n < (((sl).len : Nat) : Int))) = Bool.true) →
   ((((0 : Int) ≤ n) ∧
    (n < (((sl).len : Nat) : Int))) ∧
   (∃ ad : Addr,
    (((sl).a = (Option.some ad)) ∧
    (∃ l : (List UInt8),
    (((rd h2 (Addr.add ad ((Int.toNat n) * (1 : Nat)))) = (Option.some (S l))) ∧
    (Spec Tryz.prog 160 [(Value.pointer s), (S l)] h2 (fun v1 h3 =>
     (∃ l1 : (List UInt8),
     ((v1 = (S l1)) ∧
     (((k (IntKind.wrap IntKind.i64 (n + (1 : Int))) h3)).fst ∧
     (((k (IntKind.wrap IntKind.i64 (n + (1 : Int))) h3)).snd < ((k n h2)).snd)))))))))))) ∧
   (((decide (n < (((sl).len : Nat) : Int))) = Bool.false) →
   (Spec Tryz.prog 21 [(Value.pointer t)] h2 (fun v2 h4 =>
   (∃ l2 : (List UInt8),
    ((v2 = (S l2)) ∧
    (Q (S l2) h4))))))))))))))))
theorem vc68 (t : Option Addr) (s : Option Addr) (h : Heap) (Q : Value → Heap → Prop) : evF Tryz.prog τ tok 68 an68 [.pointer t, .pointer s] h Q = VC68 t s h Q := by kernel_rfl
theorem ok68 {t : Option Addr} {s : Option Addr} {h : Heap} {Q : Value → Heap → Prop} (hv : VC68 t s h Q) : Spec Tryz.prog 68 [.pointer t, .pointer s] h Q := evF_sound (P := Tryz.prog) (τ := τ) (ok := tok) (an := an68) (fun _ => drawn mixed) (by rw [vc68]; exact hv)

/- (*pharos/trie.loader).load -/
def an173 : An := (.nd none [] [] .leaf (.nd none [] [] .leaf (.nd none [] [] .leaf (.nd none [] [] .leaf (.nd none [] [] .leaf (.nd none [] [] (.nd (some [.slot 12 .bool]) [] [] .leaf .leaf) (.nd none [] [] (.nd none [] [] (.nd (some [.slot 67 .bool]) [] [] .leaf .leaf) .leaf) (.nd none [] [] (.nd none [] [] (.nd (some [.slot 78 .bool]) [] [] .leaf .leaf) .leaf) (.nd none [] [] .leaf (.nd none [] [] (.nd none [] [] .leaf (.nd none [] [] (.nd none [.slot 81 (.int .i64), .loc 1 (.st (List (Option Addr)) ((fun l => l.map (fun (x : Option Addr) => (.pointer x : Value)))) 0)] [] (.nd none [] [] .leaf (.nd none [] [] .leaf (.nd none [] [] (.nd (some [.loc 1 (.st (List (Option Addr)) ((fun l => l.map (fun (x : Option Addr) => (.pointer x : Value)))) 0)]) [] [] (.nd none [] [] .leaf (.nd none [] [] .leaf (.nd none [] [] .leaf (.nd none [] [] (.nd none [] [] .leaf (.nd (some [.slot 16 .str]) [] [] .leaf .leaf)) .leaf)))) .leaf) .leaf))) .leaf) .leaf)) .leaf))))))))))
def VC173 (l : Option Addr) (sum : List UInt8) (place : List UInt8) (below : Bool) (h : Heap) (Q : Value → Heap → Prop) : Prop :=
 (∃ ad : Addr,
 ((l = (Option.some ad)) ∧
 (∃ n : Int,
 (((rd h (Addr.mk (ad).block ((ad).off + 2) Option.none)) = (Option.some (Value.int IntKind.i64 n))) ∧
  ((((n != (0 : Int)) = Bool.true) →
  (Q (Value.pointer Option.none) h)) ∧
  (((n != (0 : Int)) = Bool.false) →
  (∃ ad1 : Addr,
  ((l = (Option.some ad1)) ∧
   (∃ p : (Option Addr),
   (((rd h (Addr.add ad1 0)) = (Option.some (Value.pointer p))) ∧
   (Spec Tryz.prog 246 [(Value.pointer p), (S sum)] h (fun v h1 =>
   (∃ ga : GApiNode,
    (∃ n1 : Int,
    ((v = (Value.tuple ⟨[(Value.agg ⟨(cGApiNode ga)⟩), (Value.int IntKind.i64 n1)]⟩)) ∧
    ((((List.length (cGApiNode ga)) = (19 : Nat)) ∧
     ((List.length (cGApiNode ga)) = 19)) ∧
    ((((n1 != (0 : Int)) = Bool.true) →
     (Spec Tryz.prog 253 [(Value.pointer l), (Value.int IntKind.i64 n1)] h1 (fun v1 h2 =>
     (∃ p1 : (Option Addr),
     ((v1 = (Value.pointer p1)) ∧
      (Q (Value.pointer p1) h2)))))) ∧
     (((n1 != (0 : Int)) = Bool.false) →
     (∀ J : (Bool → (Heap → Prop)),
     (((∀ b : Bool,
      (∀ h3 : Heap,
      (((∀ J1 : (Bool → (Heap → Prop)),
      (((∀ b1 : Bool,
       (∀ h4 : Heap,
       (((((b1 = Bool.true) →
        (Spec Tryz.prog 253 [(Value.pointer l), (Value.int IntKind.i64 (4 : Int))] h4 (fun v2 h5 =>
        (∃ p2 : (Option Addr),
        ((v2 = (Value.pointer p2)) ∧
         (Q (Value.pointer p2) h5)))))) ∧
        ((b1 = Bool.false) →
        (∀ J2 : (Bool → (Heap → Prop)),
        (((∀ b2 : Bool,
         (∀ h6 : Heap,
         (((((b2 = Bool.true) →
         (Q (Value.pointer Option.none) h6)) ∧
         ((b2 = Bool.false) →
         (∃ l1 : (List (List UInt8)),
         (((sub (cGApiNode ga) 3 (16 : Nat)) = (Option.some (List.map (fun (l2 : (List UInt8)) => (S l2)) l1))) ∧
         (∃ k : (Int → ((List (Option Addr)) → (Heap → (Prod Prop Nat)))),
         ((∃ l3 : (List (Option Addr)),
         (((List.replicate 16 (Value.pointer Option.none)) = (List.map (fun (p3 : (Option Addr)) => (Value.pointer p3)) l3)) ∧
         ((k (0 : Int) l3 h6)).fst)) ∧
         (∀ n2 : Int,
         (∀ l4 : (List (Option Addr)),
         (∀ h7 : Heap,
         (((k n2 l4 h7)).fst →
         ((((decide (n2 < (16 : Int))) = Bool.true) →
         (∀ J3 : ((List (Option Addr)) → (Heap → Prop)),
         (((∀ l5 : (List (Option Addr)),
         (∀ h8 : Heap,
         ((∃ l6 : (List (Option Addr)), (((List.map (fun (p4 : (Option Addr)) => (Value.pointer p4)) l5) = (List.map (fun (p5 : (Option Addr)) => (Value.pointer p5)) l6)) ∧ (((k (IntKind.wrap IntKind.i64 (n2 + (1 : Int))) l6 h8)).fst ∧ (((k (IntKind.wrap IntKind.i64 (n2 + (1 : Int))) l6 h8)).snd < ((k n2 l4 h7)).snd)))) →
         (J3 l5 h8))))) →
         ((((0 : Int) ≤ n2) ∧
         (n2 < (16 : Int))) ∧
         (∃ l7 : (List UInt8),
         ((((List.map (fun (l8 : (List UInt8)) => (S l8)) l1))[((Int.toNat n2) * (1 : Nat))]? = (Option.some (S l7))) ∧
         ((((l7 == []) = Bool.true) →
         (∃ l9 : (List (Option Addr)),
         (((List.map (fun (p6 : (Option Addr)) => (Value.pointer p6)) l4) = (List.map (fun (p7 : (Option Addr)) => (Value.pointer p7)) l9)) ∧
         (J3 l9 h7)))) ∧
         (((l7 == []) = Bool.false) →
         (∃ l10 : (List UInt8),
         (((Option.some [(Value.int IntKind.u8 (IntKind.wrap IntKind.u8 n2))]) = (Option.some (List.map byteV l10))) ∧
         ((((List.length place) + (List.length l10)) ≤ 9223372036854775807) ∧
         (∀ J4 : ((List UInt8) → (Heap → Prop)),
         (((∀ l11 : (List UInt8),
         (∀ h9 : Heap,
         ((Spec Tryz.prog 173 [(Value.pointer l), (S l7), (S l11), (Value.bool ((ga).Kind == (2 : Int)))] h9 (fun (va : Value) => (fun (he : Heap) => (∃ p8 : (Option Addr), ((va = (Value.pointer p8)) ∧ ((((0 : Int) ≤ n2) ∧ (n2 < (16 : Int))) ∧ (((0 + ((Int.toNat n2) * (1 : Nat))) < (List.length (List.map (fun (p9 : (Option Addr)) => (Value.pointer p9)) l4))) ∧ (∃ l12 : (List (Option Addr)), (((List.set (List.map (fun (p10 : (Option Addr)) => (Value.pointer p10)) l4) (0 + ((Int.toNat n2) * (1 : Nat))) (Value.pointer p8)) = (List.map (fun (p11 : (Option Addr)) => (Value.pointer p11)) l12)) ∧ (J3 l12 he)))))))))) →
         (J4 l11 h9))))) →
         (((((ga).Kind == (2 : Int)) = Bool.true) →
         ((((List.length place) + (List.length (ga).Path)) ≤ 9223372036854775807) ∧
         (J4 (place ++ (ga).Path) h7))) ∧
         ((((ga).Kind == (2 : Int)) = Bool.false) →
         (J4 (place ++ l10) h7)))))))))))))))) ∧
         (((decide (n2 < (16 : Int))) = Bool.false) →
         (∃ ad2 : Addr,
         ((l = (Option.some ad2)) ∧
         (∃ n3 : Int,
         (((rd h7 (Addr.mk (ad2).block ((ad2).off + 2) Option.none)) = (Option.some (Value.int IntKind.i64 n3))) ∧
         ((((n3 != (0 : Int)) = Bool.true) →
         (Q (Value.pointer Option.none) h7)) ∧
         (((n3 != (0 : Int)) = Bool.false) →
         (((List.length (cGApiNode ga)) = (19 : Nat)) ∧
         (((List.length (List.map (fun (p12 : (Option Addr)) => (Value.pointer p12)) l4)) = (16 : Nat)) ∧
         (Spec Tryz.prog 255 [(Value.agg ⟨(cGApiNode ga)⟩), (Value.agg ⟨(List.map (fun (p13 : (Option Addr)) => (Value.pointer p13)) l4)⟩)] h7 (fun v3 h10 =>
         (∃ p14 : (Option Addr),
         ((v3 = (Value.pointer p14)) ∧
         (Q (Value.pointer p14) h10)))))))))))))))))))))))))) →
         (J2 b2 h6))))) →
        ((((!((ga).Value == [])) = Bool.true) →
         (Spec Tryz.prog 254 [(Value.pointer l), (Value.int IntKind.i64 (IntKind.wrap IntKind.i64 ((((List.length place) : Nat) : Int) + (((List.length (ga).Path) : Nat) : Int))))] h4 (fun v4 h11 =>
         (∃ b3 : Bool,
         ((v4 = (Value.bool b3)) ∧
         (J2 (!b3) h11)))))) ∧
         (((!((ga).Value == [])) = Bool.false) →
         (J2 Bool.false h4)))))))) →
       (J1 b1 h4))))) →
       (((below = Bool.true) →
       (((((ga).Kind != (3 : Int)) = Bool.false) →
        ((((decide ((IntKind.wrap IntKind.i64 ((((List.length place) : Nat) : Int) + (((List.length (ga).Path) : Nat) : Int))) > (16 : Int))) = Bool.false) →
        (((b = Bool.true) →
         (J1 (decide ((IntKind.wrap IntKind.i64 ((((List.length place) : Nat) : Int) + (((List.length (ga).Path) : Nat) : Int))) ≥ (16 : Int))) h3)) ∧
        ((b = Bool.false) →
         (J1 Bool.false h3)))) ∧
        (((decide ((IntKind.wrap IntKind.i64 ((((List.length place) : Nat) : Int) + (((List.length (ga).Path) : Nat) : Int))) > (16 : Int))) = Bool.true) →
        (J1 Bool.true h3)))) ∧
       ((((ga).Kind != (3 : Int)) = Bool.true) →
        (J1 Bool.true h3)))) ∧
       ((below = Bool.false) →
       ((((decide ((IntKind.wrap IntKind.i64 ((((List.length place) : Nat) : Int) + (((List.length (ga).Path) : Nat) : Int))) > (16 : Int))) = Bool.false) →
        (((b = Bool.true) →
        (J1 (decide ((IntKind.wrap IntKind.i64 ((((List.length place) : Nat) : Int) + (((List.length (ga).Path) : Nat) : Int))) ≥ (16 : Int))) h3)) ∧
        ((b = Bool.false) →
        (J1 Bool.false h3)))) ∧
       (((decide ((IntKind.wrap IntKind.i64 ((((List.length place) : Nat) : Int) + (((List.length (ga).Path) : Nat) : Int))) > (16 : Int))) = Bool.true) →
        (J1 Bool.true h3)))))))) →
      (J b h3))))) →
     (((((ga).Kind == (3 : Int)) = Bool.true) →
      (∃ l13 : (List (List UInt8)),
      (((sub (cGApiNode ga) 3 (16 : Nat)) = (Option.some (List.map (fun (l14 : (List UInt8)) => (S l14)) l13))) ∧
      (((List.replicate 16 (S [])) = (List.replicate 16 (S []))) ∧
       (∃ l15 : (List (List UInt8)),
       (∃ l16 : (List (List UInt8)),
       (((List.map (fun (l17 : (List UInt8)) => (S l17)) l13) = (List.map (fun (l18 : (List UInt8)) => (S l18)) l15)) ∧
       (((List.replicate 16 (S [])) = (List.map (fun (l19 : (List UInt8)) => (S l19)) l16)) ∧
        ((((List.length l15) = 16) ∧
        ((List.length l16) = 16)) ∧
        (J (!(l15 == l16)) h1)))))))))) ∧
      ((((ga).Kind == (3 : Int)) = Bool.false) →
      (J Bool.false h1)))))))))))))))))))))))
theorem vc173 (l : Option Addr) (sum : List UInt8) (place : List UInt8) (below : Bool) (h : Heap) (Q : Value → Heap → Prop) : evF Tryz.prog τ tok 173 an173 [.pointer l, S sum, S place, .bool below] h Q = VC173 l sum place below h Q := by kernel_rfl
theorem ok173 {l : Option Addr} {sum : List UInt8} {place : List UInt8} {below : Bool} {h : Heap} {Q : Value → Heap → Prop} (hv : VC173 l sum place below h Q) : Spec Tryz.prog 173 [.pointer l, S sum, S place, .bool below] h Q := evF_sound (P := Tryz.prog) (τ := τ) (ok := tok) (an := an173) (fun _ => drawn mixed) (by rw [vc173]; exact hv)

/- (*pharos/trie.loader).wrong -/
def an253 : An := (.nd none [] [] .leaf (.nd none [] [] (.nd none [] [] .leaf (.nd (some []) [] [] .leaf .leaf)) .leaf))
def VC253 (l : Option Addr) (e : Int) (h : Heap) (Q : Value → Heap → Prop) : Prop :=
 (∃ ad : Addr,
 ((l = (Option.some ad)) ∧
 (∃ n : Int,
 (((rd h (Addr.mk (ad).block ((ad).off + 2) Option.none)) = (Option.some (Value.int IntKind.i64 n))) ∧
  (∀ J : (Heap → Prop),
  (((∀ h1 : Heap,
  ((Q (Value.pointer Option.none) h1) →
   (J h1)))) →
  ((((n == (0 : Int)) = Bool.true) →
   (∃ ad1 : Addr,
   ((l = (Option.some ad1)) ∧
   (∃ h2 : Heap,
   (((wr h (Addr.mk (ad1).block ((ad1).off + 2) Option.none) [(Value.int IntKind.i64 e)]) = (Option.some h2)) ∧
    (J h2)))))) ∧
  (((n == (0 : Int)) = Bool.false) →
   (J h)))))))))
theorem vc253 (l : Option Addr) (e : Int) (h : Heap) (Q : Value → Heap → Prop) : evF Tryz.prog τ tok 253 an253 [.pointer l, .int .i64 e] h Q = VC253 l e h Q := by kernel_rfl
theorem ok253 {l : Option Addr} {e : Int} {h : Heap} {Q : Value → Heap → Prop} (hv : VC253 l e h Q) : Spec Tryz.prog 253 [.pointer l, .int .i64 e] h Q := evF_sound (P := Tryz.prog) (τ := τ) (ok := tok) (an := an253) (fun _ => drawn mixed) (by rw [vc253]; exact hv)

/- (*pharos/trie.loader).item -/
def an254 : An := (.nd none [] [] .leaf (.nd none [] [] (.nd none [] [] (.nd (some [.slot 11 .bool]) [] [] .leaf .leaf) .leaf) .leaf))
def VC254 (l : Option Addr) (long : Int) (h : Heap) (Q : Value → Heap → Prop) : Prop :=
 (∀ J : (Bool → (Heap → Prop)),
 (((∀ b : Bool,
 (∀ h1 : Heap,
  (((((b = Bool.true) →
  (Spec Tryz.prog 253 [(Value.pointer l), (Value.int IntKind.i64 (4 : Int))] h1 (fun v h2 =>
   (∃ p : (Option Addr),
   ((v = (Value.pointer p)) ∧
   (Q (Value.bool Bool.false) h2)))))) ∧
  ((b = Bool.false) →
  (∃ ad : Addr,
   ((l = (Option.some ad)) ∧
   (∃ n : Int,
   (((rd h1 (Addr.mk (ad).block ((ad).off + 1) Option.none)) = (Option.some (Value.int IntKind.i64 n))) ∧
   (∃ ad1 : Addr,
    ((l = (Option.some ad1)) ∧
    (∃ h3 : Heap,
    (((wr h1 (Addr.mk (ad1).block ((ad1).off + 1) Option.none) [(Value.int IntKind.i64 (IntKind.wrap IntKind.i64 (n + (1 : Int))))]) = (Option.some h3)) ∧
    (∃ ad2 : Addr,
     ((l = (Option.some ad2)) ∧
     (∃ n1 : Int,
     (((rd h3 (Addr.mk (ad2).block ((ad2).off + 1) Option.none)) = (Option.some (Value.int IntKind.i64 n1))) ∧
     ((((decide (n1 > (1024 : Int))) = Bool.true) →
      (Spec Tryz.prog 253 [(Value.pointer l), (Value.int IntKind.i64 (2 : Int))] h3 (fun v1 h4 =>
      (∃ p1 : (Option Addr),
      ((v1 = (Value.pointer p1)) ∧
       (Q (Value.bool Bool.false) h4)))))) ∧
      (((decide (n1 > (1024 : Int))) = Bool.false) →
      (Q (Value.bool Bool.true) h3)))))))))))))))))) →
  (J b h1))))) →
 ((((long == (0 : Int)) = Bool.false) →
  (((2 : Int) ≠ (0 : Int)) ∧
  (J ((Int.tmod long (2 : Int)) == (1 : Int)) h))) ∧
 (((long == (0 : Int)) = Bool.true) →
  (J Bool.true h)))))
theorem vc254 (l : Option Addr) (long : Int) (h : Heap) (Q : Value → Heap → Prop) : evF Tryz.prog τ tok 254 an254 [.pointer l, .int .i64 long] h Q = VC254 l long h Q := by kernel_rfl
theorem ok254 {l : Option Addr} {long : Int} {h : Heap} {Q : Value → Heap → Prop} (hv : VC254 l long h Q) : Spec Tryz.prog 254 [.pointer l, .int .i64 long] h Q := evF_sound (P := Tryz.prog) (τ := τ) (ok := tok) (an := an254) (fun _ => drawn mixed) (by rw [vc254]; exact hv)

/- pharos/trie.Load -/
def an76 : An := (.nd none [] [] .leaf (.nd none [] [] .leaf (.nd none [] [] .leaf (.nd none [] [] .leaf (.nd none [] [] (.nd none [] [] .leaf (.nd none [] [] (.nd none [] [] (.nd none [] [0, 1, 2, 3, 4, 5] .leaf .leaf) .leaf) .leaf)) .leaf)))))
def VC76 (s : Option Addr) (root : List UInt8) (h : Heap) (Q : Value → Heap → Prop) : Prop :=
 ((((root == []) = Bool.true) →
 (Spec Tryz.prog 17 [] h (fun v h1 =>
 (∃ p : (Option Addr),
  ((v = (Value.pointer p)) ∧
  (Q (Value.tuple ⟨[(Value.pointer p), (Value.int IntKind.i64 (0 : Int))]⟩) h1)))))) ∧
 (((root == []) = Bool.false) →
 (∀ b : Nat,
 (((h b) = Option.none) →
  (Spec Tryz.prog 173 [(Value.pointer (Option.some (Addr.mk b 0 Option.none))), (S root), (S []), (Value.bool Bool.false)] (Heap.set h b (Obj.cells ⟨[(Value.pointer s), (Value.int IntKind.i64 (0 : Int)), (Value.int IntKind.i64 (0 : Int))]⟩ 277 (Prod.mk 0 0))) (fun v1 h2 =>
  (∃ p1 : (Option Addr),
  ((v1 = (Value.pointer p1)) ∧
  (∃ n : Int,
   (((rd h2 (Addr.mk b 2 Option.none)) = (Option.some (Value.int IntKind.i64 n))) ∧
   ((((n != (0 : Int)) = Bool.true) →
   (∃ n1 : Int,
    (((rd h2 (Addr.mk b 2 Option.none)) = (Option.some (Value.int IntKind.i64 n1))) ∧
    (Q (Value.tuple ⟨[(Value.pointer Option.none), (Value.int IntKind.i64 n1)]⟩) h2)))) ∧
   (((n != (0 : Int)) = Bool.false) →
   (∀ b1 : Nat,
    (((h2 b1) = Option.none) →
    (Q (Value.tuple ⟨[(Value.pointer (Option.some (Addr.mk b1 0 Option.none))), (Value.int IntKind.i64 (0 : Int))]⟩) (Heap.set h2 b1 (Obj.cells ⟨[(Value.pointer p1)]⟩ 153 (Prod.mk 0 0))))))))))))))))))
theorem vc76 (s : Option Addr) (root : List UInt8) (h : Heap) (Q : Value → Heap → Prop) : evF Tryz.prog τ tok 76 an76 [.pointer s, S root] h Q = VC76 s root h Q := by kernel_rfl
theorem ok76 {s : Option Addr} {root : List UInt8} {h : Heap} {Q : Value → Heap → Prop} (hv : VC76 s root h Q) : Spec Tryz.prog 76 [.pointer s, S root] h Q := evF_sound (P := Tryz.prog) (τ := τ) (ok := tok) (an := an76) (fun _ => drawn mixed) (by rw [vc76]; exact hv)

end Go.Vw
namespace Go.Vw
open Go Go.Proofs

/-- The knots that are gone through, in order, each with its place. -/
def T.walk (dec : Bs → T → Bool) : Bs → T → List (Bs × T)
  | _, .nil => []
  | place, .leaf p v => [(place, .leaf p v)]
  | place, .ext p k => (place, .ext p k) :: if dec place (.ext p k) then k.walk dec (place ++ p) else []
  | place, .br v ks => (place, .br v ks) :: if dec place (.br v ks) then (List.finRange 16).flatMap fun i => (ks i).walk dec (place ++ [UInt8.ofNat i.val]) else []
theorem walk_nodes : ∀ (t : T) (place : Bs), ((t.walk (fun _ _ => true) place).map fun x => x.2.enc) = t.nodes
  | .nil, _ => rfl
  | .leaf _ _, _ => rfl
  | .ext p k, place => by
    show (T.ext p k).enc :: (k.walk (fun _ _ => true) (place ++ p)).map _ = _
    rw [walk_nodes k]; rfl
  | .br v ks, place => by
    show (T.br v ks).enc :: ((List.finRange 16).flatMap fun i => (ks i).walk (fun _ _ => true) (place ++ [UInt8.ofNat i.val])).map _ = _
    rw [List.map_flatMap]
    show _ = (T.br v ks).enc :: (List.finRange 16).flatMap fun i => (ks i).nodes
    congr 2
    funext i
    exact walk_nodes (ks i) _
theorem walk_len (t : T) (place : Bs) : (t.walk (fun _ _ => true) place).length = t.nodes.length := by
  rw [← walk_nodes t place, List.length_map]

/-- What a visit must do. -/
structure Visit (visit : FnV) (m : FuncId) (h0 : Heap) (dec : Bs → T → Bool) (N : Nat) (I : List (Bs × T) → Heap → Prop) : Prop where
  fn : visit.fn = .func m
  call : callable Tryz.prog m = true
  ok : (visit.first.toList.all vokR && visit.captured.toList.all vokR) = true
  le : ∀ acc h, I acc h → h0.le h
  go : ∀ acc h place t b e f, I acc h → acc.length < N → h0 b = some (knO e t f) → t.isNil = false → place.length ≤ 16 →
    Spec Tryz.prog m ((visit.first.toList ++ [S place, .pointer (some ⟨b, 0, none⟩)]) ++ visit.captured.toList) h (fun v h' => v = .bool (dec place t) ∧ I (acc ++ [(place, t)]) h')

theorem flatMap_take {α : Type} (f : Fin 16 → List α) {i : Nat} (hi : i < 16) : ((List.finRange 16).take (i + 1)).flatMap f = ((List.finRange 16).take i).flatMap f ++ f ⟨i, hi⟩ := by
  rw [finRange_take hi, List.flatMap_append]; simp
theorem flatMap_take_le {α : Type} (f : Fin 16 → List α) (i : Nat) : (((List.finRange 16).take i).flatMap f).length ≤ ((List.finRange 16).flatMap f).length := by
  conv => rhs; rw [← List.take_append_drop i (List.finRange 16), List.flatMap_append, List.length_append]
  omega

set_option maxHeartbeats 1000000 in
theorem walk_ok {visit : FnV} {m : FuncId} {h0 : Heap} {dec : Bs → T → Bool} {N : Nat} {I : List (Bs × T) → Heap → Prop} (V : Visit visit m h0 dec N I) :
    ∀ (t : T) {p : Option Addr} {place : Bs} {d : Nat} {acc : List (Bs × T)} {h : Heap}, isK h0 t p → t.Fits d → place.length ≤ d → acc.length + (t.walk dec place).length ≤ N → I acc h →
      Spec Tryz.prog 77 [.pointer p, S place, .func visit.fn visit.first visit.captured] h (fun v h' => v = .tuple ⟨[]⟩ ∧ I (acc ++ t.walk dec place) h')
  | .nil, p, place, d, acc, h, hk, hF, hpl, hN, hI => by
    apply ok77
    unfold VC77
    obtain rfl : p = none := hk
    intro J hJ
    refine ⟨fun hh => by simp at hh, fun _ => hJ _ _ ⟨fun _ => ⟨rfl, ?_⟩, fun hh => by simp at hh⟩⟩
    show I (acc ++ []) h
    rw [List.append_nil]; exact hI
  | .leaf a u, p, place, d, acc, h, hk, hF, hpl, hN, hI => by
    apply ok77
    unfold VC77
    obtain ⟨b, e, f, rfl, hb, hf⟩ := (isK_iff (t := .leaf a u) rfl).1 hk
    have hd := fits_le hF rfl
    have hN : acc.length + 1 ≤ N := hN
    intro J hJ
    refine ⟨fun _ => ⟨m, V.fn, V.call, V.ok, (V.go acc h place _ b e f hI (by omega) hb rfl (by omega)).mono ?_⟩, fun hh => by simp at hh⟩
    rintro v h1 ⟨rfl, hI1⟩
    refine ⟨_, rfl, hJ _ _ ⟨fun _ => ⟨rfl, hI1⟩, fun _ => ?_⟩⟩
    have hle1 := V.le _ _ hI1
    refine ⟨_, rfl, 1, by rw [add_zero', add_zero']; exact knr_kind (hle1 _ _ hb), fun hh => by simp at hh, fun _ => ⟨_, rfl, kl f, knr_kids (hle1 _ _ hb), ?_⟩⟩
    refine ⟨fun n h2 => (0 ≤ n ∧ n ≤ 16 ∧ I (acc ++ [(place, .leaf a u)]) h2, 16 - n.toNat), ⟨by decide, by decide, hI1⟩, ?_⟩
    rintro n h2 ⟨h0', h16, hI2⟩
    obtain ⟨i, rfl⟩ : ∃ j : Nat, n = j := ⟨n.toNat, by omega⟩
    refine ⟨fun hlt => ?_, fun _ => ⟨rfl, hI2⟩⟩
    have hi : i < 16 := by simp at hlt; omega
    have e5 : IntKind.wrap .i64 ((i : Int) + 1) = ((i + 1 : Nat) : Int) := by rw [wrap64 (by omega) (by omega)]; omega
    have hnone : f ⟨i, hi⟩ = none := hf ⟨i, hi⟩
    rw [e5, Int.toNat_natCast]
    refine ⟨⟨by omega, by omega⟩, none, by rw [Nat.mul_one, List.getElem?_map, kl_get? f hi, hnone]; rfl, [UInt8.ofNat i], ?_, by simp; omega, ?_⟩
    · rw [wrapU8 (by omega) (by omega)]; simp [byteV]; omega
    · apply ok77
      unfold VC77
      intro J' hJ'
      refine ⟨fun hh => by simp at hh, fun _ => hJ' _ _ ⟨fun _ => ⟨rfl, ⟨by omega, by omega, hI2⟩, by show 16 - (i + 1) < 16 - i; omega⟩, fun hh => by simp at hh⟩⟩
  | .ext a k, p, place, d, acc, h, hk, hF, hpl, hN, hI => by
    have ihk : ∀ {p : Option Addr} {place : Bs} {d : Nat} {acc : List (Bs × T)} {h : Heap}, isK h0 k p → k.Fits d → place.length ≤ d → acc.length + (k.walk dec place).length ≤ N → I acc h →
      Spec Tryz.prog 77 [.pointer p, S place, .func visit.fn visit.first visit.captured] h (fun v h' => v = .tuple ⟨[]⟩ ∧ I (acc ++ k.walk dec place) h') := walk_ok V k
    apply ok77
    unfold VC77
    obtain ⟨b, e, f, rfl, hb, hf⟩ := (isK_iff (t := .ext a k) rfl).1 hk
    have hd := fits_le hF rfl
    have hF' := hF
    unfold T.Fits at hF'
    have hk0 : isK h0 k (f 0) := hf 0
    have hw : T.walk dec place (.ext a k) = (place, .ext a k) :: if dec place (.ext a k) then k.walk dec (place ++ a) else [] := rfl
    rw [hw, List.length_cons] at hN
    intro J hJ
    refine ⟨fun _ => ⟨m, V.fn, V.call, V.ok, (V.go acc h place _ b e f hI (by omega) hb rfl (by omega)).mono ?_⟩, fun hh => by simp at hh⟩
    rintro v h1 ⟨rfl, hI1⟩
    refine ⟨_, rfl, hJ _ _ ⟨fun hd => ⟨rfl, ?_⟩, fun hd => ?_⟩⟩
    · have hd : dec place (.ext a k) = false := by simpa using hd
      rw [hw, hd]; exact hI1
    · have hd : dec place (.ext a k) = true := by simpa using hd
      rw [hd, if_pos rfl] at hN
      have hle1 := V.le _ _ hI1
      have hb1 := hle1 _ _ hb
      refine ⟨_, rfl, 2, by rw [add_zero', add_zero']; exact knr_kind hb1, fun _ => ⟨_, rfl, ⟨by decide, by decide⟩, f 0, knr_kid (i := 0) hb1 (by decide), _, rfl, a, by rw [add_zero']; exact knr_path hb1, by omega, ?_⟩, fun hh => by simp at hh⟩
      refine (ihk hk0 hF'.2.2.2.2 (by rw [List.length_append]; omega) (by rw [List.length_append, List.length_singleton]; omega) hI1).mono ?_
      rintro v h2 ⟨rfl, hI2⟩
      refine ⟨rfl, rfl, ?_⟩
      rw [hw, hd, if_pos rfl]
      rw [List.append_assoc] at hI2
      exact hI2
  | .br u ks, p, place, d, acc, h, hk, hF, hpl, hN, hI => by
    have ihk : ∀ i, ∀ {p : Option Addr} {place : Bs} {d : Nat} {acc : List (Bs × T)} {h : Heap}, isK h0 (ks i) p → (ks i).Fits d → place.length ≤ d → acc.length + ((ks i).walk dec place).length ≤ N → I acc h →
      Spec Tryz.prog 77 [.pointer p, S place, .func visit.fn visit.first visit.captured] h (fun v h' => v = .tuple ⟨[]⟩ ∧ I (acc ++ (ks i).walk dec place) h') := fun i => walk_ok V (ks i)
    apply ok77
    unfold VC77
    obtain ⟨b, e, f, rfl, hb, hf⟩ := (isK_iff (t := .br u ks) rfl).1 hk
    have hd := fits_le hF rfl
    have hF' := hF
    unfold T.Fits at hF'
    have hf : ∀ i, isK h0 (ks i) (f i) := hf
    have hw : T.walk dec place (.br u ks) = (place, .br u ks) :: if dec place (.br u ks) then (List.finRange 16).flatMap fun i => (ks i).walk dec (place ++ [UInt8.ofNat i.val]) else [] := rfl
    rw [hw, List.length_cons] at hN
    intro J hJ
    refine ⟨fun _ => ⟨m, V.fn, V.call, V.ok, (V.go acc h place _ b e f hI (by omega) hb rfl (by omega)).mono ?_⟩, fun hh => by simp at hh⟩
    rintro v h1 ⟨rfl, hI1⟩
    refine ⟨_, rfl, hJ _ _ ⟨fun hd => ⟨rfl, ?_⟩, fun hd => ?_⟩⟩
    · have hd : dec place (.br u ks) = false := by simpa using hd
      rw [hw, hd]; exact hI1
    · have hd : dec place (.br u ks) = true := by simpa using hd
      rw [hd, if_pos rfl] at hN
      have hle1 := V.le _ _ hI1
      have hb1 := hle1 _ _ hb
      refine ⟨_, rfl, 3, by rw [add_zero', add_zero']; exact knr_kind hb1, fun hh => by simp at hh, fun _ => ⟨_, rfl, kl f, knr_kids hb1, ?_⟩⟩
      refine ⟨fun n h2 => (0 ≤ n ∧ n ≤ 16 ∧ I (acc ++ (place, .br u ks) :: ((List.finRange 16).take n.toNat).flatMap fun i => (ks i).walk dec (place ++ [UInt8.ofNat i.val])) h2, 16 - n.toNat), ⟨by decide, by decide, hI1⟩, ?_⟩
      rintro n h2 ⟨h0', h16, hI2⟩
      obtain ⟨i, rfl⟩ : ∃ j : Nat, n = j := ⟨n.toNat, by omega⟩
      rw [Int.toNat_natCast] at hI2
      refine ⟨fun hlt => ?_, fun hge => ⟨rfl, ?_⟩⟩
      · have hi : i < 16 := by simp at hlt; omega
        have e5 : IntKind.wrap .i64 ((i : Int) + 1) = ((i + 1 : Nat) : Int) := by rw [wrap64 (by omega) (by omega)]; omega
        rw [e5, Int.toNat_natCast]
        refine ⟨⟨by omega, by omega⟩, f ⟨i, hi⟩, by rw [Nat.mul_one, List.getElem?_map, kl_get? f hi]; rfl, [UInt8.ofNat i], ?_, by simp; omega, ?_⟩
        · rw [wrapU8 (by omega) (by omega)]; simp [byteV]; omega
        · have hft := flatMap_take (fun i => (ks i).walk dec (place ++ [UInt8.ofNat i.val])) hi
          have hfl := flatMap_take_le (fun i => (ks i).walk dec (place ++ [UInt8.ofNat i.val])) (i + 1)
          rw [hft, List.length_append] at hfl
          dsimp only at hfl
          refine (ihk ⟨i, hi⟩ (hf _) (hF'.2.2.2.2 _) (by rw [List.length_append, List.length_singleton]; omega) ?_ hI2).mono ?_
          · rw [List.length_append, List.length_cons]; omega
          · rintro v h3 ⟨rfl, hI3⟩
            refine ⟨rfl, ⟨by omega, by omega, ?_⟩, by show 16 - (i + 1) < 16 - i; omega⟩
            rw [Int.toNat_natCast, hft, ← List.cons_append, ← List.append_assoc]
            exact hI3
      · have hi : i = 16 := by simp at hge; omega
        subst hi
        rw [hw, hd, if_pos rfl]
        rw [List.take_of_length_le (by simp)] at hI2
        exact hI2

/-- What an append leaves as it was. -/
theorem app_keep {h₀ h₁ h₂ : Heap} {sl r : Sl} {size m : Nat} {e : TypeId} {l ys : List Value} {c : Nat} {o : Obj} (g : Grow h₀ h₁ sl size l) (hy : ys.length = m * size) (ha : AppRes h₁ sl size e l ys m r h₂) (hc : h₁ c = some o) (hne : ∀ ad, sl.a = some ad → ad.block ≠ c) :
    h₂ c = some o ∧ ∀ ad, r.a = some ad → ad.block ≠ c := by
  obtain ⟨h1, h2, h3, h4⟩ := g
  obtain ⟨hr, ha⟩ := ha
  rcases ha with ⟨hm, ha1, ha2, ha3⟩ | ⟨hm, b, rest, hb, ha1, ha2, ha3, _, ha4⟩
  · rcases h4 with ⟨h5, h6⟩ | ⟨b, rest, e', h5, h6, h7, h8⟩
    · rw [h5] at ha3
      obtain ⟨rfl, rfl⟩ := ha3
      exact ⟨hc, fun ad had => by rw [ha1, h5] at had; cases had⟩
    · have hbc : b ≠ c := hne _ h5
      rw [h5] at ha3
      simp only at ha3
      have hle : ys.length ≤ rest.length := by
        rw [hy, h8]; exact Nat.mul_le_mul_right _ (by omega)
      rw [wr_own h7 h2 hle] at ha3
      injection ha3 with ha3
      subst ha3
      refine ⟨by rw [Heap.set_other _ _ (fun e => hbc e.symm)]; exact hc, fun ad had => ?_⟩
      rw [ha1, h5] at had
      injection had with had
      subst had
      exact hbc
  · subst ha4
    have hbc : c ≠ b := by rintro rfl; rw [hb] at hc; cases hc
    refine ⟨by rw [Heap.set_other _ _ hbc]; exact hc, fun ad had => ?_⟩
    rw [ha1] at had
    injection had with had
    subst had
    exact fun e => hbc e.symm

/-! ### All nodes' texts -/

theorem nodes1_ok {place : Bs} {h : Heap} : Spec Tryz.prog 75 [S place] h (fun v h' => h' = h ∧ v = .bool true) := by
  apply ok75
  unfold VC75
  exact ⟨rfl, rfl⟩
theorem told_ok' {h : Heap} {p : Option Addr} {t : T} (hk : isT h p t) (hF : t.Fits 0) (hs : t.size ≤ 1000000) :
    Spec Tryz.prog 74 [.pointer p, .func (.func 75) #[] #[]] h (fun v h' => h.le h' ∧ ∃ sl, v = .slice sl.a sl.len sl.cap ∧ Grow h h' sl 1 (sv t.nodes)) := by
  refine ok74 (may := ⟨.func 75, #[], #[]⟩) ?_
  unfold VC74
  obtain ⟨b0, e0, q, rfl, hb0, hq⟩ := hk
  refine ⟨_, rfl, q, isT_rd hb0, fun b hb b1 hb1 => ?_⟩
  have hbb : b ≠ b1 := by
    rintro rfl
    rw [Heap.set_same] at hb1; cases hb1
  have hb1h : h b1 = none := by rwa [Heap.set_other _ _ (fun e => hbb e.symm)] at hb1
  obtain ⟨hz, ehz⟩ : ∃ hz, hz = h.set b (Obj.cells ⟨[Value.func (.func 75) #[] #[]]⟩ 157 (0, 0)) := ⟨_, rfl⟩
  have hzb : hz b = some (Obj.cells ⟨[Value.func (.func 75) #[] #[]]⟩ 157 (0, 0)) := by rw [ehz]; exact Heap.set_same _ _ _
  have hzle : h.le hz := by rw [ehz]; exact Heap.le_set _ hb
  rw [← ehz] at hb1
  rw [← ehz]
  have hlen := nodes_len hF
  have hN : (T.walk (fun _ _ => true) [] t).length ≤ 3000000 := by rw [walk_len]; omega
  have V : Visit ⟨.func 172, #[], #[.pointer (some ⟨b, 0, none⟩), .pointer (some ⟨b1, 0, none⟩)]⟩ 172 hz (fun _ _ => true) 3000000
      (fun acc h' => ∃ sl, h' b1 = some (.cells ⟨[.slice sl.a sl.len sl.cap]⟩ 39 (0, 0)) ∧ (∀ ad, sl.a = some ad → ad.block ≠ b1) ∧ Grow hz h' sl 1 (sv (acc.map fun x => x.2.enc))) := by
    refine ⟨rfl, by kernel_rfl, rfl, fun acc h' ⟨sl, _, _, g⟩ => g.1, ?_⟩
    rintro acc h' place t' b' e' f' ⟨sl, hs1, hs2, g⟩ hacc hb' ht' hpl
    show Spec Tryz.prog 172 [S place, .pointer (some ⟨b', 0, none⟩), .pointer (some ⟨b, 0, none⟩), .pointer (some ⟨b1, 0, none⟩)] h' _
    apply ok172
    unfold VC172
    refine ⟨⟨.func 75, #[], #[]⟩, rd_of (g.1 _ _ hzb), 75, rfl, by kernel_rfl, rfl, ?_⟩
    refine (nodes1_ok (place := place) (h := h')).mono ?_
    rintro v h2 ⟨rfl, rfl⟩
    have hsl : sl.len = acc.length := by
      have := g.2.1
      rw [List.length_map, List.length_map, Nat.mul_one] at this
      exact this.symm
    refine ⟨_, rfl, fun hh => by simp at hh, fun _ => ⟨sl, rd_of hs1, _, rfl, t'.enc, knr_text (g.1 _ _ hb'), rfl, rfl, _, g.row, by omega, by omega, (g.fits (m := 1) rfl).1, (g.fits (m := 1) rfl).2, fun r h3 happ => ?_⟩⟩
    have g2 := g.app (m := 1) (ys := [S t'.enc]) rfl happ
    have hkeep := app_keep g (m := 1) (ys := [S t'.enc]) rfl happ hs1 hs2
    refine ⟨_, wr_of hkeep.1 (by simp) _, rfl, ⟨r, by rw [Heap.set_same]; rfl, hkeep.2, ?_⟩⟩
    obtain ⟨g21, g22, g23, g24⟩ := g2
    have hmap : sv ((acc ++ [(place, t')]).map fun x => x.2.enc) = sv (acc.map fun x => x.2.enc) ++ [S t'.enc] := by simp [sv]
    rw [hmap]
    refine ⟨Heap.le_over g21 hb1 _, g22, g23, ?_⟩
    · rcases g24 with h1 | ⟨c, rest, e2, h1, h2, h3, h4⟩
      · exact .inl h1
      · refine .inr ⟨c, rest, e2, h1, h2, ?_, h4⟩
        rw [Heap.set_other _ _ (by have := hkeep.2 _ h1; exact this), h3]
  refine (walk_ok V t (isK_le hzle hq) hF (Nat.le_refl _) (acc := []) (by simpa using hN) ⟨⟨none, 0, 0⟩, Heap.set_same _ _ _, fun ad h => (by cases h), Heap.le_set _ hb1, rfl, Nat.le_refl _, .inl ⟨rfl, rfl⟩⟩).mono ?_
  rintro v h1 ⟨rfl, sl, hs1, hs2, g⟩
  rw [List.nil_append, walk_nodes] at g
  refine ⟨rfl, sl, rd_of hs1, Heap.le_trans hzle g.1, sl, rfl, Heap.le_trans hzle g.1, g.2.1, g.2.2.1, ?_⟩
  rcases g.2.2.2 with h1 | ⟨c, rest, e2, h1, h2, h3⟩
  · exact .inl h1
  · exact .inr ⟨c, rest, e2, h1, Heap.none_of hzle h2, h3⟩
theorem tnodes_ok {h : Heap} {p : Option Addr} {t : T} (hk : isT h p t) (hF : t.Fits 0) (hs : t.size ≤ 1000000) :
    Spec Tryz.prog 19 [.pointer p] h (fun v h' => h.le h' ∧ ∃ sl, v = .slice sl.a sl.len sl.cap ∧ Grow h h' sl 1 (sv t.nodes)) := by
  apply ok19
  unfold VC19
  refine (told_ok' hk hF hs).mono ?_
  rintro v h1 ⟨hle, sl, rfl, g⟩
  exact ⟨sl, rfl, hle, sl, rfl, g⟩
end Go.Vw
