/-
  What the calculus says of binary and unary operations holds of the model.
-/
import Derived.Laws.Strings
import Derived.Laws.StructEq
import Derived.ChangeKeysEq
import Derived.Test.YtomcnpeeelhpcaaGreatDoorVwBase
namespace Go.Vw
open Go

theorem strOp_eql {P : Program} {w : World} (x y : ByteArray) : (Op.stringOp .eql x y).run P w = .ok (.bool (x.data.toList == y.data.toList)) w := by
  simp [Op.stringOp, ByteArray.toList_eq]
theorem cat_eq (x y : ByteArray) : Value.string (x ++ y) = S (x.data.toList ++ y.data.toList) := by
  obtain ⟨⟨a⟩⟩ := x; obtain ⟨⟨b⟩⟩ := y
  congr 1
theorem strOp_run {P : Program} (w : World) (x y : ByteArray) :
    (Op.stringOp .lss x y).run P w = .ok (.bool (strLt x.data.toList y.data.toList)) w ∧
    (Op.stringOp .leq x y).run P w = .ok (.bool (strLt x.data.toList y.data.toList || (x.data.toList == y.data.toList))) w ∧
    (Op.stringOp .gtr x y).run P w = .ok (.bool !(strLt x.data.toList y.data.toList || (x.data.toList == y.data.toList))) w ∧
    (Op.stringOp .geq x y).run P w = .ok (.bool !(strLt x.data.toList y.data.toList)) w := by
  rw [← ByteArray.toList_eq, ← ByteArray.toList_eq]
  exact ⟨rfl, rfl, rfl, rfl⟩

theorem eqIn_bool {P : Program} (w : World) {t : TypeId} (ht : P.underlying t = some .bool) (d : Nat) (a b : Bool) : (Op.equalIn (d + 1) t (.bool a) (.bool b)).run P w = .ok (a == b) w := by
  unfold Op.equalIn
  simp only [Sem.run_bind, underlying_run w ht, Result.andThen_ok, Sem.run_pure]
theorem eqIn_ptr {P : Program} (w : World) {t e : TypeId} (ht : P.underlying t = some (.pointer e)) (d : Nat) (p : Option Addr) : (Op.equalIn (d + 1) t (.pointer p) (.pointer none)).run P w = .ok p.isNone w := by
  unfold Op.equalIn
  cases p <;> simp only [Sem.run_bind, underlying_run w ht, Result.andThen_ok, Sem.run_pure, Option.isNone]
theorem eqIn_slice {P : Program} (w : World) {t e : TypeId} (ht : P.underlying t = some (.slice e)) (d : Nat) (p : Option Addr) (a b c f : Nat) : (Op.equalIn (d + 1) t (.slice p a b) (.slice none c f)).run P w = .ok p.isNone w := by
  unfold Op.equalIn
  cases p <;> simp only [Sem.run_bind, underlying_run w ht, Result.andThen_ok, Sem.run_pure, Option.isNone]
theorem eqIn_map {P : Program} (w : World) {t e f : TypeId} (ht : P.underlying t = some (.map e f)) (d : Nat) (p : Option Nat) : (Op.equalIn (d + 1) t (.map p) (.map none)).run P w = .ok p.isNone w := by
  unfold Op.equalIn
  cases p <;> simp only [Sem.run_bind, underlying_run w ht, Result.andThen_ok, Sem.run_pure, Option.isNone]
section
variable {P : Program} (w : World) (op : BinOp) (t : TypeId) (x y : Operand)
theorem guard_bool (a b : Bool) : (eqGuard op t x y (.bool a) (.bool b)).run P w = .ok () w := by cases op <;> rfl
theorem guard_ptr (a b : Option Addr) : (eqGuard op t x y (.pointer a) (.pointer b)).run P w = .ok () w := by cases op <;> rfl
theorem guard_slice (a b : Option Addr) (c d e f : Nat) : (eqGuard op t x y (.slice a c d) (.slice b e f)).run P w = .ok () w := by cases op <;> rfl
theorem guard_map (a b : Option Nat) : (eqGuard op t x y (.map a) (.map b)).run P w = .ok () w := by cases op <;> rfl
theorem guard_int (k k' : IntKind) (a b : Int) : (eqGuard op t x y (.int k a) (.int k' b)).run P w = .ok () w := by cases op <;> rfl
theorem guard_str (a b : ByteArray) : (eqGuard op t x y (.string a) (.string b)).run P w = .ok () w := by cases op <;> rfl
end

theorem eqItems_strs {P : Program} {w : World} (dd : Nat) {e : TypeId} (he : P.underlying e = some .string) (xs ys : List (List UInt8)) : ∀ is : List Nat, (∀ i ∈ is, i < xs.length ∧ i < ys.length) →
    (Op.eqItems (dd + 1) e 1 ⟨xs.map (fun l => S l)⟩ ⟨ys.map (fun l => S l)⟩ is).run P w = .ok (is.all fun i => xs[i]? == ys[i]?) w
  | [], _ => by simp [Op.eqItems]
  | i :: is, h => by
    obtain ⟨h1, h2⟩ := h i (by simp)
    have ih := eqItems_strs (w := w) dd he xs ys is (fun j hj => h j (by simp [hj]))
    have part1 : ∀ (l : List (List UInt8)) (hi : i < l.length), (part e ⟨l.map (fun l => S l)⟩ (i * 1)).run P w = .ok (S (l[i])) w := by
      intro l hi
      unfold part
      have hg : (⟨l.map (fun l => S l)⟩ : Array Value)[i * 1]? = some (S l[i]) := by simp [hi]
      simp only [Sem.run_bind, isAgg_run w he, aggD, Result.andThen_ok, Bool.false_eq_true, if_false, hg]
      rfl
    simp only [Op.eqItems, Sem.run_bind, part1 xs h1, part1 ys h2, Result.andThen_ok, run_equalIn_string w dd e _ _ he, List.all_cons]
    have hx : xs[i]? = some xs[i] := by simp [h1]
    have hy : ys[i]? = some ys[i] := by simp [h2]
    rw [hx, hy]
    have e1 : ((⟨⟨xs[i]⟩⟩ : ByteArray).toList == (⟨⟨ys[i]⟩⟩ : ByteArray).toList) = (some xs[i] == some ys[i]) := by
      simp [ByteArray.toList_eq]
    rw [e1]
    cases (some xs[i] == some ys[i])
    · simp
    · simpa using ih
theorem all_strs (xs ys : List (List UInt8)) (n : Nat) (hx : xs.length = n) (hy : ys.length = n) : ((List.range n).all fun i => xs[i]? == ys[i]?) = (xs == ys) := by
  rw [Bool.eq_iff_iff]
  simp only [List.all_eq_true, List.mem_range, beq_iff_eq]
  constructor
  · intro h
    apply List.ext_getElem?
    intro i
    rcases Nat.lt_or_ge i n with hi | hi
    · exact h i hi
    · rw [List.getElem?_eq_none (by omega), List.getElem?_eq_none (by omega)]
  · rintro rfl i _; rfl
theorem eqIn_strs {P : Program} (w : World) {t e : TypeId} {n : Nat} {ei : TypeInfo} (ht : P.underlying t = some (.array n e)) (he : P.underlying e = some .string) (hi : P.info? e = some ei) (hs : ei.size = 1) (d : Nat) {x y : Array Value} {xs ys : List (List UInt8)}
    (hx : x.toList = xs.map (fun l => S l)) (hy : y.toList = ys.map (fun l => S l)) (lx : xs.length = n) (ly : ys.length = n) : (Op.equalIn (d + 2) t (.agg x) (.agg y)).run P w = .ok (xs == ys) w := by
  have ex : x = ⟨xs.map (fun l => S l)⟩ := Array.ext' hx
  have ey : y = ⟨ys.map (fun l => S l)⟩ := Array.ext' hy
  have hc : P.cellsOf e = 1 := by simp [Program.cellsOf, hi, hs]
  rw [run_equalIn_array w (d + 1) x y ht hi, hc, ex, ey, eqItems_strs d he xs ys _ (fun i hi => by rw [List.mem_range] at hi; omega), all_strs xs ys n lx ly]
theorem guard_agg {P : Program} (w : World) {op : BinOp} {t : TypeId} (hg : P.eqGuardType P.depth t = false) (u v : Operand) (x y : Array Value) : (eqGuard op t u v (.agg x) (.agg y)).run P w = .ok () w := by
  unfold eqGuard
  cases op <;> simp [hg, run_program]

theorem binSound (cx : Cx) (op : BinOp) (t : TypeId) (yc : Bool) (K : EV → Prop) (a b : Value) (h : binV cx op t yc K a b) :
    ∃ v, K (.v v) ∧ vokR v = true ∧ ∀ (w : World) (x y : Operand), (do eqGuard op t x y a b; binOp op t a b : Sem Value).run cx.P w = .ok v w := by
  unfold binV at h
  split at h
  · -- ints
    rename_i k n k' m
    have hguard : ∀ (w : World) (x y : Operand), (eqGuard op t x y (.int k n) (.int k' m)).run cx.P w = .ok () w := by
      intro w x y; exact guard_int w op t x y k k' n m
    split at h
    · split at h
      · split at h
        · rename_i h0
          exact ⟨_, h, rfl, fun w x y => by simp [hguard, binOp, Op.shift, Int.not_lt.2 h0]⟩
        · exact h.elim
      · obtain ⟨h0, hK⟩ := h
        exact ⟨_, hK, rfl, fun w x y => by simp [hguard, binOp, Op.shift, Int.not_lt.2 h0]⟩
    · split at h
      · split at h
        · rename_i h0
          exact ⟨_, h, rfl, fun w x y => by simp [hguard, binOp, Op.shift, Int.not_lt.2 h0]⟩
        · exact h.elim
      · obtain ⟨h0, hK⟩ := h
        exact ⟨_, hK, rfl, fun w x y => by simp [hguard, binOp, Op.shift, Int.not_lt.2 h0]⟩
    · split at h
      · rename_i hk
        subst hk
        split at h
        · exact ⟨_, h, rfl, fun w x y => by simp [hguard, binOp, Op.intArith]⟩
        · exact ⟨_, h, rfl, fun w x y => by simp [hguard, binOp, Op.intArith]⟩
        · exact ⟨_, h, rfl, fun w x y => by simp [hguard, binOp, Op.intArith]⟩
        · obtain ⟨h0, hK⟩ := h
          exact ⟨_, hK, rfl, fun w x y => by simp [hguard, binOp, Op.intDiv, h0]⟩
        · obtain ⟨h0, hK⟩ := h
          exact ⟨_, hK, rfl, fun w x y => by simp [hguard, binOp, Op.intDiv, h0]⟩
        · exact ⟨_, h, rfl, fun w x y => by simp [hguard, binOp, Op.intBits, bitsV]⟩
        · exact ⟨_, h, rfl, fun w x y => by simp [hguard, binOp, Op.intBits, bitsV]⟩
        · exact ⟨_, h, rfl, fun w x y => by simp [hguard, binOp, Op.intBits, bitsV]⟩
        · exact ⟨_, h, rfl, fun w x y => by simp [hguard, binOp, Op.intBits, bitsV]⟩
        · exact ⟨_, h, rfl, fun w x y => by simp [hguard, binOp, Op.intCmp]⟩
        · exact ⟨_, h, rfl, fun w x y => by simp [hguard, binOp, Op.intCmp]⟩
        · exact ⟨_, h, rfl, fun w x y => by simp [hguard, binOp, Op.intCmp]⟩
        · exact ⟨_, h, rfl, fun w x y => by simp [hguard, binOp, Op.intCmp]⟩
        · exact ⟨_, h, rfl, fun w x y => by simp [hguard, binOp, Op.intCmp]⟩
        · exact ⟨_, h, rfl, fun w x y => by simp [hguard, binOp, Op.intCmp]⟩
        · exact h.elim
      · exact h.elim
  · -- strings
    rename_i x' y'
    have hguard : ∀ (w : World) (x y : Operand), (eqGuard op t x y (.string x') (.string y')).run cx.P w = .ok () w := by
      intro w x y; exact guard_str w op t x y x' y'
    dsimp only at h
    split at h
    · obtain ⟨h0, hK⟩ := h
      refine ⟨_, hK, rfl, fun w x y => ?_⟩
      have hs : ¬ ((x'.size + y'.size : Nat) : Int) > IntKind.i64.max := by
        have e1 : x'.size = x'.data.toList.length := rfl
        have e2 : y'.size = y'.data.toList.length := rfl
        have : IntKind.i64.max = 9223372036854775807 := by decide
        omega
      rw [← cat_eq]
      simp only [Sem.run_bind, hguard, Result.andThen_ok, binOp, Op.stringOp]
      rw [if_neg hs]; rfl
    · exact ⟨_, h, rfl, fun w x y => by simp [hguard, binOp, Op.stringOp, ByteArray.toList_eq]⟩
    · exact ⟨_, h, rfl, fun w x y => by simp [hguard, binOp, Op.stringOp, ByteArray.toList_eq]⟩
    · exact ⟨_, h, rfl, fun w x y => by rw [Sem.run_bind, hguard, Result.andThen_ok]; exact (strOp_run w x' y').1⟩
    · exact ⟨_, h, rfl, fun w x y => by rw [Sem.run_bind, hguard, Result.andThen_ok]; exact (strOp_run w x' y').2.1⟩
    · exact ⟨_, h, rfl, fun w x y => by rw [Sem.run_bind, hguard, Result.andThen_ok]; exact (strOp_run w x' y').2.2.1⟩
    · exact ⟨_, h, rfl, fun w x y => by rw [Sem.run_bind, hguard, Result.andThen_ok]; exact (strOp_run w x' y').2.2.2⟩
    · exact h.elim
  · split at h
    · rename_i ht
      exact ⟨_, h, rfl, fun w x y => by simp only [Sem.run_bind, guard_bool, guard_ptr, guard_slice, guard_map, Result.andThen_ok, binOp, Op.equal, Op.maxDepth, eqIn_bool w ht, Sem.run_pure]⟩
    · rename_i ht
      exact ⟨_, h, rfl, fun w x y => by simp only [Sem.run_bind, guard_bool, guard_ptr, guard_slice, guard_map, Result.andThen_ok, binOp, Op.equal, Op.maxDepth, eqIn_bool w ht, Sem.run_pure]⟩
    · exact h.elim
  · rename_i p
    split at h
    · rename_i ht
      exact ⟨_, h, rfl, fun w x y => by simp only [Sem.run_bind, guard_bool, guard_ptr, guard_slice, guard_map, Result.andThen_ok, binOp, Op.equal, Op.maxDepth, eqIn_ptr w ht, Sem.run_pure]⟩
    · rename_i ht
      exact ⟨_, h, rfl, fun w x y => by simp only [Sem.run_bind, guard_bool, guard_ptr, guard_slice, guard_map, Result.andThen_ok, binOp, Op.equal, Op.maxDepth, eqIn_ptr w ht, Sem.run_pure]⟩
    · exact h.elim
  · rename_i p _ _ _ _
    split at h
    · rename_i ht
      exact ⟨_, h, rfl, fun w x y => by simp only [Sem.run_bind, guard_bool, guard_ptr, guard_slice, guard_map, Result.andThen_ok, binOp, Op.equal, Op.maxDepth, eqIn_slice w ht, Sem.run_pure]⟩
    · rename_i ht
      exact ⟨_, h, rfl, fun w x y => by simp only [Sem.run_bind, guard_bool, guard_ptr, guard_slice, guard_map, Result.andThen_ok, binOp, Op.equal, Op.maxDepth, eqIn_slice w ht, Sem.run_pure]⟩
    · exact h.elim
  · rename_i p
    split at h
    · rename_i ht
      exact ⟨_, h, rfl, fun w x y => by simp only [Sem.run_bind, guard_bool, guard_ptr, guard_slice, guard_map, Result.andThen_ok, binOp, Op.equal, Op.maxDepth, eqIn_map w ht, Sem.run_pure]⟩
    · rename_i ht
      exact ⟨_, h, rfl, fun w x y => by simp only [Sem.run_bind, guard_bool, guard_ptr, guard_slice, guard_map, Result.andThen_ok, binOp, Op.equal, Op.maxDepth, eqIn_map w ht, Sem.run_pure]⟩
    · exact h.elim
  · rename_i x y
    split at h
    · rename_i n elem ht
      split at h
      · rename_i ei he hi
        split at h
        · rename_i hs hgd
          obtain ⟨xs, ys, hx, hy, ⟨lx, ly⟩, hK⟩ := h
          have hs' : ei.size = 1 := Nat.eq_of_beq_eq_true hs
          split at hK
          · exact ⟨_, hK, rfl, fun w u v => by simp only [Sem.run_bind, guard_agg w hgd, Result.andThen_ok, binOp, Op.equal, Op.maxDepth, eqIn_strs w ht he hi hs' 9998 hx hy lx ly, Sem.run_pure]⟩
          · exact ⟨_, hK, rfl, fun w u v => by simp only [Sem.run_bind, guard_agg w hgd, Result.andThen_ok, binOp, Op.equal, Op.maxDepth, eqIn_strs w ht he hi hs' 9998 hx hy lx ly, Sem.run_pure]⟩
          · exact hK.elim
        · exact h.elim
      · exact h.elim
    · exact h.elim
  · exact h.elim

theorem unSound (op : UnOp) (K : EV → Prop) (e : EV) (h : unV op K e) (P : Program) :
    ∃ f, K f ∧ okE 0 f ∧ ∀ (w : World) (β : Nat → Nat), (Op.unary op (cz β e)).run P w = .ok (cz β f) w := by
  unfold unV at h
  split at h
  · split at h
    · exact ⟨_, h, trivial, fun w β => by simp [cz, Op.unary]⟩
    · exact h.elim
  · split at h
    · exact ⟨_, h, rfl, fun w β => by simp [cz, Op.unary]⟩
    · exact h.elim
  · split at h
    · exact ⟨_, h, rfl, fun w β => by simp [cz, Op.unary, Op.intArith]⟩
    · exact ⟨_, h, rfl, fun w β => by simp [cz, Op.unary, Op.intBits, bitsV]⟩
    · exact h.elim
  · exact h.elim
end Go.Vw
