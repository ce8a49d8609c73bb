/- A symbolic walk over the code of one function, and that it tells no more than the model does: no condition. -/
import Derived.Test.YtfhgggjpdimaoaaSqAxU
set_option linter.unusedVariables false
set_option linter.unusedSimpArgs false
namespace Go.AX
noncomputable section
open Go.RowKit

/-! ## Lists of whatever elements -/

theorem wr64 {n : Int} (h0 : -9223372036854775808 ≤ n) (h1 : n < 9223372036854775808) : IntKind.i64.wrap n = n := by rw [IntKind.wrap_i64]; omega
theorem not_t {b : Bool} (h : (!b) = true) : b = false := by cases b <;> simp_all
theorem not_f {b : Bool} (h : (!b) = false) : b = true := by cases b <;> simp_all
theorem fcmp_neq (k : FloatKind) (x y : Nat) : fcmp .neq k x y = !fcmp .eql k x y := by rw [fcmp_def, fcmp_def]; rfl

section
variable {α : Type}
/-- The first that fits. -/
def fi (p : α → Bool) (xs : List α) : Int := if xs.any p then (xs.findIdx p : Nat) else -1
theorem getD_lt (d : α) {xs : List α} {j : Nat} (hj : j < xs.length) : xs.getD j d = xs[j] := by simp [List.getD_eq_getElem?_getD, hj]
theorem fi_at (d : α) {p : α → Bool} {xs : List α} {i : Nat} (hi : i < xs.length) (hp : p (xs.getD i d) = true) (hb : ∀ j, j < i → p (xs.getD j d) = false) : fi p xs = i := by
  rw [getD_lt d hi] at hp
  have ha : xs.any p = true := List.any_eq_true.2 ⟨_, List.getElem_mem hi, hp⟩
  unfold fi
  rw [if_pos ha]
  congr 1
  rw [List.findIdx_eq hi]
  refine ⟨hp, fun j hj => ?_⟩
  rw [← getD_lt d (by omega)]; simpa using hb j hj
theorem fi_none (d : α) {p : α → Bool} {xs : List α} (hb : ∀ j, j < xs.length → p (xs.getD j d) = false) : fi p xs = -1 := by
  unfold fi
  rw [if_neg]
  intro ha
  obtain ⟨x, hx, hp⟩ := List.any_eq_true.1 ha
  obtain ⟨j, hj, rfl⟩ := List.mem_iff_getElem.1 hx
  have := hb j hj
  rw [getD_lt d hj] at this
  rw [this] at hp; cases hp
theorem fi_ge {p : α → Bool} {xs : List α} : decide (fi p xs ≥ 0) = xs.any p := by
  unfold fi
  cases h : xs.any p
  · simp
  · simp
theorem any_all (p : α → Bool) (xs : List α) : (!(xs.any fun x => !p x)) = xs.all p := by
  induction xs with
  | nil => rfl
  | cons x xs ih => simp only [List.any_cons, List.all_cons, Bool.not_or, Bool.not_not, ih]
theorem all_of (d : α) {p : α → Bool} {xs : List α} (h : ∀ j, j < xs.length → p (xs.getD j d) = true) : xs.all p = true := by
  rw [List.all_eq_true]
  intro x hx
  obtain ⟨j, hj, rfl⟩ := List.mem_iff_getElem.1 hx
  rw [← getD_lt d hj]; exact h j hj
theorem all_not (d : α) {p : α → Bool} {xs : List α} {i : Nat} (hi : i < xs.length) (h : p (xs.getD i d) = false) : xs.all p = false := by
  rw [List.all_eq_false]
  refine ⟨xs[i], List.getElem_mem hi, ?_⟩
  rw [getD_lt d hi] at h
  simp [h]
theorem all_at (d : α) {p : α → Bool} {xs : List α} (h : xs.all p = true) {i : Nat} (hi : i < xs.length) : p (xs.getD i d) = true := by
  rw [getD_lt d hi]; exact List.all_eq_true.1 h _ (List.getElem_mem hi)
theorem all_app (p : α → Bool) (xs ys : List α) : (xs ++ ys).all p = (xs.all p && ys.all p) := List.all_append

theorem take_put (d z : α) (xs : List α) {i n : Nat} (hi : i < xs.length) (hn : n = xs.length) : (xs.take i ++ List.replicate (n - i) z).set i (xs.getD i d) = xs.take (i + 1) ++ List.replicate (n - (i + 1)) z := by
  subst hn
  have e : xs.length - i = (xs.length - (i + 1)) + 1 := by omega
  rw [e, List.replicate_succ, List.set_append_right _ _ (by simp; omega)]
  have : i - (xs.take i).length = 0 := by simp; omega
  rw [this, List.set_cons_zero, List.take_succ_eq_append_getElem hi, getD_lt d hi, List.append_assoc]
  rfl

/-- Alike, element by element. -/
def allN (d : α) (p : α → α → Bool) (xs ys : List α) : Bool := decide (xs.length = ys.length ∧ ∀ i, i < xs.length → p (xs.getD i d) (ys.getD i d) = true)
theorem allN_len {d : α} {p : α → α → Bool} {xs ys : List α} (h : (!((xs.length : Int) == (ys.length : Int))) = true) : allN d p xs ys = false := by
  refine decide_eq_false fun ⟨e, _⟩ => ?_
  rw [e] at h; simp at h
theorem allN_at {d : α} {p : α → α → Bool} {xs ys : List α} {i : Nat} (hi : i < xs.length) (h : p (xs.getD i d) (ys.getD i d) = false) : allN d p xs ys = false := by
  refine decide_eq_false fun ⟨_, e⟩ => ?_
  rw [e i hi] at h; cases h
theorem allN_all {d : α} {p : α → α → Bool} {xs ys : List α} (e : xs.length = ys.length) (h : ∀ j, j < xs.length → p (xs.getD j d) (ys.getD j d) = true) : allN d p xs ys = true := decide_eq_true ⟨e, h⟩
theorem allN_self {d : α} {p : α → α → Bool} (hp : ∀ x, p x x = true) (xs : List α) : allN d p xs xs = true := allN_all rfl fun j _ => hp _
theorem len_of {xs : List α} {β : Type} {ys : List β} (h : (!((xs.length : Int) == (ys.length : Int))) = false) : xs.length = ys.length := by
  have := not_f h
  rw [beq_iff_eq] at this; omega
theorem len_of' {xs : List α} {β : Type} {ys : List β} (h : ((xs.length : Int) != (ys.length : Int)) = false) : xs.length = ys.length := by
  have := eq_of_bneF h
  omega
theorem allN_len' {d : α} {p : α → α → Bool} {xs ys : List α} (h : ((xs.length : Int) != (ys.length : Int)) = true) : allN d p xs ys = false := by
  have := ne_of_bneT h
  refine decide_eq_false fun ⟨e, _⟩ => ?_
  rw [e] at this; exact this rfl

/-- An array that is built up. -/
def bld (f : Nat → α) : Nat → List α
  | 0 => []
  | n + 1 => bld f n ++ [f n]
theorem bld_len (f : Nat → α) : ∀ n, (bld f n).length = n
  | 0 => rfl
  | n + 1 => by simp [bld, bld_len f n]
theorem bld_at (d : α) (f : Nat → α) : ∀ {n i : Nat}, i < n → (bld f n).getD i d = f i
  | 0, i, h => by omega
  | n + 1, i, h => by
    have hl := bld_len f n
    by_cases hi : i < n
    · have := bld_at d f hi
      simp only [List.getD_eq_getElem?_getD] at this ⊢
      rw [bld, List.getElem?_append_left (by rw [hl]; exact hi)]; exact this
    · have : i = n := by omega
      subst this
      simp only [List.getD_eq_getElem?_getD]
      rw [bld, List.getElem?_append_right (by rw [hl]; exact Nat.le_refl _), hl]; simp
theorem bld_congr {f g : Nat → α} : ∀ {n : Nat}, (∀ i, i < n → f i = g i) → bld f n = bld g n
  | 0, _ => rfl
  | n + 1, h => by rw [bld, bld, bld_congr fun i hi => h i (by omega), h n (by omega)]
theorem bld_all {p : α → Bool} {f : Nat → α} : ∀ {n : Nat}, (∀ i, i < n → p (f i) = true) → (bld f n).all p = true
  | 0, _ => rfl
  | n + 1, h => by rw [bld, List.all_append, bld_all fun i hi => h i (by omega)]; simp [h n (by omega)]
theorem bld_not {p : α → Bool} {f : Nat → α} : ∀ {n : Nat} (i : Nat), i < n → p (f i) = false → (bld f n).all p = false
  | 0, i, h, _ => by omega
  | n + 1, i, h, hp => by
    rw [bld, List.all_append]
    by_cases hi : i < n
    · rw [bld_not i hi hp]; rfl
    · have : i = n := by omega
      subst this; simp [hp]
theorem ext_getD (d : α) {xs ys : List α} (hl : xs.length = ys.length) (h : ∀ i, i < xs.length → xs.getD i d = ys.getD i d) : xs = ys := by
  apply List.ext_getElem hl
  intro i h1 h2
  have := h i h1
  rwa [getD_lt d h1, getD_lt d h2] at this
theorem bld_self (d : α) (xs : List α) : bld (fun i => xs.getD i d) xs.length = xs :=
  ext_getD d (bld_len _ _) fun i hi => bld_at d _ (by rwa [bld_len] at hi)
theorem bld_set {F : Nat → α} {ys : List α} {i : Nat} (hi : i < ys.length) : (bld F i ++ ys.drop i).set i (F i) = bld F (i + 1) ++ ys.drop (i + 1) := by
  have e : ys.drop i = ys[i] :: ys.drop (i + 1) := by simp
  rw [e, List.set_append_right _ _ (by rw [bld_len]; exact Nat.le_refl _), bld_len, Nat.sub_self, List.set_cons_zero, bld, List.append_assoc]; rfl
theorem bld_get (d : α) (F : Nat → α) {ys : List α} {i : Nat} (hi : i < ys.length) : (bld F i ++ ys.drop i).getD i d = ys.getD i d := by
  simp only [List.getD_eq_getElem?_getD]
  rw [List.getElem?_append_right (by rw [bld_len]; exact Nat.le_refl _), bld_len, Nat.sub_self, List.getElem?_drop]
  rfl
theorem bld_drop (F : Nat → α) (ys : List α) {n : Nat} (h : n = ys.length) : bld F n ++ ys.drop n = bld F n := by
  rw [h, List.drop_length, List.append_nil]

/-- A running sum. -/
def acc {β : Type} (g : β → α → β) (z : β) (d : α) (xs : List α) : Nat → β
  | 0 => z
  | i + 1 => g (acc g z d xs i) (xs.getD i d)
end

/-! ## What the harness counts -/

def sz (n : Int) (len : Nat) : Int := if IntKind.i64.wrap (n - len) < 0 then -1 else IntKind.i64.wrap (n - len)
theorem sz_neg {n : Int} {len : Nat} (h : decide (IntKind.i64.wrap (n - len) < 0) = true) : -1 = sz n len := by unfold sz; rw [if_pos (of_decide_eq_true h)]
theorem sz_pos {n : Int} {len : Nat} (h : decide (IntKind.i64.wrap (n - len) < 0) = false) : IntKind.i64.wrap (n - len) = sz n len := by unfold sz; rw [if_neg (of_decide_eq_false h)]
theorem sz_neg' {n : Int} {len : Nat} (h : decide (sz n len < 0) = true) : -1 = sz n len := by
  have h := of_decide_eq_true h
  unfold sz at *
  split at h
  · rw [if_pos]; assumption
  · omega
theorem sz_leN {m : Int} {n : Nat} (h : decide (sz m n < 0) = false) (h0 : 0 ≤ m) (h1 : m ≤ 1048576) (hm : n ≤ maxLen) : (n : Int) ≤ m ∧ sz m n = m - n := by
  have h := of_decide_eq_false h
  have hml : maxLen = 9223372036854775807 := by decide
  unfold sz at *
  rw [wr64 (by omega) (by omega)] at h ⊢
  split at h
  · omega
  · rw [if_neg (by omega)]; omega
theorem sz_le {n : Nat} (h : decide (sz 1048576 n < 0) = false) (hm : n ≤ maxLen) : n ≤ 1048576 := by
  have := (sz_leN h (by omega) (by omega) hm).1; omega
/-- What is left behind two lists, if there is no fault. -/
def sz2 (n : Int) (l1 l2 : Nat) : Int := if sz n l1 < 0 then -1 else if sz (sz n l1) l2 < 0 then -1 else sz (sz n l1) l2
theorem sz2_leN {m : Int} {n k : Nat} (h : decide (sz2 m n k < 0) = false) (h0 : 0 ≤ m) (h1 : m ≤ 1048576) (hm : n ≤ maxLen) (hk : k ≤ maxLen) : (n : Int) + k ≤ m ∧ sz2 m n k = m - n - k := by
  have h := of_decide_eq_false h
  unfold sz2 at *
  by_cases c : sz m n < 0
  · rw [if_pos c] at h; omega
  · rw [if_neg c] at h ⊢
    obtain ⟨a1, a2⟩ := sz_leN (decide_eq_false c) h0 h1 hm
    by_cases c2 : sz (sz m n) k < 0
    · rw [if_pos c2] at h; omega
    · rw [if_neg c2]
      obtain ⟨b1, b2⟩ := sz_leN (decide_eq_false c2) (by omega) (by omega) hk
      omega
theorem bnn {b : Bool} {p : Prop} (h : (!(b == b)) = true) : p := by simp at h
theorem bnn' {b : Bool} {p : Prop} (h : (b != b) = true) : p := by simp at h

/-! ## Told numbers -/

noncomputable def finB (x : Nat) : Bool := fcmp .eql .f32 (fop .sub .f32 x x) (cn .f32 0)
theorem finB_num (x : Nat) : finB x = isNum .f32 x := sub_self_num .f32 x
noncomputable def finC (p : Nat × Nat) : Bool := finB p.1 && finB p.2
noncomputable def finW (p : Nat × Nat × Nat) : Bool := finC (p.1, p.2.1) && finB p.2.2
noncomputable def finP (p : Nat × Nat × Nat) : Bool := finB p.1 && (finB p.2.1 && finB p.2.2)
def inB (x a b : Int) : Bool := decide (x ≥ a) && decide (x ≤ b)
theorem inB_le {x a b : Int} (h : inB x a b = true) : a ≤ x ∧ x ≤ b := by
  unfold inB at h
  simp only [Bool.and_eq_true, decide_eq_true_eq] at h
  exact ⟨h.1, h.2⟩
theorem neq_self (k : FloatKind) (x : Nat) : fcmp .neq k x x = isN k x := by
  rw [fcmp_def]; unfold fcmp0 isN FloatKind.decode
  simp only [Ieee.Format.order]
  cases k.format.read x with
  | nan => rfl
  | infinity s => simp [Ieee.Datum.order, Ieee.Datum.isNaN, Nat.compare_eq_eq]
  | number s m i => simp [Ieee.Datum.order, Ieee.Datum.isNaN]
def bitsI (x : Nat) : Int := bif isN .f32 x then 2143289344 else (x : Int)
noncomputable def sameN (x y : Nat) : Bool := bif isN .f32 x || isN .f32 y then isN .f32 x && isN .f32 y else (x : Int) == (y : Int)
theorem bits_same (x y : Nat) : (bitsI x == bitsI y) = sameN x y := by
  have hq : isN .f32 2143289344 = true := by decide
  unfold bitsI sameN
  cases hx : isN .f32 x <;> cases hy : isN .f32 y <;> simp only [cond_true, cond_false, Bool.or_self, Bool.or_false, Bool.or_true, Bool.and_self, Bool.and_false, Bool.false_and]
  · rw [beq_eq_false_iff_ne]; intro e
    have : x = 2143289344 := by omega
    rw [this, hq] at hx; cases hx
  · rw [beq_eq_false_iff_ne]; intro e
    have : y = 2143289344 := by omega
    rw [this, hq] at hy; cases hy
  · rfl
theorem cf_lt {x : Nat} (h : CF .f32 x) : x < 4294967296 := by obtain ⟨b, h⟩ := h; exact h.lt
theorem isN_of_cn {k : FloatKind} {x b : Nat} (h : IsF k x b) (hx : isN k x = false) : b = x := by
  cases hb : isN k b
  · rw [← h.1, cn_of_not hb]
  · have := h.1
    rw [cn_of hb] at this
    rw [← this] at hx
    have h2 : isN k (qn k) = true := by cases k <;> decide
    rw [h2] at hx; cases hx
theorem nearest_isN (k : FloatKind) (n : Int) : isN k (fint k n) = false := by
  rw [fint_def]; unfold isN FloatKind.decode FloatKind.nearest FloatKind.encode
  exact F.write_not_nan _ _ rfl
noncomputable def sameC (p q : Nat × Nat) : Bool := sameN p.1 q.1 && sameN p.2 q.2
noncomputable def sameW (p q : Nat × Nat × Nat) : Bool := sameC (p.1, p.2.1) (q.1, q.2.1) && sameN p.2.2 q.2.2
def numB (b : Bool) (y : Nat) : Nat := bif b then y else cn .f32 0
abbrev told (b : Bool) (y : Nat) : AV := .tup [.one (.fl .f32 (numB b y)), .one (.ex (.bool b))]
def gR {α : Type} (b : Bool) (R : List α) : List α := bif b then R else []
theorem gR_len {α : Type} {b : Bool} {R : List α} {n : Nat} (h : b = true → R.length ≤ n) : (gR b R).length ≤ n := by
  cases b
  · exact Nat.zero_le _
  · exact h rfl

/-! ## The marks that a law lays into what it was given -/

def marks (n : Int) (len : Nat) : List Nat := bld (fun (i : Nat) => fint .f32 (n + i)) len
/-- Of complex numbers: k and 1. -/
def marksC (n : Int) (len : Nat) : List (Nat × Nat) := bld (fun (i : Nat) => (fnarrow (fint .f64 (n + i)), fnarrow (cn .f64 4607182418800017408))) len
def marksW (n : Int) (len : Nat) : List (Nat × Nat × Nat) := bld (fun (i : Nat) => (fnarrow (fint .f64 (n + 2 * i)), fnarrow (cn .f64 4607182418800017408), fint .f32 (n + 2 * i + 1))) len
theorem narrow_isN {x : Nat} (h : isN .f64 x = false) : isN .f32 (fnarrow x) = false := by
  unfold isN FloatKind.decode at h
  replace h : (Ieee.double.read x).isNaN = false := h
  rw [fnarrow_def]; unfold fnarrow0
  cases hd : Ieee.double.read x with
  | nan s f => rw [hd] at h; cases h
  | infinity s => exact F.write_not_nan _ _ rfl
  | number s m e => exact F.write_not_nan _ _ rfl
theorem eql_self {k : FloatKind} {x : Nat} (h : isN k x = false) : fcmp .eql k x x = true := by
  have := neq_self k x
  rw [fcmp_neq, h] at this
  exact not_f this
end
end Go.AX
