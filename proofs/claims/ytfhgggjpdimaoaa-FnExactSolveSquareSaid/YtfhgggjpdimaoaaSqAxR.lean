/- A symbolic walk over the code of one function, and that it tells no more than the model does: no condition. -/
import Derived.Test.YtfhgggjpdimaoaaSqAxQ
set_option linter.unusedVariables false
set_option linter.unusedSimpArgs false
namespace Go.AX
noncomputable section
open Ieee
set_option maxRecDepth 100000

/-! ## The greatest whole number not above -/

def ffl0 (y : Nat) : Nat := Ieee.double.write ((Ieee.double.read y).integral .down)
@[irreducible] def ffl : Nat → Nat := shutV ffl0
theorem ffl_def (y : Nat) : ffl y = ffl0 y := by unfold ffl; rw [shutV_eq]

def sgnI (s : Bool) (n : Nat) : Int := if s then -(n : Int) else n
def chkF (s : Bool) (n : Nat) : Bool :=
  let y := Ieee.double.write (.number s n 0)
  (s && n == 0) || (floatToIntVal .f64 y .i64 == some (sgnI s n) && (narrows y && (fnarrow0 y == FloatKind.f32.nearest (sgnI s n) && floatToIntVal .f32 (fnarrow0 y) .i64 == some (sgnI s n))))
theorem tabF : (List.range 1002).all (fun n => chkF true n && chkF false n) = true := by decide +kernel
theorem double_binade : Ieee.double.binade = 4503599627370496 := id rfl
theorem double_inf : Ieee.double.infRung = 9218868437227405312 := id rfl
theorem double_sw : Ieee.double.signWeight = 9223372036854775808 := id rfl
theorem double_least : Ieee.double.leastPlace = -1074 := id rfl
theorem double_frac : Ieee.double.fractionBits = 52 := id rfl

theorem kept_range {m : Nat} (hm : m ≠ 0) (hl : m.log2 ≤ 52) : 4503599627370496 ≤ m <<< (52 - m.log2) ∧ m <<< (52 - m.log2) < 9007199254740992 := by
  have h1 := Nat.log2_self_le hm
  have h2 := Nat.lt_log2_self (n := m)
  rw [Nat.shiftLeft_eq]
  constructor
  · have := Nat.mul_le_mul_right (2 ^ (52 - m.log2)) h1
    rw [← Nat.pow_add, show m.log2 + (52 - m.log2) = 52 by omega] at this
    exact this
  · have := Nat.mul_lt_mul_of_pos_right h2 (Nat.two_pow_pos (52 - m.log2))
    rw [← Nat.pow_add, show m.log2 + 1 + (52 - m.log2) = 53 by omega] at this
    exact this

theorem ar1 {Q K : Nat} (hQ : Q ≤ 1200) (k2 : K < 9007199254740992) : Q * 4503599627370496 + K < 9218868437227405312 := by omega
theorem ar2 {Q K : Nat} (k1 : 4503599627370496 ≤ K) (k2 : K < 9007199254740992) : 4503599627370496 + (Q * 4503599627370496 + K) % 4503599627370496 = K := by omega
theorem ar3 {Q K : Nat} (k1 : 4503599627370496 ≤ K) (k2 : K < 9007199254740992) : (Q * 4503599627370496 + K) / 4503599627370496 - 1 = Q := by omega
theorem ar4 {Q K : Nat} (k1 : 4503599627370496 ≤ K) : ¬ Q * 4503599627370496 + K < 4503599627370496 := by omega
/-- A float32's number stands in a float64 as it is. -/
theorem wide_exact {s : Bool} {m : Nat} {e : Int} (hm0 : m ≠ 0) (hm : m < 2 ^ 24) (h1 : -149 ≤ e) (h2 : e ≤ 104) :
    Ieee.double.read (Ieee.double.nearest s m e) = .number s (m <<< (52 - m.log2)) (e - (52 - m.log2 : Nat)) := by
  have hl := log2_lt24 hm
  obtain ⟨k1, k2⟩ := kept_range hm0 (by omega)
  unfold Format.nearest
  rw [if_neg hm0]
  have hlast : max (e + (m.log2 : Int) - (Ieee.double.fractionBits : Nat)) Ieee.double.leastPlace = e - (52 - m.log2 : Nat) := by
    rw [double_frac, double_least]; omega
  simp only [hlast]
  have t1 : (e - (e - (52 - m.log2 : Nat))).toNat = 52 - m.log2 := by omega
  have t2 : ((e - (52 - m.log2 : Nat)) - e).toNat = 0 := by omega
  rw [t1, t2, cut_none, double_least, double_inf, double_binade]
  generalize hK : m <<< (52 - m.log2) = K at k1 k2 ⊢
  obtain ⟨Q, hQ⟩ : ∃ Q : Nat, (e - (52 - m.log2 : Nat) - -1074).toNat = Q ∧ (Q : Int) = e - (52 - m.log2 : Nat) + 1074 ∧ Q ≤ 1200 := ⟨_, rfl, by omega, by omega⟩
  rw [hQ.1]
  have hlt := ar1 hQ.2.2 k2
  rw [Nat.min_eq_left (Nat.le_of_lt hlt), F.read_word _ _ (r := Q * 4503599627370496 + K) (by rw [double_sw]; exact Nat.lt_trans hlt (by decide)), double_binade, double_inf, double_least]
  rw [if_neg (ar4 k1), if_pos hlt, ar2 k1 k2, ar3 k1 k2]
  rw [show (-1074 : Int) + (Q : Int) = e - (52 - m.log2 : Nat) by rw [hQ.2.1]; omega]

theorem cut_down_le {s : Bool} {n d B : Nat} (h : n ≤ B * 2 ^ d) (hB : 0 < B) : Toward.down.cut s n d ≤ B + 1 := by
  unfold Toward.cut
  simp only [Nat.shiftLeft_eq, Nat.one_mul]
  have hmore : (s && n % 2 ^ min d (n.log2 + 2) != 0).toNat ≤ 1 := Bool.toNat_le _
  have hlow : n / 2 ^ min d (n.log2 + 2) ≤ B := by
    by_cases hd : d ≤ n.log2 + 2
    · rw [Nat.min_eq_left hd]
      exact (Nat.div_le_iff_le_mul_add_pred (Nat.two_pow_pos _)).2 (by rw [Nat.mul_comm]; omega)
    · rw [Nat.min_eq_right (by omega)]
      have h2 := Nat.lt_log2_self (n := n)
      have : n < 2 ^ (n.log2 + 2) := Nat.lt_of_lt_of_le h2 (Nat.pow_le_pow_right (by omega) (by omega))
      rw [Nat.div_eq_of_lt this]; omega
  omega
theorem cut_down_pos {n d : Nat} (h : n ≠ 0) : 1 ≤ Toward.down.cut true n d := by
  unfold Toward.cut
  simp only [Nat.shiftLeft_eq, Nat.one_mul, Bool.true_and]
  generalize min d (n.log2 + 2) = g
  by_cases hr : n % 2 ^ g = 0
  · have hd := Nat.div_add_mod n (2 ^ g)
    rw [hr, Nat.add_zero] at hd
    have : n / 2 ^ g ≠ 0 := fun h0 => by rw [h0, Nat.mul_zero] at hd; exact h hd.symm
    exact Nat.le_trans (Nat.pos_of_ne_zero this) (Nat.le_add_right _ _)
  · have : (n % 2 ^ g != 0) = true := by simpa using hr
    rw [this]
    exact Nat.le_add_left _ _

theorem read_abs {x : Nat} {s : Bool} {m : Nat} {e : Int} (h : Ieee.single.read x = .number s m e) : Ieee.single.read (x % 2147483648) = .number false m e := by
  unfold Format.read at h ⊢
  simp only [single_binade, single_inf, single_sw, single_least, Nat.mod_mod] at h ⊢
  have hd : x % 2147483648 / 2147483648 = 0 := Nat.div_eq_of_lt (Nat.mod_lt _ (by omega))
  rw [hd]
  by_cases c1 : x % 2147483648 < 8388608
  · rw [if_pos c1] at h ⊢
    injection h with h1 h2 h3
    rw [h2, h3]; rfl
  · rw [if_neg c1] at h ⊢
    by_cases c2 : x % 2147483648 < 2139095040
    · rw [if_pos c2] at h ⊢
      injection h with h1 h2 h3
      rw [h2, h3]; rfl
    · rw [if_neg c2] at h
      by_cases c3 : x % 2147483648 = 2139095040
      · rw [if_pos c3] at h; cases h
      · rw [if_neg c3] at h; cases h
theorem read_absI {x : Nat} {s : Bool} (h : Ieee.single.read x = .infinity s) : Ieee.single.read (x % 2147483648) = .infinity false := by
  unfold Format.read at h ⊢
  simp only [single_binade, single_inf, single_sw, single_least, Nat.mod_mod] at h ⊢
  have hd : x % 2147483648 / 2147483648 = 0 := Nat.div_eq_of_lt (Nat.mod_lt _ (by omega))
  rw [hd]
  by_cases c1 : x % 2147483648 < 8388608
  · rw [if_pos c1] at h; cases h
  · rw [if_neg c1] at h ⊢
    by_cases c2 : x % 2147483648 < 2139095040
    · rw [if_pos c2] at h; cases h
    · rw [if_neg c2] at h ⊢
      by_cases c3 : x % 2147483648 = 2139095040
      · rw [if_pos c3]; rfl
      · rw [if_neg c3] at h; cases h
theorem ord_num {x c : Nat} {s t : Bool} {m n : Nat} {e j : Int} (h : Ieee.single.read x = .number s m e) (hc : Ieee.single.read c = .number t n j) :
    FloatKind.f32.format.order x c = some (compare (signed s m (e - min e j).toNat) (signed t n (j - min e j).toNat)) := by
  unfold Format.order
  rw [show FloatKind.f32.format.read x = _ from h, show FloatKind.f32.format.read c = _ from hc]
  rfl
theorem leq_num {x c : Nat} {z y : Int} (h : FloatKind.f32.format.order x c = some (compare z y)) : fcmp .leq .f32 x c = decide (z ≤ y) := by
  rw [fcmp_def]; unfold fcmp0
  simp only [h]
  rcases Int.lt_trichotomy z y with q | q | q
  · rw [Int.compare_eq_lt.2 q]; simp; omega
  · subst q; simp
  · rw [Int.compare_eq_gt.2 q]; simp; omega
theorem geq_num {x c : Nat} {z y : Int} (h : FloatKind.f32.format.order x c = some (compare z y)) : fcmp .geq .f32 x c = decide (y ≤ z) := by
  rw [fcmp_def]; unfold fcmp0
  simp only [h]
  rcases Int.lt_trichotomy z y with q | q | q
  · rw [Int.compare_eq_lt.2 q]; simp; omega
  · subst q; simp
  · rw [Int.compare_eq_gt.2 q]; simp; omega
def nearB (x : Nat) : Bool := fcmp .geq .f32 x (cn .f32 3296329728) && fcmp .leq .f32 x (cn .f32 1148846080)
theorem near_num {x : Nat} {s : Bool} {m : Nat} {e : Int} (h : Ieee.single.read x = .number s m e) : nearB x = decide (m <<< (e - min e (-14)).toNat ≤ 16384000 <<< (-14 - min e (-14)).toNat) := by
  unfold nearB
  rw [cn_of_not (k := .f32) (b := 3296329728) (by decide), cn_of_not (k := .f32) (b := 1148846080) (by decide)]
  have r1 : Ieee.single.read 1148846080 = .number false 16384000 (-14) := by decide
  have r2 : Ieee.single.read 3296329728 = .number true 16384000 (-14) := by decide
  rw [geq_num (ord_num h r2), leq_num (ord_num h r1)]
  unfold signed
  generalize m <<< (e - min e (-14)).toNat = z
  generalize 16384000 <<< (-14 - min e (-14)).toNat = y
  rw [Bool.eq_iff_iff]
  simp only [Bool.and_eq_true, decide_eq_true_eq]
  cases s
  · show (-(y : Int) ≤ z ∧ (z : Int) ≤ y) ↔ z ≤ y
    omega
  · show (-(y : Int) ≤ -z ∧ -(z : Int) ≤ y) ↔ z ≤ y
    omega
/-- The program's test and the reference's. -/
theorem near_abs (x : Nat) : fcmp .leq .f32 (fabs x) (cn .f32 1148846080) = nearB x := by
  cases hr : Ieee.single.read x with
  | number s m e =>
    have hn : isNum .f32 x = true := by unfold isNum; rw [show FloatKind.f32.format.read x = _ from hr]
    have e1 : fabs x = x % 2147483648 := by unfold fabs; rw [isN_num hn]; rfl
    have r1 : Ieee.single.read 1148846080 = .number false 16384000 (-14) := by decide
    rw [near_num hr, e1, cn_of_not (k := .f32) (b := 1148846080) (by decide), leq_num (ord_num (read_abs hr) r1)]
    unfold signed
    generalize m <<< (e - min e (-14)).toNat = z
    generalize 16384000 <<< (-14 - min e (-14)).toNat = y
    rw [Bool.eq_iff_iff]
    simp only [decide_eq_true_eq]
    show ((z : Int) ≤ y) ↔ z ≤ y
    omega
  | infinity s =>
    have hN : isN .f32 x = false := by unfold isN FloatKind.decode; rw [show FloatKind.f32.format.read x = _ from hr]; rfl
    have e1 : fabs x = x % 2147483648 := by unfold fabs; rw [hN]; rfl
    have r1 : Ieee.single.read 1148846080 = .number false 16384000 (-14) := by decide
    have r2 : Ieee.single.read 3296329728 = .number true 16384000 (-14) := by decide
    have o1 : FloatKind.f32.format.order (x % 2147483648) 1148846080 = some .gt := by
      unfold Format.order
      rw [show FloatKind.f32.format.read (x % 2147483648) = .infinity false from read_absI hr, show FloatKind.f32.format.read 1148846080 = _ from r1]; rfl
    have o2 : ∀ c t n j, Ieee.single.read c = .number t n j → FloatKind.f32.format.order x c = some (if s then .lt else .gt) := fun c t n j hc => by
      unfold Format.order
      rw [show FloatKind.f32.format.read x = .infinity s from hr, show FloatKind.f32.format.read c = _ from hc]; rfl
    unfold nearB
    rw [e1, cn_of_not (k := .f32) (b := 3296329728) (by decide), cn_of_not (k := .f32) (b := 1148846080) (by decide)]
    rw [fcmp_def, fcmp_def, fcmp_def]; unfold fcmp0
    simp only [o1, o2 _ _ _ _ r1, o2 _ _ _ _ r2]
    cases s <;> rfl
  | nan s f =>
    have hN : isN .f32 x = true := by unfold isN FloatKind.decode; rw [show FloatKind.f32.format.read x = _ from hr]; rfl
    have e1 : fabs x = qn .f32 := by unfold fabs; rw [hN]; rfl
    have o1 : FloatKind.f32.format.order (qn .f32) 1148846080 = none := by decide
    have o2 : FloatKind.f32.format.order x 1148846080 = none := by
      unfold Format.order
      rw [show FloatKind.f32.format.read x = .nan s f from hr, order_nan_l]
    unfold nearB
    rw [e1, cn_of_not (k := .f32) (b := 1148846080) (by decide)]
    rw [fcmp_def .leq, fcmp_def .leq]; unfold fcmp0
    simp only [o1, o2]
    simp
theorem near_bound {x : Nat} {s : Bool} {m : Nat} {e : Int} (h : Ieee.single.read x = .number s m e) (hn : nearB x = true) : m * 2 ^ (e + 149).toNat ≤ 1000 * 2 ^ 149 := by
  rw [near_num h, decide_eq_true_eq, Nat.shiftLeft_eq, Nat.shiftLeft_eq] at hn
  have he := (read_num h).2.1
  have h2 := Nat.mul_le_mul_right (2 ^ (min e (-14) + 149).toNat) hn
  rw [Nat.mul_assoc, Nat.mul_assoc, ← Nat.pow_add, ← Nat.pow_add, show (e - min e (-14)).toNat + (min e (-14) + 149).toNat = (e + 149).toNat by omega, show (-14 - min e (-14)).toNat + (min e (-14) + 149).toNat = 135 by omega] at h2
  exact Nat.le_trans h2 (by decide)

theorem floor_near {x : Nat} (hx : x < 4294967296) (hn : nearB x = true) (h0 : x ≠ 2147483648) : ∃ s n, (s = true → 1 ≤ n) ∧ n ≤ 1001 ∧ ffl (fwide x) = Ieee.double.write (.number s n 0) := by
  cases hr : Ieee.single.read x with
  | infinity s =>
    exfalso
    rw [← near_abs] at hn
    have := read_absI hr
    have hN : isN .f32 x = false := by unfold isN FloatKind.decode; rw [show FloatKind.f32.format.read x = _ from hr]; rfl
    have e1 : fabs x = x % 2147483648 := by unfold fabs; rw [hN]; rfl
    have r1 : Ieee.single.read 1148846080 = .number false 16384000 (-14) := by decide
    have o1 : FloatKind.f32.format.order (x % 2147483648) 1148846080 = some .gt := by
      unfold Format.order
      rw [show FloatKind.f32.format.read (x % 2147483648) = .infinity false from this, show FloatKind.f32.format.read 1148846080 = _ from r1]; rfl
    rw [e1, cn_of_not (k := .f32) (b := 1148846080) (by decide), fcmp_def] at hn; unfold fcmp0 at hn
    simp only [o1] at hn
    cases hn
  | nan s f =>
    exfalso
    rw [← near_abs] at hn
    have hN : isN .f32 x = true := by unfold isN FloatKind.decode; rw [show FloatKind.f32.format.read x = _ from hr]; rfl
    have e1 : fabs x = qn .f32 := by unfold fabs; rw [hN]; rfl
    have o1 : FloatKind.f32.format.order (qn .f32) 1148846080 = none := by decide
    rw [e1, cn_of_not (k := .f32) (b := 1148846080) (by decide), fcmp_def] at hn; unfold fcmp0 at hn
    simp only [o1] at hn
    cases hn
  | number s m e =>
    have hb := near_bound hr hn
    obtain ⟨hm, h1, h2⟩ := single_read_range _ _ _ _ hr
    obtain ⟨hs, _, hw⟩ := read_num hr
    have ew : fwide x = Ieee.double.nearest s m e := by rw [fwide_def]; unfold fwide0; rw [hr]; rfl
    by_cases hm0 : m = 0
    · subst hm0
      have hz : x % 2147483648 = 0 := by rw [← hw]; rfl
      have hs0 : s = false := by
        cases hs' : s
        · rfl
        · rw [hs'] at hs
          have : x / 2147483648 % 2 = 1 := by simpa using hs.symm
          omega
      subst hs0
      refine ⟨false, 0, (fun h => nomatch h), by omega, ?_⟩
      rw [ffl_def, ew]; unfold ffl0
      have : Ieee.double.nearest false 0 e = 0 := rfl
      rw [this]; decide
    · have hl := log2_lt24 hm
      rw [ffl_def, ew]; unfold ffl0
      rw [wide_exact hm0 hm h1 h2]
      refine ⟨s, _, ?_, ?_, rfl⟩
      · intro hs'
        subst hs'
        refine cut_down_pos ?_
        rw [Nat.shiftLeft_eq, Nat.shiftLeft_eq]
        exact Nat.mul_ne_zero (Nat.mul_ne_zero hm0 (Nat.pos_iff_ne_zero.1 (Nat.two_pow_pos _))) (Nat.pos_iff_ne_zero.1 (Nat.two_pow_pos _))
      · refine cut_down_le (B := 1000) ?_ (by omega)
        rw [Nat.shiftLeft_eq, Nat.shiftLeft_eq]
        generalize ha : 52 - m.log2 = a
        have key := Nat.mul_le_mul_right (2 ^ (a + (-(e - (a : Nat))).toNat)) hb
        rw [Nat.mul_assoc, Nat.mul_assoc, ← Nat.pow_add, ← Nat.pow_add] at key
        have p1 : (e + 149).toNat + (a + (-(e - (a : Nat))).toNat) = (a + (e - (a : Nat)).toNat) + (a + 149) := by omega
        have p2 : 149 + (a + (-(e - (a : Nat))).toNat) = (-(e - (a : Nat))).toNat + (a + 149) := by omega
        rw [p1, p2, Nat.pow_add _ _ (a + 149), Nat.pow_add _ _ (a + 149), ← Nat.mul_assoc, ← Nat.mul_assoc] at key
        have := Nat.le_of_mul_le_mul_right key (Nat.two_pow_pos _)
        rw [Nat.mul_assoc, ← Nat.pow_add]
        exact this
/-- The greatest whole number not above a near number: every way to it is the same. -/
theorem floor_all {x : Nat} (hx : x < 4294967296) (hn : nearB x = true) (h0 : x ≠ 2147483648) :
    ∃ k : Int, -1001 ≤ k ∧ k ≤ 1001 ∧ floatToIntVal .f64 (ffl (fwide x)) .i64 = some k ∧ narrows (ffl (fwide x)) = true ∧ fnarrow (ffl (fwide x)) = fint .f32 k ∧ floatToIntVal .f32 (fnarrow (ffl (fwide x))) .i64 = some k := by
  obtain ⟨s, n, hs, hn, e⟩ := floor_near hx hn h0
  have t := List.all_eq_true.1 tabF n (List.mem_range.2 (by omega))
  have t2 : chkF s n = true := by
    simp only [Bool.and_eq_true] at t
    cases s
    · exact t.2
    · exact t.1
  unfold chkF at t2
  have hz : (s && n == 0) = false := by
    cases s
    · rfl
    · have := hs rfl
      have : n ≠ 0 := by omega
      simpa using this
  rw [hz, Bool.false_or] at t2
  simp only [Bool.and_eq_true, beq_iff_eq] at t2
  obtain ⟨t3, t4, t5, t6⟩ := t2
  rw [e, fnarrow_def]
  refine ⟨sgnI s n, ?_, ?_, t3, t4, by rw [fint_def]; exact t5, t6⟩ <;> (unfold sgnI; cases s <;> simp <;> omega)
theorem near_ne {s : Bool} {m : Nat} {p : Int} (hm : m ≠ 0) (hp : -149 ≤ p) : Ieee.single.nearest s m p ≠ 2147483648 := by
  unfold Format.nearest Format.word
  rw [if_neg hm, single_least, single_frac, single_inf, single_binade, single_sw]
  dsimp only
  generalize hL : max (p + (m.log2 : Int) - (23 : Nat)) (-149) = last
  cases s
  · rw [if_neg (by decide)]
    intro h
    have : min ((last - -149).toNat * 8388608 + Toward.even.cut false (m <<< (p - last).toNat) (last - p).toNat) 2139095040 ≤ 2139095040 := Nat.min_le_right _ _
    rw [h] at this
    exact absurd this (by decide)
  · rw [if_pos rfl]
    intro h
    have h0 : min ((last - -149).toNat * 8388608 + Toward.even.cut true (m <<< (p - last).toNat) (last - p).toNat) 2139095040 = 0 := by
      generalize min ((last - -149).toNat * 8388608 + Toward.even.cut true (m <<< (p - last).toNat) (last - p).toNat) 2139095040 = z at h
      omega
    have h1 : (last - -149).toNat * 8388608 + Toward.even.cut true (m <<< (p - last).toNat) (last - p).toNat = 0 := by
      rcases Nat.le_total ((last - -149).toNat * 8388608 + Toward.even.cut true (m <<< (p - last).toNat) (last - p).toNat) 2139095040 with q | q
      · rwa [Nat.min_eq_left q] at h0
      · rw [Nat.min_eq_right q] at h0; cases h0
    have h2 : (last - -149).toNat = 0 := by
      rcases Nat.eq_zero_or_pos (last - -149).toNat with q | q
      · exact q
      · have := Nat.mul_le_mul_right 8388608 q
        omega
    have h3 : Toward.even.cut true (m <<< (p - last).toNat) (last - p).toNat = 0 := by omega
    have h4 : (last - p).toNat = 0 := by omega
    rw [h4, cut_none, Nat.shiftLeft_eq] at h3
    exact Nat.mul_ne_zero hm (Nat.pos_iff_ne_zero.1 (Nat.two_pow_pos _)) h3
def chkI (n : Nat) : Bool := match Ieee.single.read (FloatKind.f32.nearest (n : Int)) with
  | .number false m e => decide (-149 ≤ e)
  | _ => false
theorem tabI : (List.range 257).all chkI = true := by decide +kernel
/-- A place on the sheet is never the negative nought. -/
theorem place_ne {n : Nat} (hn : n ≤ 256) (y : Nat) : fop .sub .f32 (fint .f32 (n : Int)) y ≠ 2147483648 := by
  have t := List.all_eq_true.1 tabI n (List.mem_range.2 (by omega))
  unfold chkI at t
  rw [fop_sub, fint_def]
  cases hr : Ieee.single.read (FloatKind.f32.nearest (n : Int)) with
  | nan s f => rw [hr] at t; cases s <;> cases t
  | infinity s => rw [hr] at t; cases s <;> cases t
  | number s m e =>
    cases s
    case true => rw [hr] at t; cases t
    rw [hr] at t
    replace t : -149 ≤ e := of_decide_eq_true t
    rw [show FloatKind.f32.format.read (FloatKind.f32.nearest (n : Int)) = _ from hr]
    cases hy : FloatKind.f32.format.read y with
    | nan s f =>
      rw [show Datum.opposite (.nan s f) = .nan (!s) f from rfl, sum_nan_r]
      show (2143289344 : Nat) ≠ 2147483648
      decide
    | infinity s =>
      show Ieee.single.write (.infinity (!s)) ≠ 2147483648
      cases s <;> decide
    | number s2 m2 e2 =>
      have he2 := (read_num (show Ieee.single.read y = _ from hy)).2.1
      simp only [Datum.opposite, Datum.sum]
      show Ieee.single.nearest _ _ _ ≠ _
      generalize signed false m (e - min e e2).toNat + signed (!s2) m2 (e2 - min e e2).toNat = total
      by_cases ht : total = 0
      · subst ht
        rw [if_pos rfl]
        show (0 : Nat) ≠ 2147483648
        decide
      · rw [if_neg ht]
        exact near_ne (by omega) (by omega)
theorem near_nn {x : Nat} (hn : nearB x = true) : isN .f32 x = false := by
  cases hN : isN .f32 x
  · rfl
  · exfalso
    rw [← near_abs] at hn
    have e1 : fabs x = qn .f32 := by unfold fabs; rw [hN]; rfl
    have o1 : FloatKind.f32.format.order (qn .f32) 1148846080 = none := by decide
    rw [e1, cn_of_not (k := .f32) (b := 1148846080) (by decide), fcmp_def] at hn; unfold fcmp0 at hn
    simp only [o1] at hn
    cases hn
end
end Go.AX
