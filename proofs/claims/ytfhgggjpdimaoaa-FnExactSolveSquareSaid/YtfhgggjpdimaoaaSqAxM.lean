/- A symbolic walk over the code of one function, and that it tells no more than the model does: no condition. -/
import Derived.Test.YtfhgggjpdimaoaaSqAxL
set_option linter.unusedVariables false
set_option linter.unusedSimpArgs false
namespace Go.AX
noncomputable section
open Ieee

/-! ## Laws of floats -/

/-- The word of a result; without one, the NaN. -/
def wr (k : FloatKind) : Option Datum → Nat
  | some d => k.format.write d
  | none => qn k
theorem wr_eq (k : FloatKind) (o : Option Datum) : (o.map k.format.write).getD (qn k) = wr k o := by cases o <;> rfl
theorem fop_add (k : FloatKind) (x y : Nat) : fop .add k x y = wr k ((k.format.read x).sum (k.format.read y)) := by
  rw [fop_def, ← wr_eq]; rfl
theorem fop_sub (k : FloatKind) (x y : Nat) : fop .sub k x y = wr k ((k.format.read x).sum (k.format.read y).opposite) := by
  rw [fop_def, ← wr_eq]; rfl
theorem fop_mul (k : FloatKind) (x y : Nat) : fop .mul k x y = wr k ((k.format.read x).product (k.format.read y)) := by
  rw [fop_def, ← wr_eq]; rfl
theorem fop_quo (k : FloatKind) (x y : Nat) : fop .quo k x y = wr k ((k.format.read x).quotient (k.format.fractionBits + 2) (k.format.read y)) := by
  rw [fop_def, ← wr_eq]; rfl

/-- No infinity, no NaN. -/
def isNum (k : FloatKind) (b : Nat) : Bool := match k.format.read b with
  | .number .. => true
  | _ => false
theorem isNum_cn (k : FloatKind) (b : Nat) : isNum k (cn k b) = isNum k b := by
  unfold isNum
  rcases read_cn k b with h | ⟨_, s, f, s', f', h1, h2⟩
  · rw [h]
  · rw [h1, h2]
theorem isNum_nan {k : FloatKind} {b : Nat} (h : isN k b = true) : isNum k b = false := by
  obtain ⟨s, f, h⟩ := decode_nan h; unfold isNum; rw [h]
theorem isNum_qn (k : FloatKind) : isNum k (qn k) = false := isNum_nan (isN_qn k)
theorem binade_le (k : FloatKind) : k.format.binade ≤ k.format.infRung := by cases k <;> decide
theorem read_inf (k : FloatKind) (s : Bool) : k.format.read (k.format.write (.infinity s)) = .infinity s := by
  show k.format.read (k.format.word s k.format.infRung) = _
  rw [F.read_word _ _ (F.inf_lt _), if_neg (by have := binade_le k; omega), if_neg (by omega), if_pos rfl]
theorem isNum_inf (k : FloatKind) (s : Bool) : isNum k (wr k (some (.infinity s))) = false := by
  unfold isNum wr; rw [read_inf]
theorem isNum_none (k : FloatKind) : isNum k (wr k none) = false := isNum_qn k

theorem signed_zero (s : Bool) (m u : Nat) : signed s m u + signed (!s) m u = 0 := by
  cases s <;> simp [signed] <;> omega
theorem write_zero (f : Format) (p : Int) : f.write (.number false 0 p) = 0 := by
  show f.nearest false 0 p = 0
  unfold Format.nearest; rw [if_pos rfl]; rfl
/-- 'x - x == 0': a number. -/
theorem sub_self_num (k : FloatKind) (x : Nat) : fcmp .eql k (fop .sub k x x) (cn k 0) = isNum k x := by
  rw [fcmp_def, fop_sub]
  unfold fcmp0 isNum
  cases h : k.format.read x with
  | nan s f =>
    rw [sum_nan_l]
    show (k.format.order (qn k) (cn k 0) == some .eq) = false
    cases k <;> decide
  | infinity s =>
    have e : Datum.sum (.infinity s) (Datum.opposite (.infinity s)) = none := by cases s <;> rfl
    rw [e]
    show (k.format.order (qn k) (cn k 0) == some .eq) = false
    cases k <;> decide
  | number s m e =>
    have e' : Datum.sum (.number s m e) (Datum.opposite (.number s m e)) = some (.number false 0 (min e e)) := by
      simp only [Datum.opposite, Datum.sum, signed_zero]
      cases s <;> rfl
    rw [e']
    show (k.format.order (k.format.write (.number false 0 (min e e))) (cn k 0) == some .eq) = true
    rw [write_zero]
    cases k <;> decide

theorem num_sub_r {k : FloatKind} {x y : Nat} (h : isNum k y = false) : isNum k (fop .sub k x y) = false := by
  rw [fop_sub]
  unfold isNum at h
  cases hy : k.format.read y with
  | number => rw [hy] at h; cases h
  | nan s f => rw [show Datum.opposite (.nan s f) = .nan (!s) f from rfl, sum_nan_r]; exact isNum_none k
  | infinity s =>
    show isNum k (wr k (Datum.sum _ (.infinity (!s)))) = false
    cases hx : k.format.read x with
    | number t m e => exact isNum_inf k _
    | nan t f => rw [sum_nan_l]; exact isNum_none k
    | infinity t =>
      simp only [Datum.sum]
      split
      · exact isNum_inf k _
      · exact isNum_none k
theorem num_sub_l {k : FloatKind} {x y : Nat} (h : isNum k x = false) : isNum k (fop .sub k x y) = false := by
  rw [fop_sub]
  unfold isNum at h
  cases hx : k.format.read x with
  | number => rw [hx] at h; cases h
  | nan s f => rw [sum_nan_l]; exact isNum_none k
  | infinity s =>
    cases hy : k.format.read y with
    | number t m e => exact isNum_inf k _
    | nan t f => rw [show Datum.opposite (.nan t f) = .nan (!t) f from rfl, sum_nan_r]; exact isNum_none k
    | infinity t =>
      simp only [Datum.sum, Datum.opposite]
      split
      · exact isNum_inf k _
      · exact isNum_none k
theorem num_add_l {k : FloatKind} {x y : Nat} (h : isNum k x = false) : isNum k (fop .add k x y) = false := by
  rw [fop_add]
  unfold isNum at h
  cases hx : k.format.read x with
  | number => rw [hx] at h; cases h
  | nan s f => rw [sum_nan_l]; exact isNum_none k
  | infinity s =>
    cases hy : k.format.read y with
    | number t m e => exact isNum_inf k _
    | nan t f => rw [sum_nan_r]; exact isNum_none k
    | infinity t =>
      simp only [Datum.sum]
      split
      · exact isNum_inf k _
      · exact isNum_none k
theorem num_add_r {k : FloatKind} {x y : Nat} (h : isNum k y = false) : isNum k (fop .add k x y) = false := by
  rw [fop_add]
  unfold isNum at h
  cases hy : k.format.read y with
  | number => rw [hy] at h; cases h
  | nan s f => rw [sum_nan_r]; exact isNum_none k
  | infinity s =>
    cases hx : k.format.read x with
    | number t m e => exact isNum_inf k _
    | nan t f => rw [sum_nan_l]; exact isNum_none k
    | infinity t =>
      simp only [Datum.sum]
      split
      · exact isNum_inf k _
      · exact isNum_none k
theorem num_quo_l {k : FloatKind} {x y : Nat} (h : isNum k x = false) : isNum k (fop .quo k x y) = false := by
  rw [fop_quo]
  unfold isNum at h
  cases hx : k.format.read x with
  | number => rw [hx] at h; cases h
  | nan s f => rw [quotient_nan_l]; exact isNum_none k
  | infinity s =>
    cases hy : k.format.read y with
    | number t m e => exact isNum_inf k _
    | nan t f => rw [quotient_nan_r]; exact isNum_none k
    | infinity t => exact isNum_none k

/-- The sign turned. -/
theorem isNum_rung (k : FloatKind) (b c : Nat) (h : b % k.format.signWeight = c % k.format.signWeight) : isNum k b = isNum k c := by
  unfold isNum Format.read
  simp only [h]
  generalize c % k.format.signWeight = r
  by_cases h1 : r < k.format.binade
  · simp only [h1, if_true]
  · simp only [h1, if_false]
    by_cases h2 : r < k.format.infRung
    · simp only [h2, if_true]
    · simp only [h2, if_false]
      by_cases h3 : r = k.format.infRung
      · simp only [h3, if_true]
      · simp only [h3, if_false]
theorem isNum_neg (k : FloatKind) (x : Nat) : isNum k (fneg k x) = isNum k x := by
  rw [fneg_def]; unfold fneg0
  split
  · rename_i h; rw [isNum_qn, isNum_nan h]
  · exact isNum_rung k _ _ (by unfold Op.negFloat; exact xor_top_mod _ _)

/-! ### A number written with more digits -/

theorem cut_shift (neg : Bool) (m d a : Nat) (hm : m ≠ 0) : Toward.even.cut neg (m <<< a) (d + a) = Toward.even.cut neg m d := by
  have hl : (m <<< a).log2 = m.log2 + a := by
    rw [Nat.log2_eq_iff (by simp [hm]), Nat.shiftLeft_eq]
    have h1 := Nat.log2_self_le hm
    have h2 := Nat.lt_log2_self (n := m)
    constructor
    · rw [Nat.pow_add]; exact Nat.mul_le_mul_right _ h1
    · rw [show m.log2 + a + 1 = (m.log2 + 1) + a by omega, Nat.pow_add]; exact Nat.mul_lt_mul_of_pos_right h2 (Nat.two_pow_pos _)
  unfold Toward.cut
  simp only [hl]
  have hmin : min (d + a) (m.log2 + a + 2) = min d (m.log2 + 2) + a := by omega
  rw [hmin]
  generalize min d (m.log2 + 2) = g
  have hp : 0 < 2 ^ a := Nat.two_pow_pos _
  simp only [Nat.shiftLeft_eq, Nat.one_mul, Nat.pow_add]
  have e1 : m * 2 ^ a / (2 ^ g * 2 ^ a) = m / 2 ^ g := Nat.mul_div_mul_right _ _ hp
  have e2 : m * 2 ^ a % (2 ^ g * 2 ^ a) = m % 2 ^ g * 2 ^ a := Nat.mul_mod_mul_right _ _ _
  rw [e1, e2]
  have e3 : (2 ^ g * 2 ^ a < 2 * (m % 2 ^ g * 2 ^ a)) = (2 ^ g < 2 * (m % 2 ^ g)) := by
    rw [← Nat.mul_assoc]; exact propext (Nat.mul_lt_mul_right hp)
  have e4 : (2 ^ g * 2 ^ a == 2 * (m % 2 ^ g * 2 ^ a)) = (2 ^ g == 2 * (m % 2 ^ g)) := by
    rw [← Nat.mul_assoc, Bool.eq_iff_iff, beq_iff_eq, beq_iff_eq]
    exact ⟨fun h => Nat.eq_of_mul_eq_mul_right hp h, fun h => congrArg (· * 2 ^ a) h⟩
  simp only [e3, e4]

theorem nearest_shift (f : Format) (neg : Bool) (m : Nat) (p : Int) (a : Nat) : f.nearest neg (m <<< a) (p - a) = f.nearest neg m p := by
  by_cases hm : m = 0
  · subst hm; simp [Format.nearest]
  have hm' : m <<< a ≠ 0 := by simp [hm]
  have hl : (m <<< a).log2 = m.log2 + a := by
    rw [Nat.log2_eq_iff hm', Nat.shiftLeft_eq]
    have h1 := Nat.log2_self_le hm
    have h2 := Nat.lt_log2_self (n := m)
    constructor
    · rw [Nat.pow_add]; exact Nat.mul_le_mul_right _ h1
    · rw [show m.log2 + a + 1 = (m.log2 + 1) + a by omega, Nat.pow_add]; exact Nat.mul_lt_mul_of_pos_right h2 (Nat.two_pow_pos _)
  unfold Format.nearest
  rw [if_neg hm, if_neg hm', hl]
  have hlast : max (p - a + ((m.log2 + a : Nat) : Int) - f.fractionBits) f.leastPlace = max (p + (m.log2 : Int) - f.fractionBits) f.leastPlace := by
    congr 1; omega
  simp only [hlast]
  generalize max (p + (m.log2 : Int) - f.fractionBits) f.leastPlace = last
  have key : Toward.even.cut neg (m <<< a <<< (p - a - last).toNat) (last - (p - a)).toNat = Toward.even.cut neg (m <<< (p - last).toNat) (last - p).toNat := by
    rw [← Nat.shiftLeft_add]
    rcases Int.le_total last (p - a) with h1 | h1
    · rw [show a + (p - a - last).toNat = (p - last).toNat by omega, show (last - (p - a)).toNat = 0 by omega, show (last - p).toNat = 0 by omega]
    · rcases Int.le_total p last with h2 | h2
      · rw [show (p - a - last).toNat = 0 by omega, show (p - last).toNat = 0 by omega, show (last - (p - a)).toNat = (last - p).toNat + a by omega]
        exact cut_shift neg m _ a hm
      · rw [show (p - a - last).toNat = 0 by omega, show (last - p).toNat = 0 by omega]
        have e : a = (p - last).toNat + (last - (p - a)).toNat := by omega
        rw [Nat.add_zero]
        conv => lhs; arg 3; rw [e, Nat.shiftLeft_add]
        have := cut_shift neg (m <<< (p - last).toNat) 0 (last - (p - a)).toNat (by simp [hm])
        rw [Nat.zero_add] at this
        exact this
  rw [key]

/-- Half of a number by a product, and by a quotient. -/
theorem half_eq (x : Nat) : fop .mul .f32 0x3f000000 x = fop .quo .f32 x 0x40000000 := by
  rw [fop_mul, fop_quo]
  have r1 : FloatKind.f32.format.read 0x3f000000 = .number false 8388608 (-24) := by decide
  have r2 : FloatKind.f32.format.read 0x40000000 = .number false 8388608 (-22) := by decide
  rw [r1, r2]
  cases hx : FloatKind.f32.format.read x with
  | nan s f => rw [product_nan_r, quotient_nan_l]
  | infinity s => cases s <;> rfl
  | number s m e =>
    have hm := (single_read_range x s m e hx).1
    have hl := log2_lt24 hm
    simp only [Datum.product, Datum.quotient]
    rw [if_neg (by decide)]
    have hfb : FloatKind.f32.format.fractionBits = 23 := rfl
    have hlg : Nat.log2 8388608 = 23 := by decide
    rw [hfb, hlg]
    obtain ⟨q, hq⟩ : ∃ q, 23 + 2 + 23 - m.log2 = 23 + q := ⟨25 - m.log2, by omega⟩
    rw [hq]
    have e1 : m <<< (23 + q) = (m <<< q) * 8388608 := by
      rw [Nat.add_comm, Nat.shiftLeft_add, Nat.shiftLeft_eq (m <<< q) 23]
    have e2 : (m <<< (23 + q)) / 8388608 = m <<< q := by rw [e1, Nat.mul_div_cancel _ (by decide)]
    have e3 : ((m <<< (23 + q)) % 8388608 != 0) = false := by rw [e1, Nat.mul_mod_left]; rfl
    rw [e2, e3]
    show FloatKind.f32.format.nearest _ _ _ = FloatKind.f32.format.nearest _ _ _
    have e4 : 8388608 * m = m <<< 23 := by rw [Nat.shiftLeft_eq]; omega
    have e5 : 2 * (m <<< q) + false.toNat = m <<< (q + 1) := by rw [Nat.shiftLeft_succ]; simp
    rw [e4, e5]
    have n1 := nearest_shift FloatKind.f32.format s m (e - 1) 23
    have n2 := nearest_shift FloatKind.f32.format s m (e - 1) (q + 1)
    have p1 : (-24 : Int) + e = e - 1 - (23 : Nat) := by omega
    have p2 : e - (-22) - ((23 + q : Nat) : Int) - 1 = e - 1 - ((q + 1 : Nat) : Int) := by omega
    have p3 : (false ^^ s) = s := by cases s <;> rfl
    have p4 : (s ^^ false) = s := by cases s <;> rfl
    rw [p1, p2, p3, p4, n1, n2]
end
end Go.AX
