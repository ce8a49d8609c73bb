/- A symbolic walk over the code of one function, and that it tells no more than the model does: no condition. -/
import Derived.Test.YtfhgggjpdimaoaaSqAxM
set_option linter.unusedVariables false
set_option linter.unusedSimpArgs false
namespace Go.AX
noncomputable section
open Ieee
set_option maxRecDepth 100000

/-! ## The value without its sign -/

theorem cut_none (neg : Bool) (n : Nat) : Toward.even.cut neg n 0 = n := by
  unfold Toward.cut
  simp [Nat.mod_one]
theorem single_binade : Ieee.single.binade = 8388608 := id rfl
theorem single_inf : Ieee.single.infRung = 2139095040 := id rfl
theorem single_sw : Ieee.single.signWeight = 2147483648 := id rfl
theorem single_least : Ieee.single.leastPlace = -149 := id rfl
theorem single_frac : Ieee.single.fractionBits = 23 := id rfl
theorem near_sub {r : Nat} (h : r < 8388608) : Ieee.single.nearest false r (-149) = r := by
  unfold Format.nearest Format.word
  rw [single_least, single_frac, single_inf, single_binade]
  by_cases h0 : r = 0
  · rw [if_pos h0, h0]; rfl
  · rw [if_neg h0]
    have hl : r.log2 < 23 := (Nat.log2_lt h0).2 h
    have e : max ((-149 : Int) + (r.log2 : Int) - (23 : Nat)) (-149) = -149 := by omega
    simp only [e]
    simp [cut_none]
    omega
theorem near_norm {q m : Nat} (hm : m < 8388608) (hq : 1 ≤ q) (hr : q * 8388608 + m < 2139095040) : Ieee.single.nearest false (8388608 + m) (-149 + (q - 1 : Nat)) = q * 8388608 + m := by
  unfold Format.nearest Format.word
  rw [single_least, single_frac, single_inf, single_binade]
  have h0 : 8388608 + m ≠ 0 := by omega
  rw [if_neg h0]
  have hl : (8388608 + m).log2 = 23 := by
    rw [Nat.log2_eq_iff h0]; omega
  have e : max ((-149 : Int) + (q - 1 : Nat) + ((8388608 + m).log2 : Int) - (23 : Nat)) (-149) = -149 + (q - 1 : Nat) := by rw [hl]; omega
  simp only [e]
  have e1 : ((-149 : Int) + (q - 1 : Nat) - (-149 + (q - 1 : Nat))).toNat = 0 := by omega
  have e2 : ((-149 : Int) + (q - 1 : Nat) - -149).toNat = q - 1 := by omega
  simp only [e1, e2, Nat.shiftLeft_zero, cut_none]
  simp
  omega
/-- What a number's word says. -/
theorem read_num {x : Nat} {s : Bool} {m : Nat} {e : Int} (h : Ieee.single.read x = .number s m e) : s = (x / 2147483648 % 2 == 1) ∧ (-149 ≤ e) ∧ Ieee.single.nearest false m e = x % 2147483648 := by
  unfold Format.read at h
  simp only [single_binade, single_inf, single_sw, single_least] at h
  by_cases c1 : x % 2147483648 < 8388608
  · rw [if_pos c1] at h
    injection h with h1 h2 h3
    subst h2; subst h3
    exact ⟨h1.symm, by omega, near_sub (by omega)⟩
  · rw [if_neg c1] at h
    by_cases c2 : x % 2147483648 < 2139095040
    · rw [if_pos c2] at h
      injection h with h1 h2 h3
      subst h2; subst h3
      refine ⟨h1.symm, by omega, ?_⟩
      rw [near_norm (Nat.mod_lt _ (by omega)) (by omega) (by omega)]
      omega
    · rw [if_neg c2] at h
      by_cases c3 : x % 2147483648 = 2139095040
      · rw [if_pos c3] at h; cases h
      · rw [if_neg c3] at h; cases h

def fabs (x : Nat) : Nat := bif isN .f32 x then qn .f32 else x % 2147483648
def absv (x : Nat) : Nat := bif fcmp .leq .f32 x (cn .f32 0) then fop .sub .f32 (cn .f32 0) x else x
theorem isN_mod (b : Nat) : isN .f32 (b % 2147483648) = isN .f32 b := by
  unfold isN FloatKind.decode Format.read
  have e : b % 2147483648 % FloatKind.f32.format.signWeight = b % FloatKind.f32.format.signWeight := Nat.mod_mod _ _
  simp only [e]
  generalize b % FloatKind.f32.format.signWeight = r
  by_cases h1 : r < FloatKind.f32.format.binade
  · simp only [h1, if_true]; rfl
  · simp only [h1, if_false]
    by_cases h2 : r < FloatKind.f32.format.infRung
    · simp only [h2, if_true]; rfl
    · simp only [h2, if_false]
      by_cases h3 : r = FloatKind.f32.format.infRung
      · simp only [h3, if_true]; rfl
      · simp only [h3, if_false]; rfl
theorem IsF.abs {x b : Nat} (h : IsF .f32 x b) : IsF .f32 (fabs x) (b % 2147483648) := by
  have hl : b % 2147483648 < 2 ^ wd .f32 := by
    have : b % 2147483648 < 2147483648 := Nat.mod_lt _ (by omega)
    show _ < 2 ^ 32
    omega
  have hx := h.1
  cases hb : isN .f32 b
  · rw [cn_of_not hb] at hx
    subst hx
    unfold fabs
    rw [hb]
    exact isF_of_not (r := b % 2147483648) (by rw [isN_mod, hb]) hl
  · rw [cn_of hb] at hx
    subst hx
    unfold fabs
    rw [isN_qn]
    exact isF_nan (by rw [isN_mod, hb]) hl
theorem isNum_fabs (x : Nat) : isNum .f32 (fabs x) = isNum .f32 x := by
  unfold fabs
  cases h : isN .f32 x
  · exact isNum_rung .f32 _ _ (Nat.mod_mod _ _)
  · rw [cond_true, isNum_qn, isNum_nan h]
theorem isN_num {x : Nat} (h : isNum .f32 x = true) : isN .f32 x = false := by
  cases hn : isN .f32 x
  · rfl
  · rw [isNum_nan hn] at h; cases h
theorem absv_num {x : Nat} (hx : x < 4294967296) (hn : isNum .f32 x = true) : absv x = fabs x := by
  have hN := isN_num hn
  unfold absv fabs
  rw [hN, cond_false, cn_of_not (k := .f32) (b := 0) (by decide)]
  unfold isNum at hn
  have r0 : Ieee.single.read 0 = .number false 0 (-149) := by decide
  cases hr : FloatKind.f32.format.read x with
  | nan s f => rw [hr] at hn; cases hn
  | infinity s => rw [hr] at hn; cases hn
  | number s m e =>
    obtain ⟨hs, he, hw⟩ := read_num hr
    have hmin : min e (-149) = -149 := by omega
    have hmin2 : min (-149) e = -149 := by omega
    have ord : FloatKind.f32.format.order x 0 = some (compare (signed s m (e - -149).toNat) 0) := by
      unfold Format.order
      rw [hr, show FloatKind.f32.format.read 0 = .number false 0 (-149) from r0]
      simp only [Datum.order, hmin]
      simp [signed]
    have hc : fcmp .leq .f32 x 0 = decide (signed s m (e - -149).toNat ≤ 0) := by
      rw [fcmp_def]; unfold fcmp0
      simp only [ord]
      generalize signed s m (e - -149).toNat = z
      rcases Int.lt_trichotomy z 0 with h | h | h
      · rw [Int.compare_eq_lt.2 h]; simp; omega
      · subst h; simp
      · rw [Int.compare_eq_gt.2 h]; simp; omega
    rw [hc]
    have key : Ieee.single.nearest false (m <<< (e - -149).toNat) (-149) = x % 2147483648 := by
      rw [← hw]
      have := nearest_shift Ieee.single false m e (e - -149).toNat
      rw [show e - (((e - -149).toNat : Nat) : Int) = -149 by omega] at this
      exact this
    by_cases hle : signed s m (e - -149).toNat ≤ 0
    · rw [decide_eq_true hle, cond_true, fop_sub, hr, show FloatKind.f32.format.read 0 = .number false 0 (-149) from r0]
      simp only [Datum.opposite, Datum.sum, hmin2]
      show Ieee.single.nearest _ _ _ = _
      generalize (e - -149).toNat = k at hle key ⊢
      have e1 : signed false 0 ((-149 : Int) - -149).toNat = 0 := by simp [signed]
      have e2 : signed (!s) m k = ((m <<< k : Nat) : Int) := by
        unfold signed at hle ⊢
        generalize m <<< k = z at hle ⊢
        cases s
        · replace hle : (z : Int) ≤ 0 := hle
          show -(z : Int) = z
          omega
        · rfl
      rw [e1, e2, Int.zero_add, Int.natAbs_natCast]
      rw [show (if ((m <<< k : Nat) : Int) = 0 then (false && !s) else decide (((m <<< k : Nat) : Int) < 0)) = false by
        generalize m <<< k = z
        split
        · rfl
        · exact decide_eq_false (by omega)]
      exact key
    · rw [decide_eq_false hle, cond_false]
      cases hs' : s
      · subst hs'
        have : ¬ (x / 2147483648 % 2 = 1) := by
          intro h; rw [h] at hs; cases hs
        omega
      · subst hs'
        exfalso
        apply hle
        unfold signed
        generalize m <<< (e - -149).toNat = z
        show -(z : Int) ≤ 0
        omega
theorem isNum_absv {x : Nat} (hx : x < 4294967296) : isNum .f32 (absv x) = isNum .f32 x := by
  cases h : isNum .f32 x
  · unfold absv
    cases fcmp .leq .f32 x (cn .f32 0)
    · exact h
    · exact num_sub_r h
  · rw [absv_num hx h, isNum_fabs, h]
theorem fop_lt (op : BinOp) (x y : Nat) (hop : op = .add ∨ op = .sub ∨ op = .mul ∨ op = .quo) : fop op .f32 x y < 4294967296 := by
  have hw : ∀ o, wr .f32 o < 4294967296 := fun o => by
    cases o with
    | none => show 2143289344 < 4294967296; omega
    | some d => exact Format.write_lt Ieee.single d
  rcases hop with rfl | rfl | rfl | rfl
  · rw [fop_add]; exact hw _
  · rw [fop_sub]; exact hw _
  · rw [fop_mul]; exact hw _
  · rw [fop_quo]; exact hw _
theorem gtr_zero {x : Nat} (hx : x < 2147483648) (hn : isNum .f32 x = true) (h : fcmp .gtr .f32 x 0 = false) : x = 0 := by
  unfold isNum at hn
  have r0 : Ieee.single.read 0 = .number false 0 (-149) := by decide
  cases hr : FloatKind.f32.format.read x with
  | nan s f => rw [hr] at hn; cases hn
  | infinity s => rw [hr] at hn; cases hn
  | number s m e =>
    obtain ⟨hs, he, hw⟩ := read_num hr
    have hmin : min e (-149) = -149 := by omega
    have hs' : s = false := by
      rw [hs]
      have : x / 2147483648 = 0 := Nat.div_eq_of_lt hx
      rw [this]; rfl
    subst hs'
    have ord : FloatKind.f32.format.order x 0 = some (compare (signed false m (e - -149).toNat) 0) := by
      unfold Format.order
      rw [hr, show FloatKind.f32.format.read 0 = .number false 0 (-149) from r0]
      simp only [Datum.order, hmin]
      simp [signed]
    rw [fcmp_def] at h; unfold fcmp0 at h
    simp only [ord] at h
    have hz : ¬ ((m <<< (e - -149).toNat : Nat) : Int) > 0 := fun hgt => by
      have : compare (signed false m (e - -149).toNat) 0 = .gt := Int.compare_eq_gt.2 hgt
      rw [this] at h; cases h
    have hm : m = 0 := by
      have h1 : m <<< (e - -149).toNat = 0 := by
        generalize m <<< (e - -149).toNat = z at hz ⊢
        omega
      rw [Nat.shiftLeft_eq] at h1
      exact (Nat.mul_eq_zero.1 h1).resolve_right (Nat.pos_iff_ne_zero.1 (Nat.two_pow_pos _))
    rw [hm, Nat.mod_eq_of_lt hx] at hw
    rw [← hw]; rfl
end
end Go.AX
