/- A symbolic walk over the code of one function, and that it tells no more than the model does: no condition. -/
import Derived.Test.YtfhgggjpdimaoaaAxU
set_option linter.unusedVariables false
set_option linter.unusedSimpArgs false
namespace Go.AX
noncomputable section
open Ieee

/-! ## How great a 64-bit number may be -/

def Lb (x : Nat) (E : Int) : Prop := ∃ s m e, Ieee.double.read x = .number s m e ∧ (m = 0 ∨ (m.log2 : Int) + e ≤ E)
theorem Lb.mono {x : Nat} {E E' : Int} (h : Lb x E) (hE : E ≤ E') : Lb x E' := by
  obtain ⟨s, m, e, h1, h2⟩ := h
  exact ⟨s, m, e, h1, h2.imp id fun h => Int.le_trans h hE⟩
theorem Lb.narrows {x : Nat} {E : Int} (h : Lb x E) (hE : E ≤ 126) : narrows x = true := by
  obtain ⟨s, m, e, h1, h2⟩ := h
  exact narrows_log h1 (h2.imp id fun h => Int.le_trans h hE)

theorem log2_of {m : Nat} (h1 : 4503599627370496 ≤ m) (h2 : m < 9007199254740992) : m.log2 = 52 := by
  rw [Nat.log2_eq_iff (by omega)]; exact ⟨h1, h2⟩
theorem log2_le {r k : Nat} (h0 : r ≠ 0) (h : r ≤ 2 ^ k) : r.log2 ≤ k := by
  have := (Nat.log2_lt h0 (k := k + 1)).2 (Nat.lt_of_le_of_lt h (Nat.pow_lt_pow_right (by omega) (by omega)))
  omega

theorem nearest_lb {s : Bool} {m : Nat} {p L : Int} (hL : m = 0 ∨ (m.log2 : Int) + p ≤ L) (h0 : -1074 ≤ L + 1) (h1 : L ≤ 1000) : Lb (Ieee.double.nearest s m p) (L + 1) := by
  unfold Format.nearest
  dsimp only
  split
  · refine ⟨s, 0, -1074, ?_, .inl rfl⟩
    cases s <;> decide
  · rename_i hm0
    have hL := hL.resolve_left hm0
    generalize hLL : (m.log2 : Int) + p = L0 at hL
    rw [double_frac, double_least, double_binade, double_inf]
    generalize hlast : max (p + (m.log2 : Int) - (52 : Nat)) (-1074) = last
    have hm := Nat.lt_log2_self (n := m)
    obtain ⟨k, hk⟩ : ∃ k, k = (L0 + 1 - last).toNat := ⟨_, rfl⟩
    have hc : Toward.even.cut s (m <<< (p - last).toNat) (last - p).toNat ≤ 2 ^ k := by
      refine cut_lt ?_ (Nat.two_pow_pos _)
      rw [Nat.shiftLeft_eq]
      have h2 : m.log2 + 1 + (p - last).toNat ≤ k + (last - p).toNat := by omega
      calc m * 2 ^ (p - last).toNat < 2 ^ (m.log2 + 1) * 2 ^ (p - last).toNat := Nat.mul_lt_mul_of_pos_right hm (Nat.two_pow_pos _)
        _ = 2 ^ (m.log2 + 1 + (p - last).toNat) := (Nat.pow_add ..).symm
        _ ≤ 2 ^ (k + (last - p).toNat) := Nat.pow_le_pow_right (by omega) h2
        _ = 2 ^ k * 2 ^ (last - p).toNat := Nat.pow_add ..
    generalize Toward.even.cut s (m <<< (p - last).toNat) (last - p).toNat = cut at hc
    obtain ⟨q, hq⟩ : ∃ q, q = (last - -1074).toNat := ⟨_, rfl⟩
    rw [← hq]
    have hk53 : k ≤ 53 := by omega
    have hc53 : cut ≤ 9007199254740992 := Nat.le_trans hc (Nat.pow_le_pow_right (by omega) hk53)
    have hq2 : q ≤ 2022 := by omega
    have hr : q * 4503599627370496 + cut < 9218868437227405312 := by omega
    rw [Nat.min_eq_left (Nat.le_of_lt hr)]
    have hrd := F.read_word Ieee.double s (r := q * 4503599627370496 + cut) (by rw [double_sw]; omega)
    rw [double_binade, double_inf, double_least] at hrd
    by_cases hb : q * 4503599627370496 + cut < 4503599627370496
    · rw [if_pos hb] at hrd
      refine ⟨s, _, _, hrd, ?_⟩
      by_cases hr0 : q * 4503599627370496 + cut = 0
      · exact .inl hr0
      · right
        have hq0 : q = 0 := by omega
        subst hq0
        rw [Nat.zero_mul, Nat.zero_add] at hr0 ⊢
        have := log2_le hr0 hc
        omega
    · rw [if_neg hb, if_pos hr] at hrd
      refine ⟨s, _, _, hrd, .inr ?_⟩
      rw [log2_of (by omega) (by omega)]
      have h51 : (2 : Nat) ^ 51 = 2251799813685248 := by decide
      have h52 : (2 : Nat) ^ 52 = 4503599627370496 := by decide
      have hk3 : k ≤ 51 ∨ k = 52 ∨ k = 53 := by omega
      rcases hk3 with hk3 | hk3 | hk3
      · have := Nat.le_trans hc (Nat.pow_le_pow_right (by omega) hk3)
        rw [h51] at this
        omega
      · rw [hk3, h52] at hc
        omega
      · omega

theorem log2_mul_le {m n : Nat} (hm : m ≠ 0) (hn : n ≠ 0) : (m * n).log2 ≤ m.log2 + n.log2 + 1 := by
  have h1 := Nat.lt_log2_self (n := m)
  have h2 := Nat.lt_log2_self (n := n)
  have h3 : m * n < 2 ^ (m.log2 + n.log2 + 2) := by
    calc m * n < 2 ^ (m.log2 + 1) * 2 ^ (n.log2 + 1) := Nat.mul_lt_mul'' h1 h2
      _ = 2 ^ (m.log2 + 1 + (n.log2 + 1)) := (Nat.pow_add ..).symm
      _ = 2 ^ (m.log2 + n.log2 + 2) := by congr 1; omega
  have := (Nat.log2_lt (Nat.mul_ne_zero hm hn)).2 h3
  omega

theorem lb_mul {x y : Nat} {A B : Int} (hx : Lb x A) (hy : Lb y B) (h0 : -1076 ≤ A + B) (h1 : A + B ≤ 999) : Lb (fop .mul .f64 x y) (A + B + 2) := by
  obtain ⟨s, m, e, hx1, hx2⟩ := hx
  obtain ⟨t, n, j, hy1, hy2⟩ := hy
  rw [fop_mul, show FloatKind.f64.format.read x = _ from hx1, show FloatKind.f64.format.read y = _ from hy1]
  show Lb (Ieee.double.nearest (s ^^ t) (m * n) (e + j)) (A + B + 2)
  have := nearest_lb (s := s ^^ t) (m := m * n) (p := e + j) (L := A + B + 1) (by
    by_cases hm : m = 0
    · left; rw [hm, Nat.zero_mul]
    by_cases hn : n = 0
    · left; rw [hn, Nat.mul_zero]
    right
    have := log2_mul_le hm hn
    have := hx2.resolve_left hm
    have := hy2.resolve_left hn
    omega) (by omega) (by omega)
  exact this.mono (by omega)

theorem shl_lt {m : Nat} {e b A : Int} (hb : b ≤ e) (h : m = 0 ∨ (m.log2 : Int) + e ≤ A) : m <<< (e - b).toNat < 2 ^ (A + 1 - b).toNat ∨ m <<< (e - b).toNat = 0 := by
  by_cases hm : m = 0
  · right; rw [hm, Nat.zero_shiftLeft]
  · left
    have h := h.resolve_left hm
    have h1 := Nat.lt_log2_self (n := m)
    rw [Nat.shiftLeft_eq]
    calc m * 2 ^ (e - b).toNat < 2 ^ (m.log2 + 1) * 2 ^ (e - b).toNat := Nat.mul_lt_mul_of_pos_right h1 (Nat.two_pow_pos _)
      _ = 2 ^ (m.log2 + 1 + (e - b).toNat) := (Nat.pow_add ..).symm
      _ ≤ 2 ^ (A + 1 - b).toNat := Nat.pow_le_pow_right (by omega) (by omega)

theorem lb_sub {x y : Nat} {A : Int} (hx : Lb x A) (hy : Lb y A) (h0 : -1076 ≤ A) (h1 : A ≤ 999) : Lb (fop .sub .f64 x y) (A + 2) := by
  obtain ⟨s, m, e, hx1, hx2⟩ := hx
  obtain ⟨t, n, j, hy1, hy2⟩ := hy
  rw [fop_sub, show FloatKind.f64.format.read x = _ from hx1, show FloatKind.f64.format.read y = _ from hy1]
  simp only [Datum.opposite, Datum.sum]
  obtain ⟨b, hb⟩ : ∃ b, b = min e j := ⟨_, rfl⟩
  rw [← hb]
  have p1 := shl_lt (b := b) (by omega) hx2
  have p2 := shl_lt (b := b) (by omega) hy2
  generalize hM : m <<< (e - b).toNat = M at p1
  generalize hN : n <<< (j - b).toNat = N at p2
  have habs : (signed s m (e - b).toNat + signed (!t) n (j - b).toNat).natAbs ≤ M + N := by
    unfold signed
    rw [hM, hN]
    cases s <;> cases t <;> simp <;> omega
  generalize signed s m (e - b).toNat + signed (!t) n (j - b).toNat = T at habs
  generalize (if T = 0 then s && !t else decide (T < 0)) = sg
  show Lb (Ieee.double.nearest sg T.natAbs b) (A + 2)
  have := nearest_lb (s := sg) (m := T.natAbs) (p := b) (L := A + 1) (by
    by_cases hT : T.natAbs = 0
    · exact .inl hT
    right
    have hpos : 0 < 2 ^ (A + 1 - b).toNat := Nat.two_pow_pos _
    have hAb : 0 ≤ A + 1 - b := by
      by_cases hm : m = 0
      · by_cases hn : n = 0
        · exfalso
          rw [hm, Nat.zero_shiftLeft] at hM
          rw [hn, Nat.zero_shiftLeft] at hN
          omega
        · have := hy2.resolve_left hn; omega
      · have := hx2.resolve_left hm; omega
    have hlt : T.natAbs < 2 ^ ((A + 1 - b).toNat + 1) := by
      rw [Nat.pow_succ]; omega
    have := (Nat.log2_lt hT).2 hlt
    omega) (by omega) (by omega)
  exact this.mono (by omega)

/-- A number of 1 or above. -/
def Lg (y : Nat) : Prop := ∃ s n j, Ieee.double.read y = .number s n j ∧ n ≠ 0 ∧ 0 ≤ (n.log2 : Int) + j
theorem lb_quo {x y : Nat} {A : Int} (hx : Lb x A) (hy : Lg y) (h0 : -1075 ≤ A) (h1 : A ≤ 999) : Lb (fop .quo .f64 x y) (A + 1) := by
  obtain ⟨s, m, e, hx1, hx2⟩ := hx
  obtain ⟨t, n, j, hy1, hn, hy2⟩ := hy
  rw [fop_quo, show FloatKind.f64.format.read x = _ from hx1, show FloatKind.f64.format.read y = _ from hy1]
  have hfb : FloatKind.f64.format.fractionBits = 52 := rfl
  simp only [Datum.quotient]
  rw [if_neg hn, hfb]
  generalize hk : 52 + 2 + n.log2 - m.log2 = k
  generalize hq : 2 * (m <<< k / n) + (m <<< k % n != 0).toNat = q2
  show Lb (Ieee.double.nearest (s ^^ t) q2 (e - j - k - 1)) (A + 1)
  refine nearest_lb ?_ (by omega) (by omega)
  by_cases hm : m = 0
  · left
    subst hm
    rw [Nat.zero_shiftLeft, Nat.zero_div, Nat.zero_mod] at hq
    rw [← hq]; rfl
  by_cases h2 : q2 = 0
  · exact .inl h2
  right
  have hx2 := hx2.resolve_left hm
  have l1 := Nat.lt_log2_self (n := m)
  have l2 := Nat.log2_self_le hn
  have hd : m <<< k / n < 2 ^ (m.log2 + 1 + k - n.log2) := by
    rw [Nat.div_lt_iff_lt_mul (Nat.pos_of_ne_zero hn), Nat.shiftLeft_eq]
    have hle : n.log2 ≤ m.log2 + 1 + k := by omega
    calc m * 2 ^ k < 2 ^ (m.log2 + 1) * 2 ^ k := Nat.mul_lt_mul_of_pos_right l1 (Nat.two_pow_pos _)
      _ = 2 ^ (m.log2 + 1 + k) := (Nat.pow_add ..).symm
      _ = 2 ^ (m.log2 + 1 + k - n.log2) * 2 ^ n.log2 := by rw [← Nat.pow_add]; congr 1; omega
      _ ≤ 2 ^ (m.log2 + 1 + k - n.log2) * n := Nat.mul_le_mul_left _ l2
  have hb := Bool.toNat_le (m <<< k % n != 0)
  have hlt : q2 < 2 ^ (m.log2 + 1 + k - n.log2 + 1) := by
    rw [Nat.pow_succ]; omega
  have := (Nat.log2_lt h2).2 hlt
  omega
end
end Go.AX
