/- A symbolic walk over the code of one function, and that it tells no more than the model does: no condition. -/
import Derived.Test.YtfhgggjpdimaoaaSqAxR
set_option linter.unusedVariables false
set_option linter.unusedSimpArgs false
namespace Go.AX
noncomputable section
open Ieee

/-! ## What can be narrowed -/

theorem cut_lt {s : Bool} {n d B : Nat} (h : n < B * 2 ^ d) (hB : 0 < B) : Toward.even.cut s n d ≤ B := by
  unfold Toward.cut
  simp only [Nat.shiftLeft_eq, Nat.one_mul]
  have hlow : n / 2 ^ min d (n.log2 + 2) < B := by
    by_cases hd : d ≤ n.log2 + 2
    · rw [Nat.min_eq_left hd]
      exact (Nat.div_lt_iff_lt_mul (Nat.two_pow_pos _)).2 h
    · rw [Nat.min_eq_right (by omega)]
      have h2 := Nat.lt_log2_self (n := n)
      have : n < 2 ^ (n.log2 + 2) := Nat.lt_of_lt_of_le h2 (Nat.pow_le_pow_right (by omega) (by omega))
      rw [Nat.div_eq_of_lt this]; exact hB
  generalize n / 2 ^ min d (n.log2 + 2) = low at *
  generalize (decide (2 ^ min d (n.log2 + 2) < 2 * (n % 2 ^ min d (n.log2 + 2))) || 2 ^ min d (n.log2 + 2) == 2 * (n % 2 ^ min d (n.log2 + 2)) && low % 2 == 1) = b
  have := Bool.toNat_le b
  omega

theorem single_fin {s : Bool} {m : Nat} {e : Int} (h : m = 0 ∨ (m.log2 : Int) + e ≤ 126) : (Ieee.single.read (Ieee.single.nearest s m e)).isInfinity = false := by
  have key : ∀ r, r < 2139095040 → (Ieee.single.read (Ieee.single.word s r)).isInfinity = false := by
    intro r hr
    rw [F.read_word _ _ (by rw [single_sw]; omega), single_inf]
    repeat' split
    all_goals first | rfl | omega
  unfold Format.nearest
  dsimp only
  split
  · exact key 0 (by omega)
  · rename_i h0
    have hl : (m.log2 : Int) + e ≤ 126 := h.resolve_left h0
    rw [single_frac, single_least, single_binade, single_inf]
    generalize hL : max (e + (m.log2 : Int) - (23 : Nat)) (-149) = last
    have hm := Nat.lt_log2_self (n := m)
    have hc : Toward.even.cut s (m <<< (e - last).toNat) (last - e).toNat ≤ 16777216 := by
      refine cut_lt ?_ (by omega)
      rw [Nat.shiftLeft_eq]
      have h2 : m.log2 + 1 + (e - last).toNat ≤ 24 + (last - e).toNat := by omega
      calc m * 2 ^ (e - last).toNat < 2 ^ (m.log2 + 1) * 2 ^ (e - last).toNat := Nat.mul_lt_mul_of_pos_right hm (Nat.two_pow_pos _)
        _ = 2 ^ (m.log2 + 1 + (e - last).toNat) := (Nat.pow_add ..).symm
        _ ≤ 2 ^ (24 + (last - e).toNat) := Nat.pow_le_pow_right (by omega) h2
        _ = 16777216 * 2 ^ (last - e).toNat := by rw [Nat.pow_add]
    apply key
    refine Nat.lt_of_le_of_lt (Nat.min_le_left ..) ?_
    have hq : (last - (-149)).toNat ≤ 252 := by omega
    omega

theorem narrows_log {x : Nat} {s : Bool} {m : Nat} {e : Int} (h : Ieee.double.read x = .number s m e) (hl : m = 0 ∨ (m.log2 : Int) + e ≤ 126) : narrows x = true := by
  unfold narrows
  rw [h]
  show (!(Ieee.single.read (Ieee.single.nearest s m e)).isInfinity) = true
  rw [single_fin hl]; rfl

theorem double_exact {s : Bool} {m : Nat} {e : Int} (hm0 : m ≠ 0) (hl : m.log2 ≤ 52) (h1 : -149 ≤ e) (h2 : e ≤ 104) :
    Ieee.double.read (Ieee.double.nearest s m e) = .number s (m <<< (52 - m.log2)) (e - (52 - m.log2 : Nat)) := by
  obtain ⟨k1, k2⟩ := kept_range hm0 (by omega)
  unfold Format.nearest
  rw [if_neg hm0]
  have hlast : max (e + (m.log2 : Int) - (Ieee.double.fractionBits : Nat)) Ieee.double.leastPlace = e - (52 - m.log2 : Nat) := by
    rw [double_frac, double_least]; omega
  simp only [hlast]
  have t1 : (e - (e - (52 - m.log2 : Nat))).toNat = 52 - m.log2 := by omega
  have t2 : ((e - (52 - m.log2 : Nat)) - e).toNat = 0 := by omega
  rw [t1, t2, cut_none, double_least, double_inf, double_binade]
  generalize hK : m <<< (52 - m.log2) = K at k1 k2 ⊢
  obtain ⟨Q, hQ⟩ : ∃ Q : Nat, (e - (52 - m.log2 : Nat) - -1074).toNat = Q ∧ (Q : Int) = e - (52 - m.log2 : Nat) + 1074 ∧ Q ≤ 1200 := ⟨_, rfl, by omega, by omega⟩
  rw [hQ.1]
  have hlt := ar1 hQ.2.2 k2
  rw [Nat.min_eq_left (Nat.le_of_lt hlt), F.read_word _ _ (r := Q * 4503599627370496 + K) (by rw [double_sw]; exact Nat.lt_trans hlt (by decide)), double_binade, double_inf, double_least]
  rw [if_neg (ar4 k1), if_pos hlt, ar2 k1 k2, ar3 k1 k2]
  rw [show (-1074 : Int) + (Q : Int) = e - (52 - m.log2 : Nat) by rw [hQ.2.1]; omega]

theorem log2_shift {m a : Nat} (hm : m ≠ 0) : (m <<< a).log2 = m.log2 + a := by
  rw [Nat.log2_eq_iff (by simp [hm]), Nat.shiftLeft_eq]
  have h1 := Nat.log2_self_le hm
  have h2 := Nat.lt_log2_self (n := m)
  constructor
  · rw [Nat.pow_add]; exact Nat.mul_le_mul_right _ h1
  · rw [show m.log2 + a + 1 = (m.log2 + 1) + a by omega, Nat.pow_add]; exact Nat.mul_lt_mul_of_pos_right h2 (Nat.two_pow_pos _)

theorem nearest_narrows {s : Bool} {m : Nat} {e : Int} (hl : m.log2 ≤ 52) (h1 : -149 ≤ e) (h2 : e ≤ 104) (h3 : (m.log2 : Int) + e ≤ 126) : narrows (Ieee.double.nearest s m e) = true := by
  by_cases hm : m = 0
  · subst hm
    have e0 : Ieee.double.nearest s 0 e = Ieee.double.word s 0 := by unfold Format.nearest; rw [if_pos rfl]
    rw [e0]
    cases s <;> decide
  · refine narrows_log (double_exact hm hl h1 h2) (.inr ?_)
    rw [log2_shift hm]; omega

theorem fint_narrows {n : Int} (h0 : -1073741824 ≤ n) (h1 : n ≤ 1073741824) : narrows (fint .f64 n) = true := by
  rw [fint_def]
  unfold FloatKind.nearest FloatKind.encode
  show narrows (Ieee.double.nearest _ _ _) = true
  have : n.natAbs.log2 ≤ 30 := by
    by_cases hz : n.natAbs = 0
    · rw [hz]; decide
    · have := (Nat.log2_lt hz (k := 31)).2 (by omega); omega
  exact nearest_narrows (by omega) (by omega) (by omega) (by omega)
end
end Go.AX
