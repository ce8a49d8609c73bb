/- A symbolic walk over the code of one function, and that it tells no more than the model does: no condition. -/
import Derived.Test.YtfhgggjpdimaoaaAxY2
import Derived.Test.YtfhgggjpdimaoaaAxY3
set_option linter.unusedVariables false
set_option linter.unusedSimpArgs false
namespace Go.AX
theorem tabPh {k c : Nat} (hk : k < c) (hc : c ≤ 48) : chkPh k c = true := by
  by_cases h0 : c < 17
  · have := List.all_eq_true.1 (List.all_eq_true.1 tabPh0 (c - 0) (List.mem_range.2 (by omega))) k (List.mem_range.2 (by omega))
    rwa [show c - 0 + 0 = c by omega] at this
  by_cases h1 : c < 25
  · have := List.all_eq_true.1 (List.all_eq_true.1 tabPh1 (c - 17) (List.mem_range.2 (by omega))) k (List.mem_range.2 (by omega))
    rwa [show c - 17 + 17 = c by omega] at this
  by_cases h2 : c < 31
  · have := List.all_eq_true.1 (List.all_eq_true.1 tabPh2 (c - 25) (List.mem_range.2 (by omega))) k (List.mem_range.2 (by omega))
    rwa [show c - 25 + 25 = c by omega] at this
  by_cases h3 : c < 36
  · have := List.all_eq_true.1 (List.all_eq_true.1 tabPh3 (c - 31) (List.mem_range.2 (by omega))) k (List.mem_range.2 (by omega))
    rwa [show c - 31 + 31 = c by omega] at this
  by_cases h4 : c < 40
  · have := List.all_eq_true.1 (List.all_eq_true.1 tabPh4 (c - 36) (List.mem_range.2 (by omega))) k (List.mem_range.2 (by omega))
    rwa [show c - 36 + 36 = c by omega] at this
  by_cases h5 : c < 43
  · have := List.all_eq_true.1 (List.all_eq_true.1 tabPh5 (c - 40) (List.mem_range.2 (by omega))) k (List.mem_range.2 (by omega))
    rwa [show c - 40 + 40 = c by omega] at this
  by_cases h6 : c < 46
  · have := List.all_eq_true.1 (List.all_eq_true.1 tabPh6 (c - 43) (List.mem_range.2 (by omega))) k (List.mem_range.2 (by omega))
    rwa [show c - 43 + 43 = c by omega] at this
  have := List.all_eq_true.1 (List.all_eq_true.1 tabPh7 (c - 46) (List.mem_range.2 (by omega))) k (List.mem_range.2 (by omega))
  rwa [show c - 46 + 46 = c by omega] at this
/-! ## What it says of the sealed operations -/

noncomputable section
theorem fop_eq0 (op : BinOp) (k : FloatKind) (x y : Nat) : fop op k x y = fop0 op k x y := fop_def ..
theorem fcmp_eq0 (op : BinOp) (k : FloatKind) (x y : Nat) : fcmp op k x y = fcmp0 op k x y := fcmp_def ..
@[irreducible] def ftr : Nat → Nat := shutV ftr0
theorem ftr_def (y : Nat) : ftr y = ftr0 y := by unfold ftr; rw [shutV_eq]
abbrev k25 : Nat := cn .f64 K25
abbrev k50 : Nat := cn .f64 K50
abbrev z64 : Nat := cn .f64 0
theorem k25_eq : k25 = K25 := cn_of_not (by decide)
theorem k50_eq : k50 = K50 := cn_of_not (by decide)
theorem z64_eq : z64 = 0 := cn_of_not (by decide)
theorem kB_eq : cn .f64 KB = KB := cn_of_not (by decide)
theorem kN_eq : cn .f64 KN = KN := cn_of_not (by decide)

/-- A part of a turn, from 0 to 1. -/
structure PartOK (y : Nat) : Prop where
  nn : isN .f64 y = false
  lt : y < 9223372036854775808
  i0 : floatToIntVal .f64 y .i64 = some 0
  fz : fop .sub .f64 y (fint .f64 (ftoi .f64 y .i64)) = y
  ng : fcmp .lss .f64 y z64 = false
  tr : fcmp .neq .f64 (ftr y) z64 = false
  fi : fcmp .neq .f64 (fop .sub .f64 y y) z64 = false
  ge : fcmp .geq .f64 y (cn .f64 KB) = false
  le : fcmp .leq .f64 y (cn .f64 KN) = false
/-- .. up to a quarter. -/
structure SinOK (y : Nat) : Prop extends PartOK y where
  h5 : fcmp .geq .f64 y k50 = false
  h2 : fcmp .gtr .f64 y k25 = false
  lb : Lb y (-2)
theorem partOK {y : Nat} (h : okP0 y = true) : PartOK y := by
  unfold okP0 at h
  simp only [Bool.and_eq_true, Bool.not_eq_true', decide_eq_true_eq, beq_iff_eq] at h
  obtain ⟨a0, a2, a3, a4, a5, a6, a8, a9⟩ := h
  have a1 : isN .f64 y = false := by
    cases hn : isN .f64 y
    · rfl
    · rw [isNum_nan hn] at a0; cases a0
  have e0 : ftoi .f64 y .i64 = 0 := by rw [ftoi_def, a3]; rfl
  refine ⟨a1, a2, a3, ?_, ?_, ?_, ?_, ?_, ?_⟩
  · rw [e0, fop_eq0, fint_def]; exact a4
  · rw [z64_eq, fcmp_eq0]; exact a5
  · rw [z64_eq, ftr_def, fcmp_eq0]; exact a6
  · have := sub_self_num .f64 y
    rw [a0] at this
    rw [fcmp_def] at this ⊢
    unfold fcmp0 at this ⊢
    simp only [beq_iff_eq] at this
    show (FloatKind.f64.format.order (fop .sub .f64 y y) (cn .f64 0) != some .eq) = false
    rw [this]; rfl
  · rw [kB_eq, fcmp_eq0]; exact a8
  · rw [kN_eq, fcmp_eq0]; exact a9
theorem lb_of {y : Nat} {E : Int} (h : lbB y E = true) : Lb y E := by
  unfold lbB at h
  split at h
  · rename_i s m e hr
    simp only [Bool.or_eq_true, beq_iff_eq, decide_eq_true_eq] at h
    exact ⟨s, m, e, hr, h⟩
  · cases h
theorem sinOK {y : Nat} (h : okS0 y = true) : SinOK y := by
  unfold okS0 at h
  simp only [Bool.and_eq_true, Bool.not_eq_true'] at h
  obtain ⟨a1, a2, a3, a4⟩ := h
  exact ⟨partOK a1, by rw [k50_eq, fcmp_eq0]; exact a2, by rw [k25_eq, fcmp_eq0]; exact a3, lb_of a4⟩
def fs (x : Nat) : Nat → Nat
  | 0 => x
  | j + 1 => fop .sub .f64 (fs x j) k25
theorem fs_eq0 (x : Nat) : ∀ j, fs x j = fs0 x j
  | 0 => rfl
  | j + 1 => by rw [fs, fs0, fs_eq0 x j, fop_eq0, k25_eq]

def pS (u : Nat) : Nat → Nat
  | 0 => cn .f64 4607182418800017408
  | j + 1 => fop .sub .f64 (cn .f64 4607182418800017408) (fop .quo .f64 (fop .mul .f64 u (pS u j)) (fint .f64 (2 * (8 - (j : Int)) * (2 * (8 - (j : Int)) + 1))))
def sinZ (y : Nat) : Nat := fop .mul .f64 y (cn .f64 4618760256179416344)
def sinV (y : Nat) : Nat := fop .mul .f64 (sinZ y) (pS (fop .mul .f64 (sinZ y) (sinZ y)) 8)
theorem lb_c {x : Nat} {E : Int} (hx : cn .f64 x = x) (h : lbB x E = true) : Lb (cn .f64 x) E := by rw [hx]; exact lb_of h
theorem lb_one : Lb (cn .f64 4607182418800017408) 0 := lb_c (cn_of_not (by decide)) (by decide)
theorem lb_tp : Lb (cn .f64 4618760256179416344) 2 := lb_c (cn_of_not (by decide)) (by decide)
theorem lb_zero : Lb z64 (-1000) := lb_c (cn_of_not (by decide)) (by decide)
def lgB (y : Nat) : Bool := match Ieee.double.read y with
  | .number _ n j => n != 0 && decide (0 ≤ (n.log2 : Int) + j)
  | _ => false
theorem lg_of {y : Nat} (h : lgB y = true) : Lg y := by
  unfold lgB at h
  split at h
  · rename_i s n j hr
    simp only [Bool.and_eq_true, bne_iff_ne, decide_eq_true_eq] at h
    exact ⟨s, n, j, hr, h.1, h.2⟩
  · cases h
theorem lg_d {j : Nat} (h : j < 8) : Lg (fint .f64 (2 * (8 - (j : Int)) * (2 * (8 - (j : Int)) + 1))) := by
  rw [fint_def]
  refine lg_of ?_
  have t : (List.range 8).all (fun j => lgB (FloatKind.f64.nearest (2 * (8 - (j : Int)) * (2 * (8 - (j : Int)) + 1)))) = true := by decide +kernel
  exact List.all_eq_true.1 t j (List.mem_range.2 h)
theorem lb_pS {u : Nat} (hu : Lb u 6) : ∀ j, j ≤ 8 → Lb (pS u j) (11 * j)
  | 0, _ => by simpa [pS] using lb_one
  | j + 1, hj => by
    have h1 := lb_mul hu (lb_pS hu j (by omega)) (by omega) (by omega)
    have h2 := lb_quo h1 (lg_d (j := j) (by omega)) (by omega) (by omega)
    have h3 := lb_sub (A := 6 + 11 * j + 2 + 1) (lb_one.mono (by omega)) h2 (by omega) (by omega)
    exact h3.mono (by omega)
theorem lb_sinV {y : Nat} (h : Lb y (-2)) : Lb (sinV y) 92 := by
  have hz : Lb (sinZ y) 2 := lb_mul h lb_tp (by omega) (by omega)
  have hu : Lb (fop .mul .f64 (sinZ y) (sinZ y)) 6 := lb_mul hz hz (by omega) (by omega)
  exact (lb_mul hz (lb_pS hu 8 (by omega)) (by omega) (by omega)).mono (by omega)
theorem sin_narrows {y : Nat} (h : Lb y (-2)) : narrows (sinV y) = true := (lb_sinV h).narrows (by omega)
theorem msin_narrows {y : Nat} (h : Lb y (-2)) : narrows (fop .sub .f64 z64 (sinV y)) = true := (lb_sub (lb_zero.mono (by omega)) (lb_sinV h) (by omega) (by omega)).narrows (by omega)

/-- Where a phasor is told: so many quarters, and the rest. -/
structure PhOK (x Q : Nat) : Prop where
  part : PartOK x
  q3 : Q ≤ 3
  up : ∀ j, j < Q → fcmp .geq .f64 (fs x j) k25 = true
  no : fcmp .geq .f64 (fs x Q) k25 = false
  c : SinOK (fop .sub .f64 k25 (fs x Q))
  s : SinOK (fs x Q)
theorem phOK {k c : Nat} (hk : k < c) (hc : c ≤ 48) : PhOK (fop .quo .f64 (fint .f64 (k : Int)) (fint .f64 (c : Int))) (4 * k / c) := by
  have h := tabPh hk hc
  have e : fop .quo .f64 (fint .f64 (k : Int)) (fint .f64 (c : Int)) = Qk k c := by rw [fop_eq0, fint_def, fint_def]; rfl
  rw [e]
  unfold chkPh okF0 at h
  simp only [Bool.and_eq_true, Bool.not_eq_true'] at h
  obtain ⟨a1, a2, a3, a4, a5⟩ := h
  refine ⟨partOK a1, ?_, fun j hj => ?_, ?_, ?_, ?_⟩
  · have : 4 * k / c < 4 := (Nat.div_lt_iff_lt_mul (by omega)).2 (by omega)
    omega
  · rw [fs_eq0, k25_eq, fcmp_eq0]; exact List.all_eq_true.1 a2 j (List.mem_range.2 hj)
  · rw [fs_eq0, k25_eq, fcmp_eq0]; exact a3
  · rw [fs_eq0, k25_eq, fop_eq0]; exact sinOK a4
  · rw [fs_eq0]; exact sinOK a5
def cosV (x Q : Nat) : Nat := sinV (fop .sub .f64 k25 (fs x Q))
def phV (x Q : Nat) : Nat × Nat := match Q with
  | 1 => (fnarrow (fop .sub .f64 z64 (sinV (fs x Q))), fnarrow (cosV x Q))
  | 2 => (fnarrow (fop .sub .f64 z64 (cosV x Q)), fnarrow (fop .sub .f64 z64 (sinV (fs x Q))))
  | 3 => (fnarrow (sinV (fs x Q)), fnarrow (fop .sub .f64 z64 (cosV x Q)))
  | _ => (fnarrow (cosV x Q), fnarrow (sinV (fs x Q)))
end
end Go.AX
