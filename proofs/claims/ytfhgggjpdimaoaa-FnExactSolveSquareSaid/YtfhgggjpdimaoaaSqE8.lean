/- What the functions of this program do, one contract a function, by that walk: each under what its own statement says. -/
import Derived.Test.YtfhgggjpdimaoaaSqE7
set_option linter.unusedVariables false
set_option linter.unusedSimpArgs false
namespace Go.AX
noncomputable section
open Ieee

/-! ## The law of pivots: the program's search finds the reference's row -/

theorem order_swap (a b : Datum) : Datum.order a b = (Datum.order b a).map Ordering.swap := by
  cases a with
  | nan s f => rw [order_nan_l, order_nan_r]; rfl
  | infinity s =>
    cases b with
    | nan t g => rw [order_nan_l, order_nan_r]; rfl
    | infinity t => cases s <;> cases t <;> rfl
    | number t n j => cases s <;> rfl
  | number s m i =>
    cases b with
    | nan t g => rw [order_nan_l, order_nan_r]; rfl
    | infinity t => cases t <;> rfl
    | number t n j =>
      simp only [Datum.order, Option.map_some]
      rw [Int.min_comm j i, ← Int.compare_swap]
theorem order_self (a : Datum) (h : ∀ s f, a ≠ .nan s f) : Datum.order a a = some .eq := by
  cases a with
  | nan s f => exact absurd rfl (h s f)
  | infinity s => cases s <;> rfl
  | number s m i => simp only [Datum.order]; rw [show ∀ z : Int, compare z z = .eq from fun z => Int.compare_eq_eq.2 rfl]
theorem gt_asym {x y : Nat} (h : fcmp .gtr .f32 x y = true) : fcmp .gtr .f32 y x = false := by
  rw [fcmp_def] at h ⊢
  unfold fcmp0 at h ⊢
  unfold Format.order at h ⊢
  rw [order_swap]
  have h := eq_of_beq h
  simp only [h, Option.map_some, Ordering.swap]
  rfl
theorem gt_num {x y : Nat} (h : fcmp .gtr .f32 x y = true) : FloatKind.f32.format.order x x = some .eq := by
  rw [fcmp_def] at h
  unfold fcmp0 at h
  unfold Format.order at h ⊢
  refine order_self _ fun s f e => ?_
  rw [e, order_nan_l] at h; cases h
theorem gt_neq {x y : Nat} (h : fcmp .gtr .f32 x y = true) : fcmp .neq .f32 x x = false := by
  rw [fcmp_def]; unfold fcmp0; simp only [gt_num h]; rfl
theorem gt_eql {x y : Nat} (h : fcmp .gtr .f32 x y = true) : fcmp .eql .f32 x x = true := by
  rw [fcmp_def]; unfold fcmp0; simp only [gt_num h]; rfl
theorem gt_nan_l (y : Nat) : fcmp .gtr .f32 (qn .f32) y = false := by
  obtain ⟨s, f, h⟩ := decode_nan (isN_qn .f32)
  rw [fcmp_def]; unfold fcmp0 Format.order; simp only [h, order_nan_l]; rfl
theorem gt_nan_r (x : Nat) : fcmp .gtr .f32 x (qn .f32) = false := by
  obtain ⟨s, f, h⟩ := decode_nan (isN_qn .f32)
  rw [fcmp_def]; unfold fcmp0 Format.order; simp only [h, order_nan_r]; rfl
theorem neq_nan : fcmp .neq .f32 (qn .f32) (qn .f32) = true := by rw [fcmp_def]; decide
theorem eql_nan : fcmp .eql .f32 (qn .f32) (qn .f32) = false := by rw [fcmp_def]; decide
theorem neq_zero : fcmp .neq .f32 0 0 = false := by rw [fcmp_def]; decide
theorem eql_zero : fcmp .eql .f32 0 0 = true := by rw [fcmp_def]; decide
theorem gt_zero0 : fcmp .gtr .f32 0 0 = false := by rw [fcmp_def]; decide
theorem cn_zero : cn .f32 0 = 0 := cn_of_not (by decide)

def Siz (v : Nat) : Prop := v = qn .f32 ∨ fcmp .gtr .f32 v 0 = true ∨ v = 0
theorem word_inf {x : Nat} (hN : isN .f32 x = false) (hn : isNum .f32 x = false) : x % 2147483648 = 2139095040 := by
  unfold isN FloatKind.decode at hN
  unfold isNum at hn
  have hN : (Ieee.single.read x).isNaN = false := hN
  have hr : ∀ s m e, Ieee.single.read x ≠ .number s m e := fun s m e h => by
    rw [show FloatKind.f32.format.read x = Ieee.single.read x from rfl, h] at hn; cases hn
  unfold Format.read at hN hr
  simp only [single_binade, single_inf, single_sw, single_least] at hN hr
  by_cases c1 : x % 2147483648 < 8388608
  · rw [if_pos c1] at hr; exact absurd rfl (hr _ _ _)
  · rw [if_neg c1] at hr hN
    by_cases c2 : x % 2147483648 < 2139095040
    · rw [if_pos c2] at hr; exact absurd rfl (hr _ _ _)
    · rw [if_neg c2] at hN
      by_cases c3 : x % 2147483648 = 2139095040
      · exact c3
      · rw [if_neg c3] at hN; cases hN
theorem siz_fabs (x : Nat) : Siz (fabs x) := by
  cases hN : isN .f32 x
  · right
    have e : fabs x = x % 2147483648 := by unfold fabs; rw [hN]; rfl
    have hl : fabs x < 2147483648 := by rw [e]; exact Nat.mod_lt _ (by omega)
    cases hn : isNum .f32 x
    · left
      rw [e, word_inf hN hn, fcmp_def]; decide
    · cases hg : fcmp .gtr .f32 (fabs x) 0
      · right; exact gtr_zero hl (by rw [isNum_fabs]; exact hn) hg
      · exact .inl rfl
  · left; unfold fabs; rw [hN]; rfl
theorem absv_fabs {x : Nat} (h : CF .f32 x) : absv x = fabs x := by
  obtain ⟨b, hb⟩ := h
  have hx : x < 4294967296 := hb.lt
  cases hN : isN .f32 x
  · cases hn : isNum .f32 x
    · have hi := word_inf hN hn
      have h2 : x = 2139095040 ∨ x = 4286578688 := by omega
      rcases h2 with rfl | rfl
      · unfold absv fabs
        rw [hN, cn_zero, fcmp_def]; rfl
      · unfold absv fabs
        rw [hN, cn_zero, fcmp_def, fop_def]; decide
    · exact absv_num hx hn
  · have e : x = qn .f32 := by
      have h1 := hb.1
      have h2 : isN .f32 b = true := by rw [← isN_cn, h1]; exact hN
      rw [← h1, cn_of h2]
    subst e
    have h3 : fcmp .leq .f32 (qn .f32) (cn .f32 0) = false := by
      obtain ⟨s, f, h⟩ := decode_nan (isN_qn .f32)
      rw [fcmp_def]; unfold fcmp0 Format.order; simp only [h, order_nan_l]; rfl
    unfold absv fabs
    rw [h3, isN_qn]; rfl

theorem pS_T {c : Nat → Nat} {k t : Nat} (h : (fcmp .gtr .f32 (c (k + t)) (c (pS c k t)) || (fcmp .neq .f32 (c (pS c k t)) (c (pS c k t)) && fcmp .eql .f32 (c (k + t)) (c (k + t)))) = true) : pS c k (t + 1) = k + t := by simp only [pS, h, cond_true]
theorem pS_F {c : Nat → Nat} {k t : Nat} (h : (fcmp .gtr .f32 (c (k + t)) (c (pS c k t)) || (fcmp .neq .f32 (c (pS c k t)) (c (pS c k t)) && fcmp .eql .f32 (c (k + t)) (c (k + t)))) = false) : pS c k (t + 1) = pS c k t := by simp only [pS, h, cond_false]

theorem pv_law (c : Nat → Nat) (hc : ∀ i, Siz (c i)) (k : Nat) : ∀ t, pvI c k (t + 1) = bif fcmp .gtr .f32 (c (pS c k (t + 1))) 0 then (((pS c k (t + 1) : Nat) : Int), c (pS c k (t + 1))) else (-1, 0)
  | 0 => by
    have e : pS c k 1 = k := by
      cases h : (fcmp .gtr .f32 (c (k + 0)) (c (pS c k 0)) || (fcmp .neq .f32 (c (pS c k 0)) (c (pS c k 0)) && fcmp .eql .f32 (c (k + 0)) (c (k + 0))))
      · rw [pS_F h]; rfl
      · rw [pS_T h]; rfl
    rw [e]
    cases h : fcmp .gtr .f32 (c k) 0
    · rw [pvI_F (by show fcmp .gtr .f32 (c (k + 0)) (cn .f32 0) = false; rw [cn_zero]; exact h)]
      show (-1, cn .f32 0) = _
      rw [cn_zero]; rfl
    · rw [pvI_T (by show fcmp .gtr .f32 (c (k + 0)) (cn .f32 0) = true; rw [cn_zero]; exact h)]
      rfl
  | t + 1 => by
    have ih := pv_law c hc k t
    generalize hp : pS c k (t + 1) = p at ih
    have hx := hc (k + (t + 1))
    cases hg : fcmp .gtr .f32 (c p) 0
    · rw [hg, cond_false] at ih
      have hz : c p = qn .f32 ∨ c p = 0 := by
        rcases hc p with h | h | h
        · exact .inl h
        · rw [hg] at h; cases h
        · exact .inr h
      have up : fcmp .gtr .f32 (c (k + (t + 1))) 0 = true → pvI c k (t + 2) = (((k + (t + 1) : Nat) : Int), c (k + (t + 1))) := fun h => pvI_T (by rw [ih]; exact h)
      have no : fcmp .gtr .f32 (c (k + (t + 1))) 0 = false → pvI c k (t + 2) = (-1, 0) := fun h => by rw [pvI_F (by rw [ih]; exact h)]; exact ih
      rcases hz with hz | hz
      · rcases hx with h | h | h
        · have e : pS c k (t + 2) = p := by
            rw [pS_F, hp]
            rw [hp, h, hz, gt_nan_l, eql_nan]; simp
          rw [e, hg, no (by rw [h]; exact gt_nan_l _)]; rfl
        · have e : pS c k (t + 2) = k + (t + 1) := by
            rw [pS_T]
            rw [hp, hz, neq_nan, gt_eql h]; simp
          rw [e, h, up h]; rfl
        · have e : pS c k (t + 2) = k + (t + 1) := by
            rw [pS_T]
            rw [hp, hz, h, neq_nan, eql_zero]; simp
          rw [e, h, gt_zero0, no (by rw [h]; exact gt_zero0)]; rfl
      · cases h : fcmp .gtr .f32 (c (k + (t + 1))) 0
        · have e : pS c k (t + 2) = p := by
            rw [pS_F, hp]
            rw [hp, hz, neq_zero, h]; rfl
          rw [e, hg, no h]; rfl
        · have e : pS c k (t + 2) = k + (t + 1) := by
            rw [pS_T]
            rw [hp, hz, h]; rfl
          rw [e, h, up h]; rfl
    · rw [hg, cond_true] at ih
      cases h : fcmp .gtr .f32 (c (k + (t + 1))) (c p)
      · have e : pS c k (t + 2) = p := by
          rw [pS_F, hp]
          rw [hp, h, gt_neq hg]; rfl
        rw [e, hg, pvI_F (by rw [ih]; exact h)]
        exact ih
      · have e : pS c k (t + 2) = k + (t + 1) := by
          rw [pS_T]
          rw [hp, h]; rfl
        have h0 : fcmp .gtr .f32 (c (k + (t + 1))) 0 = true := by
          rcases hx with h2 | h2 | h2
          · rw [h2, gt_nan_l] at h; cases h
          · exact h2
          · rw [h2, gt_asym hg] at h; cases h
        rw [e, h0, pvI_T (by rw [ih]; exact h)]; rfl

theorem pvI_congr {c d : Nat → Nat} {k : Nat} : ∀ {t : Nat}, (∀ i, k ≤ i → i < k + t → c i = d i) → pvI c k t = pvI d k t
  | 0, _ => rfl
  | t + 1, h => by
    simp only [pvI]
    rw [pvI_congr (t := t) fun i h1 h2 => h i h1 (by omega), h (k + t) (by omega) (by omega)]
theorem pS_congr {c d : Nat → Nat} {k : Nat} : ∀ {t : Nat}, (∀ i, k ≤ i → i < k + t → c i = d i) → pS c k t = pS d k t
  | 0, _ => rfl
  | t + 1, h => by
    have h1 := pS_congr (t := t) fun i h1 h2 => h i h1 (by omega)
    have h2 := pS_lt d k t
    simp only [pS]
    rw [h1, h (k + t) (by omega) (by omega), h (pS d k t) h2.1 (by omega)]

theorem fabs_zero : fabs 0 = 0 := by unfold fabs; rw [show isN .f32 0 = false by decide]; rfl
/-- What the program's search answers. -/
theorem pv_found {G : Nat → Nat → Nat} {k N : Nat} (hk : k < N) (hcf : ∀ i, i < N → CF .f32 (G i k)) :
    (pvI (colM (mat G N) k) k (N - k)).1 = if pOK G k N = true then ((pv G k N : Nat) : Int) else -1 := by
  obtain ⟨t, ht⟩ : ∃ t, N - k = t + 1 := ⟨N - k - 1, by omega⟩
  have e1 : pvI (colM (mat G N) k) k (N - k) = pvI (fun i => if i < N then fabs (G i k) else 0) k (N - k) := pvI_congr fun i h1 h2 => by
    have hi : i < N := by omega
    show fabs (((mat G N).getD i []).getD k 0) = if i < N then fabs (G i k) else 0
    rw [if_pos hi, mat_row hi, bld_at 0 _ hk]
  have e2 : pv G k N = pS (fun i => if i < N then fabs (G i k) else 0) k (N - k) := pS_congr fun i h1 h2 => by
    have hi : i < N := by omega
    show absv (G i k) = if i < N then fabs (G i k) else 0
    rw [if_pos hi, absv_fabs (hcf i hi)]
  have hlt := pv_lt (F := G) hk
  have e3 : pOK G k N = fcmp .gtr .f32 ((fun i => if i < N then fabs (G i k) else 0) (pv G k N)) 0 := by
    unfold pOK
    rw [absv_fabs (hcf _ hlt.2), cn_zero]
    show _ = fcmp .gtr .f32 (if pv G k N < N then fabs (G (pv G k N) k) else 0) 0
    rw [if_pos hlt.2]
  have law := pv_law (fun i => if i < N then fabs (G i k) else 0) (fun i => by
    by_cases hi : i < N
    · simp only [if_pos hi]; exact siz_fabs _
    · simp only [if_neg hi]; exact .inr (.inr rfl)) k t
  rw [← ht, ← e2, ← e3] at law
  rw [e1, law]
  cases pOK G k N <;> rfl
end
end Go.AX
