/- What the functions of this program do, one contract a function, by that walk: each under what its own statement says. -/
import Derived.Test.YtojajegjmjmekaaB14
set_option linter.unusedVariables false
set_option linter.unusedSimpArgs false
namespace Go.AX
noncomputable section
open Go.RowKit Go.Proofs
set_option maxRecDepth 100000
set_option maxHeartbeats 4000000

/-! SpreadBasin -/
def Fsp (xs : List Nat) (z : Nat) (w h x y : Int) : Nat := fop .add .f32 (atV xs w h x y) (fop .mul .f32 z (Flap xs w h x y))
def spst (xs : List Nat) (z : Nat) (w h : Int) : List Nat := grid w h (fun x y => Fsp xs z w h x y)
def spit (xs : List Nat) (z : Nat) (w h : Int) : Nat → List Nat
  | 0 => xs
  | n + 1 => spst (spit xs z w h n) z w h
def spok (xs : List Nat) (z : Nat) (w h : Int) : Nat → Bool
  | 0 => isB w h xs
  | n + 1 => spok xs z w h n && isB w h (spit xs z w h (n + 1))
theorem spok_isB {xs : List Nat} {z : Nat} {w h : Int} : ∀ {n : Nat}, spok xs z w h n = true → isB w h (spit xs z w h n) = true
  | 0, h => h
  | n + 1, h => by simp only [spok, Bool.and_eq_true] at h; exact h.2
theorem spok_mono {xs : List Nat} {z : Nat} {w h : Int} {j : Nat} (hj : spok xs z w h j = false) : ∀ {k : Nat}, j ≤ k → spok xs z w h k = false
  | 0, hk => by have : j = 0 := by omega
                subst this; exact hj
  | k + 1, hk => by
    by_cases he : j = k + 1
    · subst he; exact hj
    · simp only [spok, spok_mono hj (show j ≤ k by omega), Bool.false_and]
theorem spok_0 {xs : List Nat} {z : Nat} {w h : Int} {n : Nat} (hn : spok xs z w h n = true) : isB w h xs = true := by
  cases h0 : isB w h xs
  · have := spok_mono (xs := xs) (z := z) (w := w) (h := h) (j := 0) h0 (Nat.zero_le n)
    rw [this] at hn; cases hn
  · rfl
def okspread (w h : Int) (xs : List Nat) (z : Nat) (k : Int) : Bool := (finB z && inB k 0 64) && spok xs z w h k.toNat
abbrev Rspread (w h : Int) (xs : List Nat) (z : Nat) (k : Int) : List Nat := spit xs z w h k.toNat
theorem num_mul_r {k : FloatKind} {x y : Nat} (h : isNum k y = false) : isNum k (fop .mul k x y) = false := by
  rw [fop_mul]
  unfold isNum at h
  cases hy : k.format.read y with
  | number => rw [hy] at h; cases h
  | nan s f => rw [product_nan_r]; exact isNum_none k
  | infinity s =>
    cases hx : k.format.read x with
    | number t m e =>
      simp only [Ieee.Datum.product]
      split
      · exact isNum_none k
      · exact isNum_inf k _
    | nan t f => rw [product_nan_l]; exact isNum_none k
    | infinity t => exact isNum_inf k _
theorem all_false {xs : List Nat} (h : xs.all finB = false) : ∃ i, i < xs.length ∧ finB (xs.getD i 0) = false := by
  rw [List.all_eq_false] at h
  obtain ⟨x, hx, hp⟩ := h
  obtain ⟨j, hj, rfl⟩ := List.mem_iff_getElem.1 hx
  exact ⟨j, hj, by simpa [List.getD_eq_getElem?_getD, hj] using hp⟩
theorem isB_fin_eq {W H : Nat} {xs : List Nat} (h1 : 3 ≤ W) (h2 : W ≤ 16) (h3 : 3 ≤ H) (h4 : H ≤ 16) (hl : xs.length = W * H) : isB W H xs = xs.all finB := by
  cases h : xs.all finB
  · exact isB_not h
  · exact isB_of h1 h2 h3 h4 hl h
/-- Where the Laplace basin is not finite, neither is what has spread. -/
theorem spread_lap {W H : Nat} {xs : List Nat} (z : Nat) (h1 : 3 ≤ W) (h2 : W ≤ 16) (h3 : 3 ≤ H) (h4 : H ≤ 16) (h : isB W H (grid W H (fun x y => Flap xs W H x y)) = false) : isB W H (spst xs z W H) = false := by
  rw [isB_fin_eq h1 h2 h3 h4 (grid_len W H _)] at h
  obtain ⟨i, hi, hf⟩ := all_false h
  rw [grid_len] at hi
  unfold spst
  rw [gridN] at hf ⊢
  rw [bld_at _ hi] at hf
  refine isB_not (bld_not i hi ?_)
  show finB (Fsp xs z W H _ _) = false
  unfold Fsp
  rw [finB_num] at hf ⊢
  exact num_add_r (num_mul_r hf)
theorem spit_len {xs : List Nat} {z : Nat} {W H : Nat} (hl : xs.length = W * H) : ∀ n, (spit xs z W H n).length = W * H
  | 0 => hl
  | n + 1 => grid_len W H _
theorem bld_set {F : Nat → Nat} {ys : List Nat} {i : Nat} (hi : i < ys.length) : (bld F i ++ ys.drop i).set i (F i) = bld F (i + 1) ++ ys.drop (i + 1) := by
  have e : ys.drop i = ys[i] :: ys.drop (i + 1) := by simp
  rw [e, List.set_append_right _ _ (by rw [bld_len]; exact Nat.le_refl _), bld_len, Nat.sub_self, List.set_cons_zero, bld, List.append_assoc]; rfl
theorem bld_get (F : Nat → Nat) {ys : List Nat} {i : Nat} (hi : i < ys.length) : (bld F i ++ ys.drop i).getD i 0 = ys.getD i 0 := by
  simp only [List.getD_eq_getElem?_getD]
  rw [List.getElem?_append_right (by rw [bld_len]; exact Nat.le_refl _), bld_len, Nat.sub_self, List.getElem?_drop]
  rfl
theorem grid_at {W H : Nat} {xs : List Nat} (w1 : 3 ≤ W) (hl : xs.length = W * H) : grid W H (fun x y => atV xs W H x y) = xs := by
  rw [grid_own (xs := xs) (fun _ v => v) w1 _ (fun i _ => rfl), ← hl]; exact bld_self xs
theorem okat (w h : Int) (xs : List Nat) : (isB w h xs && isB w h (grid w h (fun x y => atV xs w h x y))) = isB w h xs := by
  cases hb : isB w h xs
  · rfl
  · obtain ⟨W, H, rfl, rfl, w1, w2, w3, w4, hl, _⟩ := isB_nat hb
    rw [grid_at w1 hl, hb]; rfl
theorem Rat (w h : Int) (xs : List Nat) : gR (isB w h xs) (grid w h (fun x y => atV xs w h x y)) = gR (isB w h xs) xs := by
  cases hb : isB w h xs
  · rfl
  · obtain ⟨W, H, rfl, rfl, w1, w2, w3, w4, hl, _⟩ := isB_nat hb
    rw [grid_at w1 hl]
def spF (ys D : List Nat) (z : Nat) (i : Nat) : Nat := fop .add .f32 (ys.getD i 0) (fop .mul .f32 z (D.getD i 0))
theorem spF_is {W H : Nat} {ys : List Nat} {z : Nat} (w1 : 3 ≤ W) (hl : ys.length = W * H) : bld (spF ys (grid W H (fun x y => Flap ys W H x y)) z) ys.length = spst ys z W H := by
  unfold spst
  rw [hl, gridN, gridN]
  refine bld_congr fun i hi => ?_
  unfold spF Fsp
  rw [bld_at _ hi, atV_in (by omega) hi]

theorem s113 (o : Bool) (xs : List Nat) (w h : Int) (hn : xs.length ≤ 1048576) : SP 113 [basV w h 1, ar o xs] [.one (.pv 0 0)] [basV w h 1, ar o xs, ar true xs] (.v (bas w h 2)) := by
  refine spec_of_codeR (fn := Try.f113) tyOK mixes Try.func113 rfl rfl rfl ⟨.inl rfl, ⟨.inl rfl, rfl⟩⟩ fun hg R0 hR => ?_
  refine c_seq fun NN1 nn1 => ?_
  refine c_region fun KK2 kk2 => ?_
  refine n_of (N' := KK2) kk2 ?_
  refine n_of (N' := NN1) nn1 ?_
  refine c_seq fun NN3 nn3 => ?_
  refine c_draw2 10 9 3 [0, 1, 2, 3, 4, 5, 6, 7, 8] (by kernel_rfl) fun KK4 kk4 => ?_
  refine ⟨rfl, _, _, (s99 _ _), rfl, ?_⟩
  refine n_of (N' := KK4) kk4 ?_
  refine n_of (N' := NN3) nn3 ?_
  refine c_seq fun NN5 nn5 => ?_
  refine c_draw 6 [0, 1, 2, 3, 4, 5] (by kernel_rfl) fun KK6 kk6 => ?_
  refine And.intro ?_ ?_
  · (refine ⟨?_, by decide⟩; (try dsimp only); (try simp only [Dat.len, Int.toNat_natCast, bld_len, List.length_cons, List.length_nil]); omega)   -- 0 append
  refine n_of (N' := KK6) kk6 ?_
  refine n_of (N' := NN5) nn5 ?_
  refine c_seq fun NN7 nn7 => ?_
  refine c_region fun KK8 kk8 => ?_
  refine n_of (N' := KK8) kk8 ?_
  refine n_of (N' := NN7) nn7 ?_
  refine c_ret ?_
  refine n_of (N' := R0) hR ?_
  exact ⟨[], rfl, rfl, rfl⟩

theorem s95at (o : Bool) (xs : List Nat) (W H : Nat) (w1 : 3 ≤ W) (w2 : W ≤ 16) (w3 : 3 ≤ H) (w4 : H ≤ 16) (hl : xs.length = W * H) : SP 95 [basV W H 1, ar o xs] [i64 W, i64 H, .one (.fn 103 [0] [])] [basV W H 1, ar o xs, ar true (grid W H (fun x y => atV xs W H x y))] (.v (bas W H 2)) := by
  refine spec_of_codeR (fn := Try.f95) tyOK mixes Try.func95 rfl rfl rfl ⟨.inl rfl, ⟨.inl rfl, rfl⟩⟩ fun hg R0 hR => ?_
  have hWH : W * H ≤ 256 := (by have := Nat.mul_le_mul w2 w4; omega)
  have hwr := wrWH hWH
  rw [gridN] at hR
  refine c_seq fun NN1 nn1 => ?_
  refine c_region fun KK2 kk2 => ?_
  refine n_of (N' := KK2) kk2 ?_
  refine n_of (N' := NN1) nn1 ?_
  refine c_seq fun NN3 nn3 => ?_
  refine c_region fun KK4 kk4 => ?_
  refine n_of (N' := KK4) kk4 ?_
  refine n_of (N' := NN3) nn3 ?_
  refine c_seq fun NN5 nn5 => ?_
  refine c_seq fun NN6 nn6 => ?_
  refine c_region fun KK7 kk7 => ?_
  refine n_of (N' := KK7) kk7 ?_
  refine n_of (N' := NN6) nn6 ?_
  refine c_block fun XX8 xx8 => ?_
  refine loop_keep [.c 3 2 32 (.f [])] [0, 2, 6, 7, 13] (ι := { i : Nat // i ≤ H }) (fun i => [(14, exi .i64 i.1)]) (fun i => [(4, ar true (bld (fun t => (fun x y => atV xs W H x y) ((t % W : Nat) : Int) ((t / W : Nat) : Int)) (i.1 * W)))]) (fun i => H - i.1) ⟨0, Nat.zero_le _⟩ ⟨rfl, trivial⟩ rfl ?_
  refine ⟨?_, ?_, ?_⟩
  · exact ⟨.inr rfl, trivial⟩
  · exact ⟨rfl, rfl, rfl, rfl, congrArg (ar true) (by simp [bld]), trivial⟩
  refine fun ⟨y, hy⟩ NL9 nl9 => ?_
  refine c_norm rfl rfl ?_
  refine c_seq fun NN10 nn10 => ?_
  refine c_region fun KK11 kk11 => ?_
  refine n_of (N' := KK11) kk11 ?_
  refine n_of (N' := NN10) nn10 ?_
  refine c_seq fun NN12 nn12 => ?_
  refine c_cond rfl (fun h0 => ?_) (fun h0 => ?_)
  · skip
    have q0 := of_decide_eq_true h0
    (try dsimp only at q0)
    (try simp only [Dat.len, bld_len, List.length_cons, List.length_nil] at q0)
    refine c_skip ?_
    refine n_of (N' := NN12) nn12 ?_
    refine c_seq fun NN13 nn13 => ?_
    refine c_block fun XX14 xx14 => ?_
    refine c_seq fun NN15 nn15 => ?_
    refine c_region fun KK16 kk16 => ?_
    refine n_of (N' := KK16) kk16 ?_
    refine n_of (N' := NN15) nn15 ?_
    refine c_seq fun NN17 nn17 => ?_
    refine c_region fun KK18 kk18 => ?_
    refine n_of (N' := KK18) kk18 ?_
    refine n_of (N' := NN17) nn17 ?_
    refine c_block fun XX19 xx19 => ?_
    refine loop_keep [] [0, 2, 6, 7, 8, 13, 14, 17] (ι := { i : Nat // i ≤ W }) (fun i => [(18, exi .i64 i.1)]) (fun i => [(4, ar true (bld (fun t => (fun x y => atV xs W H x y) ((t % W : Nat) : Int) ((t / W : Nat) : Int)) (y * W + i.1)))]) (fun i => W - i.1) ⟨0, Nat.zero_le _⟩ trivial rfl ?_
    refine ⟨?_, ?_, ?_⟩
    · exact ⟨.inr rfl, trivial⟩
    · exact ⟨rfl, rfl, rfl, rfl, rfl, trivial⟩
    refine fun ⟨x, hx⟩ NL20 nl20 => ?_
    refine c_norm rfl rfl ?_
    have hyx : y * W + x ≤ 256 := Nat.le_trans (Nat.add_le_add (Nat.mul_le_mul_right W (show y ≤ 15 by omega)) hx) (by omega)
    refine c_seq fun NN21 nn21 => ?_
    refine c_region fun KK22 kk22 => ?_
    refine n_of (N' := KK22) kk22 ?_
    refine n_of (N' := NN21) nn21 ?_
    refine c_seq fun NN23 nn23 => ?_
    refine c_cond rfl (fun h1 => ?_) (fun h1 => ?_)
    · skip
      have q1 := of_decide_eq_true h1
      (try dsimp only at q1)
      (try simp only [Dat.len, bld_len, List.length_cons, List.length_nil] at q1)
      refine c_skip ?_
      refine n_of (N' := NN23) nn23 ?_
      refine c_seq fun NN24 nn24 => ?_
      refine c_block fun XX25 xx25 => ?_
      refine c_seq fun NN26 nn26 => ?_
      refine c_region fun KK27 kk27 => ?_
      refine n_of (N' := KK27) kk27 ?_
      refine n_of (N' := NN26) nn26 ?_
      refine c_draw 7 [0, 1, 2, 3, 4, 5, 6] (by kernel_rfl) fun KK28 kk28 => ?_
      refine ⟨rfl, _, _, s103 _ _ _ _ w1 w2 w3 w4 hl _ _, rfl, ?_⟩
      refine And.intro ?_ ?_
      · (refine ⟨?_, by decide⟩; (try dsimp only); (try simp only [Dat.len, bld_len, List.length_append, List.length_cons, List.length_nil]); omega)   -- 0 append
      refine n_of (N' := KK28) kk28 ?_
      refine n_of (N' := NN24) nn24 ?_
      refine c_region fun KK29 kk29 => ?_
      refine n_of (N' := KK29) kk29 ?_
      refine n_of (N' := NL20) nl20 ?_
      refine ⟨⟨x + 1, by omega⟩, ?_, [0, 1, 2, 3, 4], rfl, ?_, ?_⟩
      · (dsimp only; omega)
      · exact LEq.eq ⟨rfl, rfl, rfl, rfl, congrArg (fun z => ar true (bld _ (y * W + x) ++ [z])) (grid_row (fun x y => atV xs W H x y) (W := W) (x := x) (y := y) (by omega)).symm, trivial⟩
      · exact ⟨.inr (congrArg (exi .i64) (wr64 (n := (x : Int) + 1) (by omega) (by omega))), .inr rfl, .inr rfl, .inr rfl, .inr rfl, .inr rfl, .inr rfl, .inr rfl, .inr rfl, trivial⟩
    · skip
      have q1 := of_decide_eq_false h1
      (try dsimp only at q1)
      (try simp only [Dat.len, bld_len, List.length_cons, List.length_nil] at q1)
      refine c_exit ?_
      refine x_here xx19 ?_
      refine n_of (N' := NN13) nn13 ?_
      refine c_region fun KK30 kk30 => ?_
      refine n_of (N' := KK30) kk30 ?_
      refine n_of (N' := NL9) nl9 ?_
      refine ⟨⟨y + 1, by omega⟩, ?_, [0, 1, 2, 3, 4], rfl, ?_, ?_⟩
      · (dsimp only; omega)
      · exact LEq.eq ⟨rfl, rfl, rfl, rfl, congrArg (ar true) (congrArg (bld _) (by (try dsimp only); rw [Nat.add_mul]; omega)), trivial⟩
      · exact ⟨.inr (congrArg (exi .i64) (wr64 (n := (y : Int) + 1) (by omega) (by omega))), .inr rfl, .inr rfl, .inr rfl, .inr rfl, .inr rfl, trivial⟩
  · skip
    have q0 := of_decide_eq_false h0
    (try dsimp only at q0)
    (try simp only [Dat.len, bld_len, List.length_cons, List.length_nil] at q0)
    refine c_exit ?_
    refine x_here xx8 ?_
    refine n_of (N' := NN5) nn5 ?_
    refine c_seq fun NN31 nn31 => ?_
    refine c_region fun KK32 kk32 => ?_
    refine n_of (N' := KK32) kk32 ?_
    refine n_of (N' := NN31) nn31 ?_
    refine c_ret ?_
    refine n_of (N' := R0) hR ?_
    have e : y = H := by omega
    subst e
    exact ⟨[], rfl, by rw [Nat.mul_comm], rfl⟩

theorem s101at (o : Bool) (xs : List Nat) (w h : Int) : SP 101 [ar o xs, basV w h 0] [bas w h 0, .one (.fn 103 [1] [])] [ar o xs, basV w h 0, ar true (gR (isB w h xs && isB w h (grid w h (fun x y => atV xs w h x y))) (grid w h (fun x y => atV xs w h x y)))] (toldB (isB w h xs && isB w h (grid w h (fun x y => atV xs w h x y))) w h 2) := by
  refine spec_of_codeR (fn := Try.f101) tyOK mixes Try.func101 rfl rfl rfl ⟨.inl rfl, ⟨.inl rfl, rfl⟩⟩ fun hg R0 hR => ?_
  refine c_seq fun NN1 nn1 => ?_
  refine c_region fun KK2 kk2 => ?_
  refine n_of (N' := KK2) kk2 ?_
  refine n_of (N' := NN1) nn1 ?_
  refine c_seq fun NN3 nn3 => ?_
  refine c_seq fun NN4 nn4 => ?_
  refine c_region fun KK5 kk5 => ?_
  refine ⟨rfl, _, _, (s28 _ _ _ _), ?_⟩
  refine n_of (N' := KK5) kk5 ?_
  refine n_of (N' := NN4) nn4 ?_
  refine c_cond rfl (fun h0 => ?_) (fun h0 => ?_)
  · skip
    refine c_seq fun NN6 nn6 => ?_
    refine c_region fun KK7 kk7 => ?_
    refine n_of (N' := KK7) kk7 ?_
    refine n_of (N' := NN6) nn6 ?_
    refine c_ret ?_
    refine n_of (N' := R0) hR ?_
    have ok : (isB w h xs && isB w h (grid w h (fun x y => atV xs w h x y))) = false := by rw [not_t h0]; rfl
    exact ⟨[.nil 32 (.f [])], rfl, rfl, by rw [ok]; rfl, by rw [ok]; rfl⟩
  · skip
    have hb := not_f h0
    obtain ⟨W, H, rfl, rfl, w1, w2, w3, w4, hl, hWH⟩ := isB_nat hb
    
    refine c_skip ?_
    refine n_of (N' := NN3) nn3 ?_
    refine c_seq fun NN8 nn8 => ?_
    refine c_region fun KK9 kk9 => ?_
    refine ⟨rfl, _, _, s95at _ _ _ _ w1 w2 w3 w4 hl, ?_⟩
    refine ⟨rfl, _, _, (s94 _ _ _), ?_⟩
    refine n_of (N' := KK9) kk9 ?_
    refine n_of (N' := NN8) nn8 ?_
    refine c_ret ?_
    refine n_of (N' := R0) hR ?_
    have ok : (isB W H xs && isB W H (grid W H (fun x y => atV xs W H x y))) = isB W H (grid W H (fun x y => atV xs W H x y)) := by rw [hb]; rfl
    exact ⟨[], rfl, by rw [ok], by rw [ok]⟩

theorem s125 (o : Bool) (xs : List Nat) (W H : Nat) (w1 : 3 ≤ W) (w2 : W ≤ 16) (w3 : 3 ≤ H) (w4 : H ≤ 16) (hl : xs.length = W * H) (z : Nat) (x y : Int) (hx : 0 ≤ x) (hx2 : x < W) (hy : 0 ≤ y) (hy2 : y < H) : SP 125 [basV W H 2, .var 32 [.fl .f32 z], ar o xs] [i64 x, i64 y, .one (.pv 0 0), .one (.pv 1 0)] [basV W H 2, .var 32 [.fl .f32 z], ar o xs] (fl32 (Fsp xs z W H x y)) := by
  refine spec_of_codeR (fn := Try.f125) tyOK mixes Try.func125 rfl rfl rfl ⟨.inl rfl, ⟨.inl rfl, ⟨.inl rfl, rfl⟩⟩⟩ fun hg R0 hR => ?_
  refine c_seq fun NN1 nn1 => ?_
  refine c_region fun KK2 kk2 => ?_
  refine n_of (N' := KK2) kk2 ?_
  refine n_of (N' := NN1) nn1 ?_
  refine c_seq fun NN3 nn3 => ?_
  refine c_draw 7 [0, 1, 3, 4, 5, 2, 6] (by kernel_rfl) fun KK4 kk4 => ?_
  refine ⟨rfl, _, _, (s103 _ _ _ _ (by ((try dsimp only); first | assumption | omega | (simp (disch := omega) only [wr64]; omega))) (by ((try dsimp only); first | assumption | omega | (simp (disch := omega) only [wr64]; omega))) (by ((try dsimp only); first | assumption | omega | (simp (disch := omega) only [wr64]; omega))) (by ((try dsimp only); first | assumption | omega | (simp (disch := omega) only [wr64]; omega))) (by ((try dsimp only); first | assumption | omega | (simp (disch := omega) only [wr64]; omega))) _ _), rfl, ?_⟩
  refine ⟨rfl, _, _, (s121 _ _ _ _ (by ((try dsimp only); first | assumption | omega | (simp (disch := omega) only [wr64]; omega))) (by ((try dsimp only); first | assumption | omega | (simp (disch := omega) only [wr64]; omega))) (by ((try dsimp only); first | assumption | omega | (simp (disch := omega) only [wr64]; omega))) (by ((try dsimp only); first | assumption | omega | (simp (disch := omega) only [wr64]; omega))) (by ((try dsimp only); first | assumption | omega | (simp (disch := omega) only [wr64]; omega))) _ _ (by ((try dsimp only); first | assumption | omega | (simp (disch := omega) only [wr64]; omega))) (by ((try dsimp only); first | assumption | omega | (simp (disch := omega) only [wr64]; omega))) (by ((try dsimp only); first | assumption | omega | (simp (disch := omega) only [wr64]; omega))) (by ((try dsimp only); first | assumption | omega | (simp (disch := omega) only [wr64]; omega)))), rfl, ?_⟩
  refine n_of (N' := KK4) kk4 ?_
  refine n_of (N' := NN3) nn3 ?_
  refine c_ret ?_
  refine n_of (N' := R0) hR ?_
  exact ⟨[], rfl, rfl, rfl⟩

theorem s95sp (o : Bool) (xs : List Nat) (W H : Nat) (w1 : 3 ≤ W) (w2 : W ≤ 16) (w3 : 3 ≤ H) (w4 : H ≤ 16) (hl : xs.length = W * H) (z : Nat) : SP 95 [basV W H 2, .var 32 [.fl .f32 z], ar o xs] [i64 W, i64 H, .one (.fn 125 [] [0, 1])] [basV W H 2, .var 32 [.fl .f32 z], ar o xs, ar true (grid W H (fun x y => Fsp xs z W H x y))] (.v (bas W H 3)) := by
  refine spec_of_codeR (fn := Try.f95) tyOK mixes Try.func95 rfl rfl rfl ⟨.inl rfl, ⟨.inl rfl, ⟨.inl rfl, rfl⟩⟩⟩ fun hg R0 hR => ?_
  have hWH : W * H ≤ 256 := (by have := Nat.mul_le_mul w2 w4; omega)
  have hwr := wrWH hWH
  rw [gridN] at hR
  refine c_seq fun NN1 nn1 => ?_
  refine c_region fun KK2 kk2 => ?_
  refine n_of (N' := KK2) kk2 ?_
  refine n_of (N' := NN1) nn1 ?_
  refine c_seq fun NN3 nn3 => ?_
  refine c_region fun KK4 kk4 => ?_
  refine n_of (N' := KK4) kk4 ?_
  refine n_of (N' := NN3) nn3 ?_
  refine c_seq fun NN5 nn5 => ?_
  refine c_seq fun NN6 nn6 => ?_
  refine c_region fun KK7 kk7 => ?_
  refine n_of (N' := KK7) kk7 ?_
  refine n_of (N' := NN6) nn6 ?_
  refine c_block fun XX8 xx8 => ?_
  refine loop_keep [.c 4 2 32 (.f [])] [0, 2, 6, 7, 13] (ι := { i : Nat // i ≤ H }) (fun i => [(14, exi .i64 i.1)]) (fun i => [(5, ar true (bld (fun t => (fun x y => Fsp xs z W H x y) ((t % W : Nat) : Int) ((t / W : Nat) : Int)) (i.1 * W)))]) (fun i => H - i.1) ⟨0, Nat.zero_le _⟩ ⟨rfl, trivial⟩ rfl ?_
  refine ⟨?_, ?_, ?_⟩
  · exact ⟨.inr rfl, trivial⟩
  · exact ⟨rfl, rfl, rfl, rfl, rfl, congrArg (ar true) (by simp [bld]), trivial⟩
  refine fun ⟨y, hy⟩ NL9 nl9 => ?_
  refine c_norm rfl rfl ?_
  refine c_seq fun NN10 nn10 => ?_
  refine c_region fun KK11 kk11 => ?_
  refine n_of (N' := KK11) kk11 ?_
  refine n_of (N' := NN10) nn10 ?_
  refine c_seq fun NN12 nn12 => ?_
  refine c_cond rfl (fun h0 => ?_) (fun h0 => ?_)
  · skip
    have q0 := of_decide_eq_true h0
    (try dsimp only at q0)
    (try simp only [Dat.len, bld_len, List.length_cons, List.length_nil] at q0)
    refine c_skip ?_
    refine n_of (N' := NN12) nn12 ?_
    refine c_seq fun NN13 nn13 => ?_
    refine c_block fun XX14 xx14 => ?_
    refine c_seq fun NN15 nn15 => ?_
    refine c_region fun KK16 kk16 => ?_
    refine n_of (N' := KK16) kk16 ?_
    refine n_of (N' := NN15) nn15 ?_
    refine c_seq fun NN17 nn17 => ?_
    refine c_region fun KK18 kk18 => ?_
    refine n_of (N' := KK18) kk18 ?_
    refine n_of (N' := NN17) nn17 ?_
    refine c_block fun XX19 xx19 => ?_
    refine loop_keep [] [0, 2, 6, 7, 8, 13, 14, 17] (ι := { i : Nat // i ≤ W }) (fun i => [(18, exi .i64 i.1)]) (fun i => [(5, ar true (bld (fun t => (fun x y => Fsp xs z W H x y) ((t % W : Nat) : Int) ((t / W : Nat) : Int)) (y * W + i.1)))]) (fun i => W - i.1) ⟨0, Nat.zero_le _⟩ trivial rfl ?_
    refine ⟨?_, ?_, ?_⟩
    · exact ⟨.inr rfl, trivial⟩
    · exact ⟨rfl, rfl, rfl, rfl, rfl, rfl, trivial⟩
    refine fun ⟨x, hx⟩ NL20 nl20 => ?_
    refine c_norm rfl rfl ?_
    have hyx : y * W + x ≤ 256 := Nat.le_trans (Nat.add_le_add (Nat.mul_le_mul_right W (show y ≤ 15 by omega)) hx) (by omega)
    refine c_seq fun NN21 nn21 => ?_
    refine c_region fun KK22 kk22 => ?_
    refine n_of (N' := KK22) kk22 ?_
    refine n_of (N' := NN21) nn21 ?_
    refine c_seq fun NN23 nn23 => ?_
    refine c_cond rfl (fun h1 => ?_) (fun h1 => ?_)
    · skip
      have q1 := of_decide_eq_true h1
      (try dsimp only at q1)
      (try simp only [Dat.len, bld_len, List.length_cons, List.length_nil] at q1)
      refine c_skip ?_
      refine n_of (N' := NN23) nn23 ?_
      refine c_seq fun NN24 nn24 => ?_
      refine c_block fun XX25 xx25 => ?_
      refine c_seq fun NN26 nn26 => ?_
      refine c_region fun KK27 kk27 => ?_
      refine n_of (N' := KK27) kk27 ?_
      refine n_of (N' := NN26) nn26 ?_
      refine c_draw 7 [0, 1, 2, 3, 4, 5, 6] (by kernel_rfl) fun KK28 kk28 => ?_
      refine ⟨rfl, _, _, s125 _ _ _ _ w1 w2 w3 w4 hl _ _ _ (by (try dsimp only); omega) (by (try dsimp only); omega) (by (try dsimp only); omega) (by (try dsimp only); omega), rfl, ?_⟩
      refine And.intro ?_ ?_
      · (refine ⟨?_, by decide⟩; (try dsimp only); (try simp only [Dat.len, bld_len, List.length_append, List.length_cons, List.length_nil]); omega)   -- 0 append
      refine n_of (N' := KK28) kk28 ?_
      refine n_of (N' := NN24) nn24 ?_
      refine c_region fun KK29 kk29 => ?_
      refine n_of (N' := KK29) kk29 ?_
      refine n_of (N' := NL20) nl20 ?_
      refine ⟨⟨x + 1, by omega⟩, ?_, [0, 1, 2, 3, 4, 5], rfl, ?_, ?_⟩
      · (dsimp only; omega)
      · exact LEq.eq ⟨rfl, rfl, rfl, rfl, rfl, congrArg (fun z => ar true (bld _ (y * W + x) ++ [z])) (grid_row (fun x y => Fsp xs z W H x y) (W := W) (x := x) (y := y) (by omega)).symm, trivial⟩
      · exact ⟨.inr (congrArg (exi .i64) (wr64 (n := (x : Int) + 1) (by omega) (by omega))), .inr rfl, .inr rfl, .inr rfl, .inr rfl, .inr rfl, .inr rfl, .inr rfl, .inr rfl, trivial⟩
    · skip
      have q1 := of_decide_eq_false h1
      (try dsimp only at q1)
      (try simp only [Dat.len, bld_len, List.length_cons, List.length_nil] at q1)
      refine c_exit ?_
      refine x_here xx19 ?_
      refine n_of (N' := NN13) nn13 ?_
      refine c_region fun KK30 kk30 => ?_
      refine n_of (N' := KK30) kk30 ?_
      refine n_of (N' := NL9) nl9 ?_
      refine ⟨⟨y + 1, by omega⟩, ?_, [0, 1, 2, 3, 4, 5], rfl, ?_, ?_⟩
      · (dsimp only; omega)
      · exact LEq.eq ⟨rfl, rfl, rfl, rfl, rfl, congrArg (ar true) (congrArg (bld _) (by (try dsimp only); rw [Nat.add_mul]; omega)), trivial⟩
      · exact ⟨.inr (congrArg (exi .i64) (wr64 (n := (y : Int) + 1) (by omega) (by omega))), .inr rfl, .inr rfl, .inr rfl, .inr rfl, .inr rfl, trivial⟩
  · skip
    have q0 := of_decide_eq_false h0
    (try dsimp only at q0)
    (try simp only [Dat.len, bld_len, List.length_cons, List.length_nil] at q0)
    refine c_exit ?_
    refine x_here xx8 ?_
    refine n_of (N' := NN5) nn5 ?_
    refine c_seq fun NN31 nn31 => ?_
    refine c_region fun KK32 kk32 => ?_
    refine n_of (N' := KK32) kk32 ?_
    refine n_of (N' := NN31) nn31 ?_
    refine c_ret ?_
    refine n_of (N' := R0) hR ?_
    have e : y = H := by omega
    subst e
    exact ⟨[], rfl, by rw [Nat.mul_comm], rfl⟩

theorem s101sp (o : Bool) (xs : List Nat) (z : Nat) (w h : Int) : SP 101 [ar o xs, basV w h 0, .var 32 [.fl .f32 z]] [bas w h 0, .one (.fn 125 [] [1, 2])] [ar o xs, basV w h 0, .var 32 [.fl .f32 z], ar true (gR (isB w h xs && isB w h (grid w h (fun x y => Fsp xs z w h x y))) (grid w h (fun x y => Fsp xs z w h x y)))] (toldB (isB w h xs && isB w h (grid w h (fun x y => Fsp xs z w h x y))) w h 3) := by
  refine spec_of_codeR (fn := Try.f101) tyOK mixes Try.func101 rfl rfl rfl ⟨.inl rfl, ⟨.inl rfl, ⟨.inl rfl, rfl⟩⟩⟩ fun hg R0 hR => ?_
  refine c_seq fun NN1 nn1 => ?_
  refine c_region fun KK2 kk2 => ?_
  refine n_of (N' := KK2) kk2 ?_
  refine n_of (N' := NN1) nn1 ?_
  refine c_seq fun NN3 nn3 => ?_
  refine c_seq fun NN4 nn4 => ?_
  refine c_region fun KK5 kk5 => ?_
  refine ⟨rfl, _, _, (s28 _ _ _ _), ?_⟩
  refine n_of (N' := KK5) kk5 ?_
  refine n_of (N' := NN4) nn4 ?_
  refine c_cond rfl (fun h0 => ?_) (fun h0 => ?_)
  · skip
    refine c_seq fun NN6 nn6 => ?_
    refine c_region fun KK7 kk7 => ?_
    refine n_of (N' := KK7) kk7 ?_
    refine n_of (N' := NN6) nn6 ?_
    refine c_ret ?_
    refine n_of (N' := R0) hR ?_
    have ok : (isB w h xs && isB w h (grid w h (fun x y => Fsp xs z w h x y))) = false := by rw [not_t h0]; rfl
    exact ⟨[.nil 32 (.f [])], rfl, rfl, by rw [ok]; rfl, by rw [ok]; rfl⟩
  · skip
    have hb := not_f h0
    obtain ⟨W, H, rfl, rfl, w1, w2, w3, w4, hl, hWH⟩ := isB_nat hb
    
    refine c_skip ?_
    refine n_of (N' := NN3) nn3 ?_
    refine c_seq fun NN8 nn8 => ?_
    refine c_region fun KK9 kk9 => ?_
    refine ⟨rfl, _, _, s95sp _ _ _ _ w1 w2 w3 w4 hl _, ?_⟩
    refine ⟨rfl, _, _, (s94 _ _ _), ?_⟩
    refine n_of (N' := KK9) kk9 ?_
    refine n_of (N' := NN8) nn8 ?_
    refine c_ret ?_
    refine n_of (N' := R0) hR ?_
    have ok : (isB W H xs && isB W H (grid W H (fun x y => Fsp xs z W H x y))) = isB W H (grid W H (fun x y => Fsp xs z W H x y)) := by rw [hb]; rfl
    exact ⟨[], rfl, by rw [ok], by rw [ok]⟩

theorem s124 (o : Bool) (xs : List Nat) (w h : Int) (z k : Nat) (hb : isB w h xs = true) (hk : k ≤ 64) : SP 124 [basV w h 1, ar o xs] [.one (.pv 0 0), f32 z, i64 k] [basV w h 1, ar o xs, ar true (gR (spok xs z w h k) (spit xs z w h k))] (toldB (spok xs z w h k) w h 2) := by
  refine spec_of_codeR (fn := Try.f124) tyOK mixes Try.func124 rfl rfl rfl ⟨.inl rfl, ⟨.inl rfl, rfl⟩⟩ fun hg R0 hR => ?_
  obtain ⟨W, H, rfl, rfl, w1, w2, w3, w4, hl, hWH⟩ := isB_nat hb
  refine c_seq fun NN1 nn1 => ?_
  refine c_region fun KK2 kk2 => ?_
  refine n_of (N' := KK2) kk2 ?_
  refine n_of (N' := NN1) nn1 ?_
  refine c_seq fun NN3 nn3 => ?_
  refine c_region fun KK4 kk4 => ?_
  refine ⟨rfl, _, _, s113 _ _ _ _ (by omega), ?_⟩
  refine n_of (N' := KK4) kk4 ?_
  refine n_of (N' := NN3) nn3 ?_
  refine c_seq fun NN5 nn5 => ?_
  refine c_seq fun NN6 nn6 => ?_
  refine c_region fun KK7 kk7 => ?_
  refine n_of (N' := KK7) kk7 ?_
  refine n_of (N' := NN6) nn6 ?_
  refine c_block fun XX8 xx8 => ?_
  refine loop_keep [] [1, 2, 6, 8] (ι := { j : Nat // j ≤ k ∧ spok xs z W H j = true }) (fun i => [(9, exi .i64 i.1)]) (fun i => [(3, ar true (spit xs z W H i.1))]) (fun j => k - j.1) ⟨0, Nat.zero_le _, hb⟩ trivial rfl ?_
  refine ⟨?_, ?_, ?_⟩
  · exact ⟨.inr rfl, trivial⟩
  · exact ⟨rfl, rfl, rfl, rfl, rfl, trivial⟩
  refine fun ⟨j, hjk, hj⟩ NL9 nl9 => ?_
  refine c_norm rfl rfl ?_
  have hlj := spit_len (z := z) hl j
  refine c_seq fun NN10 nn10 => ?_
  refine c_seq fun NN11 nn11 => ?_
  refine c_region fun KK12 kk12 => ?_
  refine n_of (N' := KK12) kk12 ?_
  refine n_of (N' := NN11) nn11 ?_
  refine c_cond rfl (fun h0 => ?_) (fun h0 => ?_)
  · skip
    have q0 := of_decide_eq_true h0
    (try dsimp only at q0)
    (try simp only [Dat.len, bld_len, List.length_cons, List.length_nil, List.length_append, List.length_drop] at q0)
    refine c_skip ?_
    refine n_of (N' := NN10) nn10 ?_
    refine c_seq fun NN13 nn13 => ?_
    refine c_block fun XX14 xx14 => ?_
    refine c_seq fun NN15 nn15 => ?_
    refine c_region fun KK16 kk16 => ?_
    refine ⟨rfl, _, _, s120 _ _ _ _ (spok_isB hj), ?_⟩
    refine n_of (N' := KK16) kk16 ?_
    refine n_of (N' := NN15) nn15 ?_
    refine c_seq fun NN17 nn17 => ?_
    refine c_seq fun NN18 nn18 => ?_
    refine c_region fun KK19 kk19 => ?_
    refine n_of (N' := KK19) kk19 ?_
    refine n_of (N' := NN18) nn18 ?_
    refine c_cond rfl (fun h1 => ?_) (fun h1 => ?_)
    · skip
      refine c_seq fun NN20 nn20 => ?_
      refine c_region fun KK21 kk21 => ?_
      refine n_of (N' := KK21) kk21 ?_
      refine n_of (N' := NN20) nn20 ?_
      refine c_ret ?_
      refine n_of (N' := R0) hR ?_
      have okf : spok xs z W H k = false := spok_mono (j := j + 1) (by show (spok xs z W H j && isB W H (spst (spit xs z W H j) z W H)) = false; have := not_t h1; unfold oklap at this; rw [spok_isB hj, Bool.true_and] at this; rw [spread_lap z w1 w2 w3 w4 this, Bool.and_false]) (by omega)
      exact ⟨[.nil 32 (.f [])], rfl, rfl, by rw [okf]; rfl, by rw [okf]; rfl⟩
    · skip
      have hok := not_f h1
      have hokR : (gR (oklap W H (spit xs z W H j)) (grid W H (fun x y => Flap (spit xs z W H j) W H x y))).length = W * H := by rw [hok]; exact grid_len W H _
      refine c_skip ?_
      refine n_of (N' := NN17) nn17 ?_
      refine c_seq fun NN22 nn22 => ?_
      refine c_seq fun NN23 nn23 => ?_
      refine c_region fun KK24 kk24 => ?_
      refine n_of (N' := KK24) kk24 ?_
      refine n_of (N' := NN23) nn23 ?_
      refine c_block fun XX25 xx25 => ?_
      refine loop_keep [] [1, 2, 6, 8, 9, 10] (ι := { i : Nat // i ≤ (spit xs z W H j).length }) (fun i => [(12, exi .i64 i.1)]) (fun i => [(3, ar true (bld (spF (spit xs z W H j) (gR (oklap W H (spit xs z W H j)) (grid W H (fun x y => Flap (spit xs z W H j) W H x y))) z) i.1 ++ (spit xs z W H j).drop i.1))]) (fun i => (spit xs z W H j).length - i.1) ⟨0, Nat.zero_le _⟩ trivial rfl ?_
      refine ⟨?_, ?_, ?_⟩
      · exact ⟨.inr rfl, trivial⟩
      · exact ⟨rfl, rfl, rfl, rfl, rfl, rfl, rfl, trivial⟩
      refine fun ⟨i, hi⟩ NL26 nl26 => ?_
      refine c_norm rfl rfl ?_
      refine c_seq fun NN27 nn27 => ?_
      refine c_seq fun NN28 nn28 => ?_
      refine c_region fun KK29 kk29 => ?_
      refine n_of (N' := KK29) kk29 ?_
      refine n_of (N' := NN28) nn28 ?_
      refine c_cond rfl (fun h2 => ?_) (fun h2 => ?_)
      · skip
        have q2 := of_decide_eq_true h2
        (try dsimp only at q2)
        (try simp only [Dat.len, bld_len, List.length_cons, List.length_nil, List.length_append, List.length_drop] at q2)
        refine c_skip ?_
        refine n_of (N' := NN27) nn27 ?_
        refine c_seq fun NN30 nn30 => ?_
        refine c_block fun XX31 xx31 => ?_
        refine c_draw 16 [0, 1, 2, 3, 4, 5, 6, 7, 8, 9, 10, 11, 12, 13, 14, 15] (by kernel_rfl) fun KK32 kk32 => ?_
        refine And.intro ?_ ?_
        · ((try dsimp only); (try simp only [Dat.len, List.length_append, List.length_drop, bld_len, hokR]); omega)   -- 0 index
        refine And.intro ?_ ?_
        · ((try dsimp only); (try simp only [Dat.len, List.length_append, List.length_drop, bld_len, hokR]); omega)   -- 1 load
        refine And.intro ?_ ?_
        · ((try dsimp only); (try simp only [Dat.len, List.length_append, List.length_drop, bld_len, hokR]); omega)   -- 2 index
        refine And.intro ?_ ?_
        · ((try dsimp only); (try simp only [Dat.len, List.length_append, List.length_drop, bld_len, hokR]); omega)   -- 3 load
        refine And.intro ?_ ?_
        · ((try dsimp only); (try simp only [Dat.len, List.length_append, List.length_drop, bld_len, hokR]); omega)   -- 4 index
        refine And.intro ?_ ?_
        · ((try dsimp only); (try simp only [Dat.len, List.length_append, List.length_drop, bld_len, hokR]); omega)   -- 5 store
        refine n_of (N' := KK32) kk32 ?_
        refine n_of (N' := NN30) nn30 ?_
        refine c_region fun KK33 kk33 => ?_
        refine n_of (N' := KK33) kk33 ?_
        refine n_of (N' := NL26) nl26 ?_
        refine ⟨⟨i + 1, by omega⟩, ?_, [0, 1, 2, 3, 4, 5, 6], rfl, ?_, ?_⟩
        · (dsimp only; omega)
        · exact LEq.eq ⟨rfl, rfl, rfl, congrArg (ar true) (by (try dsimp only); simp only [Int.toNat_natCast]; rw [bld_get _ (by omega)]; exact bld_set (F := (spF (spit xs z W H j) (gR (oklap W H (spit xs z W H j)) (grid W H (fun x y => Flap (spit xs z W H j) W H x y))) z)) (by omega)), rfl, rfl, rfl, trivial⟩
        · exact ⟨.inr (congrArg (exi .i64) (wr64 (n := (i : Int) + 1) (by omega) (by omega))), .inr rfl, .inr rfl, .inr rfl, .inr rfl, .inr rfl, .inr rfl, trivial⟩
      · skip
        have q2 := of_decide_eq_false h2
        (try dsimp only at q2)
        (try simp only [Dat.len, bld_len, List.length_cons, List.length_nil, List.length_append, List.length_drop] at q2)
        have ei : i = (spit xs z W H j).length := by omega
        subst ei
        have e : bld (spF (spit xs z W H j) (gR (oklap W H (spit xs z W H j)) (grid W H (fun x y => Flap (spit xs z W H j) W H x y))) z) (spit xs z W H j).length ++ (spit xs z W H j).drop (spit xs z W H j).length = spit xs z W H (j + 1) := by
          rw [List.drop_length, List.append_nil, hok]
          exact spF_is w1 hlj
        refine c_exit ?_
        refine x_here xx25 ?_
        refine n_of (N' := NN22) nn22 ?_
        refine c_seq fun NN34 nn34 => ?_
        refine c_region fun KK35 kk35 => ?_
        refine ⟨rfl, _, _, s79 _ _ _ _, ?_⟩
        refine n_of (N' := KK35) kk35 ?_
        refine n_of (N' := NN34) nn34 ?_
        refine c_cond rfl (fun h3 => ?_) (fun h3 => ?_)
        · skip
          refine c_seq fun NN36 nn36 => ?_
          refine c_region fun KK37 kk37 => ?_
          refine n_of (N' := KK37) kk37 ?_
          refine n_of (N' := NN36) nn36 ?_
          refine c_ret ?_
          refine n_of (N' := R0) hR ?_
          have okf : spok xs z W H k = false := spok_mono (j := j + 1) (by show (spok xs z W H j && isB W H (spst (spit xs z W H j) z W H)) = false; (try dsimp only at h3); rw [e] at h3; have q : isB W H (spst (spit xs z W H j) z W H) = false := not_t h3; rw [q, Bool.and_false]) (by omega)
          exact ⟨[.nil 32 (.f [])], rfl, rfl, by rw [okf]; rfl, by rw [okf]; rfl⟩
        · skip
          refine c_skip ?_
          refine n_of (N' := NN13) nn13 ?_
          refine c_region fun KK38 kk38 => ?_
          refine n_of (N' := KK38) kk38 ?_
          refine n_of (N' := NL9) nl9 ?_
          refine ⟨⟨j + 1, by omega, by show (spok xs z W H j && isB W H (spit xs z W H (j + 1))) = true; rw [hj, Bool.true_and, ← e]; exact not_f h3⟩, ?_, [0, 1, 2, 3, 4], rfl, ?_, ?_⟩
          · (dsimp only; omega)
          · exact LEq.eq ⟨rfl, rfl, rfl, congrArg (ar true) e, rfl, trivial⟩
          · exact ⟨.inr (congrArg (exi .i64) (wr64 (n := (j : Int) + 1) (by omega) (by omega))), .inr rfl, .inr rfl, .inr rfl, .inr rfl, trivial⟩
  · skip
    have q0 := of_decide_eq_false h0
    (try dsimp only at q0)
    (try simp only [Dat.len, bld_len, List.length_cons, List.length_nil, List.length_append, List.length_drop] at q0)
    refine c_exit ?_
    refine x_here xx8 ?_
    refine n_of (N' := NN5) nn5 ?_
    refine c_seq fun NN39 nn39 => ?_
    refine c_region fun KK40 kk40 => ?_
    refine n_of (N' := KK40) kk40 ?_
    refine n_of (N' := NN39) nn39 ?_
    refine c_ret ?_
    refine n_of (N' := R0) hR ?_
    have e : j = k := by omega
    subst e
    exact ⟨[], rfl, by (try dsimp only); rw [hj]; rfl, by (try dsimp only); rw [hj]; rfl⟩

theorem s66 (o : Bool) (xs : List Nat) (w h : Int) (z : Nat) (k : Int) : SP 66 [ar o xs] [bas w h 0, f32 z, i64 k] [ar o xs, ar true (gR (okspread w h xs z k) (Rspread w h xs z k))] (toldB (okspread w h xs z k) w h 1) := by
  refine spec_of_codeR (fn := Try.f66) tyOK mixes Try.func66 rfl rfl rfl ⟨.inl rfl, rfl⟩ fun hg R0 hR => ?_
  refine c_seq fun NN1 nn1 => ?_
  refine c_region fun KK2 kk2 => ?_
  refine n_of (N' := KK2) kk2 ?_
  refine n_of (N' := NN1) nn1 ?_
  refine c_seq fun NN3 nn3 => ?_
  refine c_seq fun NN4 nn4 => ?_
  refine c_region fun KK5 kk5 => ?_
  refine ⟨rfl, _, _, (s79 _ _ _ _), ?_⟩
  refine And.intro (fun h0 => ?_) (fun h0 => ?_)
  · skip
    refine And.intro (fun _ => ?_) (fun h => nomatch h)
    refine n_of (N' := KK5) kk5 ?_
    refine n_of (N' := NN4) nn4 ?_
    refine c_cond rfl (fun _ => ?_) (fun h => nomatch h)
    refine c_seq fun NN6 nn6 => ?_
    refine c_region fun KK7 kk7 => ?_
    refine n_of (N' := KK7) kk7 ?_
    refine n_of (N' := NN6) nn6 ?_
    refine c_ret ?_
    refine n_of (N' := R0) hR ?_
    have ok : okspread w h xs z k = false := by unfold okspread; rw [spok_mono (j := 0) (not_t h0) (Nat.zero_le _), Bool.and_false]
    exact ⟨[.nil 32 (.f [])], rfl, rfl, by rw [ok]; rfl, by rw [ok]; rfl⟩
  · skip
    have hb := not_f h0
    refine ⟨rfl, _, _, (s107 _), ?_⟩
    refine And.intro (fun h1 => ?_) (fun h1 => ?_)
    · skip
      refine n_of (N' := KK5) kk5 ?_
      refine n_of (N' := NN4) nn4 ?_
      refine c_cond rfl (fun _ => ?_) (fun h => nomatch h)
      refine c_seq fun NN8 nn8 => ?_
      refine c_region fun KK9 kk9 => ?_
      refine n_of (N' := KK9) kk9 ?_
      refine n_of (N' := NN8) nn8 ?_
      refine c_ret ?_
      refine n_of (N' := R0) hR ?_
      have ok : okspread w h xs z k = false := by unfold okspread; rw [not_t h1]; rfl
      exact ⟨[.nil 32 (.f [])], rfl, rfl, by rw [ok]; rfl, by rw [ok]; rfl⟩
    · skip
      refine ⟨rfl, _, _, (s104 _ _ _), ?_⟩
      refine n_of (N' := KK5) kk5 ?_
      refine n_of (N' := NN4) nn4 ?_
      refine c_cond rfl (fun h2 => ?_) (fun h2 => ?_)
      · skip
        refine c_seq fun NN10 nn10 => ?_
        refine c_region fun KK11 kk11 => ?_
        refine n_of (N' := KK11) kk11 ?_
        refine n_of (N' := NN10) nn10 ?_
        refine c_ret ?_
        refine n_of (N' := R0) hR ?_
        have ok : okspread w h xs z k = false := by unfold okspread; rw [not_t h2]; simp
        exact ⟨[.nil 32 (.f [])], rfl, rfl, by rw [ok]; rfl, by rw [ok]; rfl⟩
      · skip
        have hk := inB_le (not_f h2)
        obtain ⟨K, rfl⟩ : ∃ K : Nat, k = K := ⟨k.toNat, by omega⟩
        refine c_skip ?_
        refine n_of (N' := NN3) nn3 ?_
        refine c_seq fun NN12 nn12 => ?_
        refine c_region fun KK13 kk13 => ?_
        refine ⟨rfl, _, _, s124 _ _ _ _ _ K hb (by omega), ?_⟩
        refine n_of (N' := KK13) kk13 ?_
        refine n_of (N' := NN12) nn12 ?_
        refine c_ret ?_
        refine n_of (N' := R0) hR ?_
        have ok : okspread w h xs z K = spok xs z w h K := by unfold okspread; rw [not_f h1, not_f h2]; rfl
        exact ⟨[], rfl, by rw [ok]; rfl, by rw [ok]⟩

theorem s67 (o : Bool) (xs : List Nat) (w h : Int) (z : Nat) (k : Int) : SP 67 [ar o xs] [bas w h 0, f32 z, i64 k] [ar o xs, ar true (gR (okspread w h xs z k) (Rspread w h xs z k))] (toldB (okspread w h xs z k) w h 1) := by
  refine spec_of_codeR (fn := Try.f67) tyOK mixes Try.func67 rfl rfl rfl ⟨.inl rfl, rfl⟩ fun hg R0 hR => ?_
  refine c_seq fun NN1 nn1 => ?_
  refine c_region fun KK2 kk2 => ?_
  refine n_of (N' := KK2) kk2 ?_
  refine n_of (N' := NN1) nn1 ?_
  refine c_seq fun NN3 nn3 => ?_
  refine c_seq fun NN4 nn4 => ?_
  refine c_region fun KK5 kk5 => ?_
  refine ⟨rfl, _, _, (s111 _), ?_⟩
  refine And.intro (fun h0 => ?_) (fun h0 => ?_)
  · skip
    refine n_of (N' := KK5) kk5 ?_
    refine n_of (N' := NN4) nn4 ?_
    refine c_cond rfl (fun _ => ?_) (fun h => nomatch h)
    refine c_seq fun NN6 nn6 => ?_
    refine c_region fun KK7 kk7 => ?_
    refine n_of (N' := KK7) kk7 ?_
    refine n_of (N' := NN6) nn6 ?_
    refine c_ret ?_
    refine n_of (N' := R0) hR ?_
    have ok : okspread w h xs z k = false := by unfold okspread; rw [not_t h0]; rfl
    exact ⟨[.nil 32 (.f [])], rfl, rfl, by rw [ok]; rfl, by rw [ok]; rfl⟩
  · skip
    refine ⟨rfl, _, _, (s105 _ _ _), ?_⟩
    refine n_of (N' := KK5) kk5 ?_
    refine n_of (N' := NN4) nn4 ?_
    refine c_cond rfl (fun h1 => ?_) (fun h1 => ?_)
    · skip
      refine c_seq fun NN8 nn8 => ?_
      refine c_region fun KK9 kk9 => ?_
      refine n_of (N' := KK9) kk9 ?_
      refine n_of (N' := NN8) nn8 ?_
      refine c_ret ?_
      refine n_of (N' := R0) hR ?_
      have ok : okspread w h xs z k = false := by unfold okspread; rw [not_t h1]; simp
      exact ⟨[.nil 32 (.f [])], rfl, rfl, by rw [ok]; rfl, by rw [ok]; rfl⟩
    · skip
      have hk := inB_le (not_f h1)
      obtain ⟨K, rfl⟩ : ∃ K : Nat, k = K := ⟨k.toNat, by omega⟩
      have ok : okspread w h xs z K = spok xs z w h K := by unfold okspread; rw [not_f h0, not_f h1]; rfl
      refine c_skip ?_
      refine n_of (N' := NN3) nn3 ?_
      refine c_seq fun NN10 nn10 => ?_
      refine c_region fun KK11 kk11 => ?_
      refine ⟨rfl, _, _, s101at _ _ _ _, ?_⟩
      refine n_of (N' := KK11) kk11 ?_
      refine n_of (N' := NN10) nn10 ?_
      refine c_seq fun NN12 nn12 => ?_
      refine c_seq fun NN13 nn13 => ?_
      refine c_region fun KK14 kk14 => ?_
      refine n_of (N' := KK14) kk14 ?_
      refine n_of (N' := NN13) nn13 ?_
      refine c_block fun XX15 xx15 => ?_
      refine loop_keep [] [2, 4, 6, 8] (ι := { j : Nat // j ≤ K }) (fun i => [(10, exi .i64 i.1), (9, exb (spok xs z w h i.1))]) (fun i => [(4, ar true (gR (spok xs z w h i.1) (spit xs z w h i.1))), (5, .var 27 [.ex (.int .i64 (gI (spok xs z w h i.1) w)), .ex (.int .i64 (gI (spok xs z w h i.1) h)), .sl 4])]) (fun j => K - j.1) ⟨0, Nat.zero_le _⟩ trivial rfl ?_
      refine ⟨?_, ?_, ?_⟩
      · exact ⟨.inr rfl, .inr (congrArg exb (okat w h xs)), trivial⟩
      · exact ⟨rfl, rfl, rfl, rfl, congrArg (ar true) (by rw [okat]; exact Rat w h xs), by rw [okat]; rfl, trivial⟩
      refine fun ⟨j, hjk⟩ NL16 nl16 => ?_
      refine c_norm rfl rfl ?_
      refine c_seq fun NN17 nn17 => ?_
      refine c_seq fun NN18 nn18 => ?_
      refine c_region fun KK19 kk19 => ?_
      refine And.intro (fun h2 => ?_) (fun h2 => ?_)
      · skip
        have q2 := of_decide_eq_true h2
        (try dsimp only at q2)
        (try simp only [Dat.len] at q2)
        refine n_of (N' := KK19) kk19 ?_
        refine n_of (N' := NN18) nn18 ?_
        refine c_cond rfl (fun h3 => ?_) (fun h3 => ?_)
        · skip
          have hj : spok xs z w h j = true := h3
          refine c_skip ?_
          refine n_of (N' := NN17) nn17 ?_
          refine c_seq fun NN20 nn20 => ?_
          refine c_block fun XX21 xx21 => ?_
          refine c_seq fun NN22 nn22 => ?_
          refine c_region fun KK23 kk23 => ?_
          refine n_of (N' := KK23) kk23 ?_
          refine n_of (N' := NN22) nn22 ?_
          refine c_region fun KK24 kk24 => ?_
          refine ⟨rfl, _, _, s101sp _ _ _ _ _, ?_⟩
          refine n_of (N' := KK24) kk24 ?_
          refine n_of (N' := NN20) nn20 ?_
          refine c_region fun KK25 kk25 => ?_
          refine n_of (N' := KK25) kk25 ?_
          refine n_of (N' := NL16) nl16 ?_
          have e0 : (isB (gI (spok xs z w h j) w) (gI (spok xs z w h j) h) (gR (spok xs z w h j) (spit xs z w h j)) && isB (gI (spok xs z w h j) w) (gI (spok xs z w h j) h) (grid (gI (spok xs z w h j) w) (gI (spok xs z w h j) h) (fun x y => Fsp (gR (spok xs z w h j) (spit xs z w h j)) z (gI (spok xs z w h j) w) (gI (spok xs z w h j) h) x y))) = spok xs z w h (j + 1) := by
            rw [hj]
            show (isB w h (spit xs z w h j) && isB w h (spit xs z w h (j + 1))) = (spok xs z w h j && isB w h (spit xs z w h (j + 1)))
            rw [hj, spok_isB hj]
          have e1 : grid (gI (spok xs z w h j) w) (gI (spok xs z w h j) h) (fun x y => Fsp (gR (spok xs z w h j) (spit xs z w h j)) z (gI (spok xs z w h j) w) (gI (spok xs z w h j) h) x y) = spit xs z w h (j + 1) := by rw [hj]; rfl
          have e2 : gI (spok xs z w h j) w = w := by rw [hj]; rfl
          have e3 : gI (spok xs z w h j) h = h := by rw [hj]; rfl
          refine ⟨⟨j + 1, by omega⟩, ?_, [0, 1, 2, 3, 7, 5], rfl, ?_, ?_⟩
          · (dsimp only; omega)
          · exact LEq.eq ⟨rfl, rfl, rfl, rfl, congrArg (ar true) (by rw [e0, e1]), by rw [e0, e2, e3]; try rfl, trivial⟩
          · exact ⟨.inr (congrArg (exi .i64) (wr64 (n := (j : Int) + 1) (by omega) (by omega))), .inr (congrArg exb e0), .inr rfl, .inr rfl, .inr rfl, .inr rfl, trivial⟩
        · skip
          have hj : spok xs z w h j = false := h3
          refine c_exit ?_
          refine x_here xx15 ?_
          refine n_of (N' := NN12) nn12 ?_
          refine c_seq fun NN26 nn26 => ?_
          refine c_region fun KK27 kk27 => ?_
          refine n_of (N' := KK27) kk27 ?_
          refine n_of (N' := NN26) nn26 ?_
          refine c_ret ?_
          refine n_of (N' := R0) hR ?_
          have okf : okspread w h xs z K = spok xs z w h j := by rw [ok, hj]; exact spok_mono hj hjk
          exact ⟨[], rfl, by (try dsimp only); rw [okf, hj]; (try rfl), by (try dsimp only); rw [okf]⟩
      · skip
        have q2 := of_decide_eq_false h2
        (try dsimp only at q2)
        (try simp only [Dat.len] at q2)
        refine n_of (N' := KK19) kk19 ?_
        refine n_of (N' := NN18) nn18 ?_
        refine c_cond rfl (fun h => nomatch h) (fun _ => ?_)
        refine c_exit ?_
        refine x_here xx15 ?_
        refine n_of (N' := NN12) nn12 ?_
        refine c_seq fun NN28 nn28 => ?_
        refine c_region fun KK29 kk29 => ?_
        refine n_of (N' := KK29) kk29 ?_
        refine n_of (N' := NN28) nn28 ?_
        refine c_ret ?_
        refine n_of (N' := R0) hR ?_
        have e : j = K := by omega
        subst e
        exact ⟨[], rfl, by (try dsimp only); rw [ok]; (try rfl), by (try dsimp only); rw [ok]⟩

theorem s19 (o : Bool) (xs : List Nat) (w h : Int) (z : Nat) (k : Int) : SP 19 [ar o xs] [bas w h 0, f32 z, i64 k] [ar o xs] (exb true) := by
  refine spec_of_codeR (fn := Try.f19) tyOK mixes Try.func19 rfl rfl rfl ⟨.inl rfl, rfl⟩ fun hg R0 hR => ?_
  have hR1 : (gR (okspread w h xs z k) (Rspread w h xs z k)).length ≤ 256 := gR_len fun hb => isB_len256 (w := w) (h := h) (spok_isB (by unfold okspread at hb; simp only [Bool.and_eq_true] at hb; exact hb.2))
  refine c_seq fun NN1 nn1 => ?_
  refine c_region fun KK2 kk2 => ?_
  refine n_of (N' := KK2) kk2 ?_
  refine n_of (N' := NN1) nn1 ?_
  refine c_seq fun NN3 nn3 => ?_
  refine c_region fun KK4 kk4 => ?_
  refine n_of (N' := KK4) kk4 ?_
  refine n_of (N' := NN3) nn3 ?_
  refine c_seq fun NN5 nn5 => ?_
  refine c_region fun KK6 kk6 => ?_
  refine ⟨rfl, _, _, (s25 _ _ _ _ _), ?_⟩
  refine n_of (N' := KK6) kk6 ?_
  refine n_of (N' := NN5) nn5 ?_
  refine c_seq fun NN7 nn7 => ?_
  refine c_seq fun NN8 nn8 => ?_
  refine c_region fun KK9 kk9 => ?_
  refine n_of (N' := KK9) kk9 ?_
  refine n_of (N' := NN8) nn8 ?_
  refine c_cond rfl (fun h0 => ?_) (fun h0 => ?_)
  · skip
    have q0 := of_decide_eq_true h0
    (try dsimp only at q0)
    (try simp only [Dat.len] at q0)
    refine c_seq fun NN10 nn10 => ?_
    refine c_region fun KK11 kk11 => ?_
    refine n_of (N' := KK11) kk11 ?_
    refine n_of (N' := NN10) nn10 ?_
    refine c_ret ?_
    refine n_of (N' := R0) hR ?_
    exact ⟨[], rfl, rfl, rfl⟩
  · skip
    have q0 := of_decide_eq_false h0
    (try dsimp only at q0)
    (try simp only [Dat.len] at q0)
    have hn : xs.length ≤ 1048576 := sz_le h0 hg.1.1.1
    refine c_skip ?_
    refine n_of (N' := NN7) nn7 ?_
    refine c_seq fun NN12 nn12 => ?_
    refine c_region fun KK13 kk13 => ?_
    refine ⟨rfl, _, _, (s27 _ _ (by ((try dsimp only); first | assumption | omega | (simp (disch := omega) only [wr64]; omega))) _ _), ?_⟩
    refine ⟨rfl, _, _, (s66 _ _ _ _ _ _), ?_⟩
    refine n_of (N' := KK13) kk13 ?_
    refine n_of (N' := NN12) nn12 ?_
    refine c_seq fun NN14 nn14 => ?_
    refine c_region fun KK15 kk15 => ?_
    refine ⟨rfl, _, _, (s27 _ _ (by ((try dsimp only); first | assumption | omega | (simp (disch := omega) only [wr64]; omega))) _ _), ?_⟩
    refine n_of (N' := KK15) kk15 ?_
    refine n_of (N' := NN14) nn14 ?_
    refine c_seq fun NN16 nn16 => ?_
    refine c_region fun KK17 kk17 => ?_
    refine ⟨rfl, _, _, (s67 _ _ _ _ _ _), ?_⟩
    refine n_of (N' := KK17) kk17 ?_
    refine n_of (N' := NN16) nn16 ?_
    refine c_seq fun NN18 nn18 => ?_
    refine c_seq fun NN19 nn19 => ?_
    refine c_region fun KK20 kk20 => ?_
    refine ⟨rfl, _, _, (s29 _ _ _ _ _), ?_⟩
    refine And.intro (fun h1 => ?_) (fun h1 => ?_)
    · skip
      (first | (cases h1; done) | exact bnn h1 | (have q := of_decide_eq_true h1; exfalso; omega) | exact absurd rfl (ne_of_bneT h1))
    · skip
      refine n_of (N' := KK20) kk20 ?_
      refine n_of (N' := NN19) nn19 ?_
      refine c_cond rfl (fun h2 => ?_) (fun h2 => ?_)
      · skip
        (first | (cases h2; done) | exact bnn h2 | (have q := of_decide_eq_true h2; exfalso; omega) | exact absurd rfl (ne_of_bneT h2))
      · skip
        refine c_skip ?_
        refine n_of (N' := NN18) nn18 ?_
        refine c_seq fun NN21 nn21 => ?_
        refine c_seq fun NN22 nn22 => ?_
        refine c_draw 3 [0, 1, 2] (by kernel_rfl) fun KK23 kk23 => ?_
        refine ⟨rfl, _, _, (s27 _ _ (by ((try dsimp only); first | assumption | omega | (simp (disch := omega) only [wr64]; omega))) _ _), rfl, ?_⟩
        refine ⟨rfl, _, _, (s29 _ _ _ _ _), ?_⟩
        refine n_of (N' := KK23) kk23 ?_
        refine n_of (N' := NN22) nn22 ?_
        refine c_cond rfl (fun h3 => ?_) (fun h3 => ?_)
        · skip
          (first | (cases h3; done) | exact bnn h3 | (have q := of_decide_eq_true h3; exfalso; omega) | exact absurd rfl (ne_of_bneT h3))
        · skip
          refine c_skip ?_
          refine n_of (N' := NN21) nn21 ?_
          refine c_seq fun NN24 nn24 => ?_
          refine c_region fun KK25 kk25 => ?_
          refine n_of (N' := KK25) kk25 ?_
          refine n_of (N' := NN24) nn24 ?_
          refine c_seq fun NN26 nn26 => ?_
          refine c_region fun KK27 kk27 => ?_
          refine ⟨rfl, _, _, (s41 _ _ _ _ (by ((try dsimp only); first | assumption | omega | (simp (disch := omega) only [wr64]; omega))) (by ((try dsimp only); first | assumption | omega | (simp (disch := omega) only [wr64]; omega))) (by ((try dsimp only); first | assumption | omega | (simp (disch := omega) only [wr64]; omega)))), ?_⟩
          refine n_of (N' := KK27) kk27 ?_
          refine n_of (N' := NN26) nn26 ?_
          refine c_seq fun NN28 nn28 => ?_
          refine c_seq fun NN29 nn29 => ?_
          refine c_region fun KK30 kk30 => ?_
          refine And.intro (fun h4 => ?_) (fun h4 => ?_)
          · skip
            (first | (cases h4; done) | exact bnn h4 | (have q := of_decide_eq_true h4; exfalso; omega) | exact absurd rfl (ne_of_bneT h4))
          · skip
            have q4 := of_decide_eq_false h4
            (try dsimp only at q4)
            (try simp only [Dat.len] at q4)
            refine ⟨rfl, _, _, (s29 _ _ _ _ _), ?_⟩
            refine And.intro (fun h5 => ?_) (fun h5 => ?_)
            · skip
              (first | (cases h5; done) | exact bnn h5 | (have q := of_decide_eq_true h5; exfalso; omega) | exact absurd rfl (ne_of_bneT h5))
            · skip
              refine n_of (N' := KK30) kk30 ?_
              refine n_of (N' := NN29) nn29 ?_
              refine c_cond rfl (fun h6 => ?_) (fun h6 => ?_)
              · skip
                (first | (cases h6; done) | exact bnn h6 | (have q := of_decide_eq_true h6; exfalso; omega) | exact absurd rfl (ne_of_bneT h6))
              · skip
                refine c_skip ?_
                refine n_of (N' := NN28) nn28 ?_
                refine c_seq fun NN31 nn31 => ?_
                refine c_region fun KK32 kk32 => ?_
                refine n_of (N' := KK32) kk32 ?_
                refine n_of (N' := NN31) nn31 ?_
                refine c_seq fun NN33 nn33 => ?_
                refine c_region fun KK34 kk34 => ?_
                refine ⟨rfl, _, _, (s41 _ _ _ _ (by ((try dsimp only); first | assumption | omega | (simp (disch := omega) only [wr64]; omega))) (by ((try dsimp only); first | assumption | omega | (simp (disch := omega) only [wr64]; omega))) (by ((try dsimp only); first | assumption | omega | (simp (disch := omega) only [wr64]; omega)))), ?_⟩
                refine n_of (N' := KK34) kk34 ?_
                refine n_of (N' := NN33) nn33 ?_
                refine c_seq fun NN35 nn35 => ?_
                refine c_region fun KK36 kk36 => ?_
                refine n_of (N' := KK36) kk36 ?_
                refine n_of (N' := NN35) nn35 ?_
                refine c_seq fun NN37 nn37 => ?_
                refine c_region fun KK38 kk38 => ?_
                refine ⟨rfl, _, _, (s42 _ _ _ _ _ (by ((try dsimp only); first | assumption | omega | (simp (disch := omega) only [wr64]; omega))) (by ((try dsimp only); first | assumption | omega | (simp (disch := omega) only [wr64]; omega))) (by ((try dsimp only); first | assumption | omega | (simp (disch := omega) only [wr64]; omega)))), ?_⟩
                refine n_of (N' := KK38) kk38 ?_
                refine n_of (N' := NN37) nn37 ?_
                refine c_seq fun NN39 nn39 => ?_
                refine c_seq fun NN40 nn40 => ?_
                refine c_region fun KK41 kk41 => ?_
                refine n_of (N' := KK41) kk41 ?_
                refine n_of (N' := NN40) nn40 ?_
                refine c_cond rfl (fun h7 => ?_) (fun h7 => ?_)
                · skip
                  (first | (cases h7; done) | exact bnn h7 | (have q := of_decide_eq_true h7; exfalso; omega) | exact absurd rfl (ne_of_bneT h7))
                · skip
                  have q7 := of_decide_eq_false h7
                  (try dsimp only at q7)
                  (try simp only [Dat.len] at q7)
                  refine c_skip ?_
                  refine n_of (N' := NN39) nn39 ?_
                  refine c_seq fun NN42 nn42 => ?_
                  refine c_seq fun NN43 nn43 => ?_
                  refine c_region fun KK44 kk44 => ?_
                  refine n_of (N' := KK44) kk44 ?_
                  refine n_of (N' := NN43) nn43 ?_
                  refine c_cond rfl (fun h8 => ?_) (fun h8 => ?_)
                  · skip
                    (first | (cases h8; done) | exact bnn h8 | (have q := of_decide_eq_true h8; exfalso; omega) | exact absurd rfl (ne_of_bneT h8))
                  · skip
                    have q8 := eq_of_bneF h8
                    (try dsimp only at q8)
                    (try simp only [Dat.len] at q8)
                    refine c_skip ?_
                    refine n_of (N' := NN42) nn42 ?_
                    refine c_seq fun NN45 nn45 => ?_
                    refine c_region fun KK46 kk46 => ?_
                    refine ⟨rfl, _, _, (s27 _ _ (by ((try dsimp only); first | assumption | omega | (simp (disch := omega) only [wr64]; omega))) _ _), ?_⟩
                    refine ⟨rfl, _, _, (s67 _ _ _ _ _ _), ?_⟩
                    refine n_of (N' := KK46) kk46 ?_
                    refine n_of (N' := NN45) nn45 ?_
                    refine c_seq fun NN47 nn47 => ?_
                    refine c_seq fun NN48 nn48 => ?_
                    refine c_region fun KK49 kk49 => ?_
                    refine ⟨rfl, _, _, (s29 _ _ _ _ _), ?_⟩
                    refine And.intro (fun h9 => ?_) (fun h9 => ?_)
                    · skip
                      (first | (cases h9; done) | exact bnn h9 | (have q := of_decide_eq_true h9; exfalso; omega) | exact absurd rfl (ne_of_bneT h9))
                    · skip
                      refine n_of (N' := KK49) kk49 ?_
                      refine n_of (N' := NN48) nn48 ?_
                      refine c_cond rfl (fun h10 => ?_) (fun h10 => ?_)
                      · skip
                        (first | (cases h10; done) | exact bnn h10 | (have q := of_decide_eq_true h10; exfalso; omega) | exact absurd rfl (ne_of_bneT h10))
                      · skip
                        refine c_skip ?_
                        refine n_of (N' := NN47) nn47 ?_
                        refine c_seq fun NN50 nn50 => ?_
                        refine c_region fun KK51 kk51 => ?_
                        refine n_of (N' := KK51) kk51 ?_
                        refine n_of (N' := NN50) nn50 ?_
                        refine c_seq fun NN52 nn52 => ?_
                        refine c_region fun KK53 kk53 => ?_
                        refine ⟨rfl, _, _, (s42 _ _ _ _ _ (by ((try dsimp only); first | assumption | omega | (simp (disch := omega) only [wr64]; omega))) (by ((try dsimp only); first | assumption | omega | (simp (disch := omega) only [wr64]; omega))) (by ((try dsimp only); first | assumption | omega | (simp (disch := omega) only [wr64]; omega)))), ?_⟩
                        refine n_of (N' := KK53) kk53 ?_
                        refine n_of (N' := NN52) nn52 ?_
                        refine c_seq fun NN54 nn54 => ?_
                        refine c_seq fun NN55 nn55 => ?_
                        refine c_region fun KK56 kk56 => ?_
                        refine n_of (N' := KK56) kk56 ?_
                        refine n_of (N' := NN55) nn55 ?_
                        refine c_cond rfl (fun h11 => ?_) (fun h11 => ?_)
                        · skip
                          (first | (cases h11; done) | exact bnn h11 | (have q := of_decide_eq_true h11; exfalso; omega) | exact absurd rfl (ne_of_bneT h11))
                        · skip
                          have q11 := of_decide_eq_false h11
                          (try dsimp only at q11)
                          (try simp only [Dat.len] at q11)
                          refine c_skip ?_
                          refine n_of (N' := NN54) nn54 ?_
                          refine c_seq fun NN57 nn57 => ?_
                          refine c_seq fun NN58 nn58 => ?_
                          refine c_region fun KK59 kk59 => ?_
                          refine n_of (N' := KK59) kk59 ?_
                          refine n_of (N' := NN58) nn58 ?_
                          refine c_cond rfl (fun h12 => ?_) (fun h12 => ?_)
                          · skip
                            (first | (cases h12; done) | exact bnn h12 | (have q := of_decide_eq_true h12; exfalso; omega) | exact absurd rfl (ne_of_bneT h12))
                          · skip
                            have q12 := eq_of_bneF h12
                            (try dsimp only at q12)
                            (try simp only [Dat.len] at q12)
                            refine c_skip ?_
                            refine n_of (N' := NN57) nn57 ?_
                            refine c_seq fun NN60 nn60 => ?_
                            refine c_region fun KK61 kk61 => ?_
                            refine n_of (N' := KK61) kk61 ?_
                            refine n_of (N' := NN60) nn60 ?_
                            refine c_ret ?_
                            refine n_of (N' := R0) hR ?_
                            exact ⟨[], rfl, rfl, rfl⟩

end
end Go.AX