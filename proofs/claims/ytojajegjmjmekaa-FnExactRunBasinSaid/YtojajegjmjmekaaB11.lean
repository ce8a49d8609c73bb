/- What the functions of this program do, one contract a function, by that walk: each under what its own statement says. -/
import Derived.Test.YtojajegjmjmekaaB10
set_option linter.unusedVariables false
set_option linter.unusedSimpArgs false
namespace Go.AX
noncomputable section
open Go.RowKit Go.Proofs
set_option maxRecDepth 100000
set_option maxHeartbeats 4000000

theorem cellb (i W : Nat) (h : 0 < W) (hi : i ≤ 256) : (0 : Int) ≤ ((i % W : Nat) : Int) ∧ ((i % W : Nat) : Int) < W ∧ (0 : Int) ≤ ((i / W : Nat) : Int) ∧ ((i / W : Nat) : Int) ≤ 256 := by
  have h1 := Nat.mod_lt i h
  have h2 := Nat.div_le_self i W
  exact ⟨Int.natCast_nonneg _, Int.ofNat_lt.2 h1, Int.natCast_nonneg _, Int.le_trans (Int.ofNat_le.2 h2) (by omega)⟩
def Fmir (xs : List Nat) (w h x y : Int) : Nat := fneg .f32 (atV xs w h (w - 1 - x) y)
def Froll (xs : List Nat) (a b : Int) (w h x y : Int) : Nat := atV xs w h (x - a) (y - b)
def Four (xs : List Nat) (w h x y : Int) : Nat := fop .add .f32 (fop .add .f32 (atV xs w h (x - 1) y) (atV xs w h (x + 1) y)) (fop .add .f32 (atV xs w h x (y - 1)) (atV xs w h x (y + 1)))
def Flap (xs : List Nat) (w h x y : Int) : Nat := fop .sub .f32 (Four xs w h x y) (fop .mul .f32 (cn .f32 1082130432) (atV xs w h x y))
def Fscale (xs : List Nat) (z : Nat) (w h x y : Int) : Nat := fop .mul .f32 (atV xs w h x y) z
def Fadd (xs ys : List Nat) (w h x y : Int) : Nat := fop .add .f32 (atV xs w h x y) (atV ys w h x y)
theorem finB_neg (x : Nat) : finB (fneg .f32 x) = finB x := by rw [finB_num, finB_num, isNum_neg]
theorem grid_is {W H : Nat} {φ : Int → Int → Nat} (h1 : 3 ≤ W) (h2 : W ≤ 16) (h3 : 3 ≤ H) (h4 : H ≤ 16) (hf : ∀ x y : Int, finB (φ x y) = true) : isB W H (grid W H φ) = true :=
  isB_of h1 h2 h3 h4 (grid_len W H φ) (by rw [gridN]; exact bld_all fun i _ => hf _ _)
theorem grid_own {W H : Nat} {xs : List Nat} (g : Nat → Nat → Nat) (h1 : 3 ≤ W) (φ : Int → Int → Nat) (hφ : ∀ i, i < W * H → φ ((i % W : Nat) : Int) ((i / W : Nat) : Int) = g i (atV xs W H ((i % W : Nat) : Int) ((i / W : Nat) : Int))) :
    grid W H φ = bld (fun i => g i (xs.getD i 0)) (W * H) := by
  rw [gridN]
  exact bld_congr fun i hi => by rw [hφ i hi, atV_in (by omega) hi]

theorem s102 (o : Bool) (xs : List Nat) (W H : Nat) (w1 : 3 ≤ W) (w2 : W ≤ 16) (w3 : 3 ≤ H) (w4 : H ≤ 16) (hl : xs.length = W * H) (x y : Int) (hx : 0 ≤ x) (hx2 : x < W) (hy : 0 ≤ y) (hy2 : y < H) : SP 102 [basV W H 1, ar o xs] [i64 x, i64 y, .one (.pv 0 0)] [basV W H 1, ar o xs] (fl32 (Fmir xs W H x y)) := by
  refine spec_of_codeR (fn := Try.f102) tyOK mixes Try.func102 rfl rfl rfl ⟨.inl rfl, ⟨.inl rfl, rfl⟩⟩ fun hg R0 hR => ?_
  refine c_seq fun NN1 nn1 => ?_
  refine c_region fun KK2 kk2 => ?_
  refine n_of (N' := KK2) kk2 ?_
  refine n_of (N' := NN1) nn1 ?_
  refine c_seq fun NN3 nn3 => ?_
  refine c_region fun KK4 kk4 => ?_
  refine ⟨rfl, _, _, (s103 _ _ _ _ (by ((try dsimp only); first | assumption | omega | (simp (disch := omega) only [wr64]; omega))) (by ((try dsimp only); first | assumption | omega | (simp (disch := omega) only [wr64]; omega))) (by ((try dsimp only); first | assumption | omega | (simp (disch := omega) only [wr64]; omega))) (by ((try dsimp only); first | assumption | omega | (simp (disch := omega) only [wr64]; omega))) (by ((try dsimp only); first | assumption | omega | (simp (disch := omega) only [wr64]; omega))) _ _), ?_⟩
  refine n_of (N' := KK4) kk4 ?_
  refine n_of (N' := NN3) nn3 ?_
  refine c_ret ?_
  refine n_of (N' := R0) hR ?_
  exact ⟨[], rfl, rfl, congrArg fl32 (by unfold Fmir; simp (disch := omega) only [wr64])⟩

theorem s106 (o : Bool) (xs : List Nat) (W H : Nat) (w1 : 3 ≤ W) (w2 : W ≤ 16) (w3 : 3 ≤ H) (w4 : H ≤ 16) (hl : xs.length = W * H) (a b : Int) (ha : -16 ≤ a ∧ a ≤ 16) (hb : -16 ≤ b ∧ b ≤ 16) (x y : Int) (hx : 0 ≤ x) (hx2 : x < W) (hy : 0 ≤ y) (hy2 : y < H) : SP 106 [basV W H 3, .var 2 [.ex (.int .i64 a)], .var 2 [.ex (.int .i64 b)], ar o xs] [i64 x, i64 y, .one (.pv 0 0), .one (.pv 1 0), .one (.pv 2 0)] [basV W H 3, .var 2 [.ex (.int .i64 a)], .var 2 [.ex (.int .i64 b)], ar o xs] (fl32 (Froll xs a b W H x y)) := by
  refine spec_of_codeR (fn := Try.f106) tyOK mixes Try.func106 rfl rfl rfl ⟨.inl rfl, ⟨.inl rfl, ⟨.inl rfl, ⟨.inl rfl, rfl⟩⟩⟩⟩ fun hg R0 hR => ?_
  refine c_seq fun NN1 nn1 => ?_
  refine c_region fun KK2 kk2 => ?_
  refine n_of (N' := KK2) kk2 ?_
  refine n_of (N' := NN1) nn1 ?_
  refine c_seq fun NN3 nn3 => ?_
  refine c_region fun KK4 kk4 => ?_
  refine ⟨rfl, _, _, (s103 _ _ _ _ (by ((try dsimp only); first | assumption | omega | (simp (disch := omega) only [wr64]; omega))) (by ((try dsimp only); first | assumption | omega | (simp (disch := omega) only [wr64]; omega))) (by ((try dsimp only); first | assumption | omega | (simp (disch := omega) only [wr64]; omega))) (by ((try dsimp only); first | assumption | omega | (simp (disch := omega) only [wr64]; omega))) (by ((try dsimp only); first | assumption | omega | (simp (disch := omega) only [wr64]; omega))) _ _), ?_⟩
  refine n_of (N' := KK4) kk4 ?_
  refine n_of (N' := NN3) nn3 ?_
  refine c_ret ?_
  refine n_of (N' := R0) hR ?_
  exact ⟨[], rfl, rfl, congrArg fl32 (by unfold Froll; simp (disch := omega) only [wr64])⟩

theorem s112 (o : Bool) (xs : List Nat) (W H : Nat) (w1 : 3 ≤ W) (w2 : W ≤ 16) (w3 : 3 ≤ H) (w4 : H ≤ 16) (hl : xs.length = W * H) (z : Nat) (x y : Int) : SP 112 [basV W H 2, .var 32 [.fl .f32 z], ar o xs] [i64 x, i64 y, .one (.pv 0 0), .one (.pv 1 0)] [basV W H 2, .var 32 [.fl .f32 z], ar o xs] (fl32 (Fscale xs z W H x y)) := by
  refine spec_of_codeR (fn := Try.f112) tyOK mixes Try.func112 rfl rfl rfl ⟨.inl rfl, ⟨.inl rfl, ⟨.inl rfl, rfl⟩⟩⟩ fun hg R0 hR => ?_
  refine c_seq fun NN1 nn1 => ?_
  refine c_region fun KK2 kk2 => ?_
  refine n_of (N' := KK2) kk2 ?_
  refine n_of (N' := NN1) nn1 ?_
  refine c_seq fun NN3 nn3 => ?_
  refine c_draw 4 [0, 1, 3, 2] (by kernel_rfl) fun KK4 kk4 => ?_
  refine ⟨rfl, _, _, (s103 _ _ _ _ (by ((try dsimp only); first | assumption | omega | (simp (disch := omega) only [wr64]; omega))) (by ((try dsimp only); first | assumption | omega | (simp (disch := omega) only [wr64]; omega))) (by ((try dsimp only); first | assumption | omega | (simp (disch := omega) only [wr64]; omega))) (by ((try dsimp only); first | assumption | omega | (simp (disch := omega) only [wr64]; omega))) (by ((try dsimp only); first | assumption | omega | (simp (disch := omega) only [wr64]; omega))) _ _), rfl, ?_⟩
  refine n_of (N' := KK4) kk4 ?_
  refine n_of (N' := NN3) nn3 ?_
  refine c_ret ?_
  refine n_of (N' := R0) hR ?_
  exact ⟨[], rfl, rfl, rfl⟩

theorem s116 (o o2 : Bool) (xs ys : List Nat) (W H : Nat) (w1 : 3 ≤ W) (w2 : W ≤ 16) (w3 : 3 ≤ H) (w4 : H ≤ 16) (hl : xs.length = W * H) (hl2 : ys.length = W * H) (x y : Int) : SP 116 [basV W H 2, basV W H 3, ar o xs, ar o2 ys] [i64 x, i64 y, .one (.pv 0 0), .one (.pv 1 0)] [basV W H 2, basV W H 3, ar o xs, ar o2 ys] (fl32 (Fadd xs ys W H x y)) := by
  refine spec_of_codeR (fn := Try.f116) tyOK mixes Try.func116 rfl rfl rfl ⟨.inl rfl, ⟨.inl rfl, ⟨.inl rfl, ⟨.inl rfl, rfl⟩⟩⟩⟩ fun hg R0 hR => ?_
  refine c_seq fun NN1 nn1 => ?_
  refine c_region fun KK2 kk2 => ?_
  refine n_of (N' := KK2) kk2 ?_
  refine n_of (N' := NN1) nn1 ?_
  refine c_seq fun NN3 nn3 => ?_
  refine c_region fun KK4 kk4 => ?_
  refine ⟨rfl, _, _, (s103 _ _ _ _ (by ((try dsimp only); first | assumption | omega | (simp (disch := omega) only [wr64]; omega))) (by ((try dsimp only); first | assumption | omega | (simp (disch := omega) only [wr64]; omega))) (by ((try dsimp only); first | assumption | omega | (simp (disch := omega) only [wr64]; omega))) (by ((try dsimp only); first | assumption | omega | (simp (disch := omega) only [wr64]; omega))) (by ((try dsimp only); first | assumption | omega | (simp (disch := omega) only [wr64]; omega))) _ _), ?_⟩
  refine ⟨rfl, _, _, (s103 _ _ _ _ (by ((try dsimp only); first | assumption | omega | (simp (disch := omega) only [wr64]; omega))) (by ((try dsimp only); first | assumption | omega | (simp (disch := omega) only [wr64]; omega))) (by ((try dsimp only); first | assumption | omega | (simp (disch := omega) only [wr64]; omega))) (by ((try dsimp only); first | assumption | omega | (simp (disch := omega) only [wr64]; omega))) (by ((try dsimp only); first | assumption | omega | (simp (disch := omega) only [wr64]; omega))) _ _), ?_⟩
  refine n_of (N' := KK4) kk4 ?_
  refine n_of (N' := NN3) nn3 ?_
  refine c_ret ?_
  refine n_of (N' := R0) hR ?_
  exact ⟨[], rfl, rfl, rfl⟩

theorem s133 (o : Bool) (xs : List Nat) (W H : Nat) (w1 : 3 ≤ W) (w2 : W ≤ 16) (w3 : 3 ≤ H) (w4 : H ≤ 16) (hl : xs.length = W * H) (x y : Int) (hx : 0 ≤ x) (hx2 : x < W) (hy : 0 ≤ y) (hy2 : y < H) : SP 133 [basV W H 1, ar o xs] [.one (.pv 0 0), i64 x, i64 y] [basV W H 1, ar o xs] (fl32 (Four xs W H x y)) := by
  refine spec_of_codeR (fn := Try.f133) tyOK mixes Try.func133 rfl rfl rfl ⟨.inl rfl, ⟨.inl rfl, rfl⟩⟩ fun hg R0 hR => ?_
  refine c_seq fun NN1 nn1 => ?_
  refine c_region fun KK2 kk2 => ?_
  refine n_of (N' := KK2) kk2 ?_
  refine n_of (N' := NN1) nn1 ?_
  refine c_seq fun NN3 nn3 => ?_
  refine c_region fun KK4 kk4 => ?_
  refine ⟨rfl, _, _, (s103 _ _ _ _ (by ((try dsimp only); first | assumption | omega | (simp (disch := omega) only [wr64]; omega))) (by ((try dsimp only); first | assumption | omega | (simp (disch := omega) only [wr64]; omega))) (by ((try dsimp only); first | assumption | omega | (simp (disch := omega) only [wr64]; omega))) (by ((try dsimp only); first | assumption | omega | (simp (disch := omega) only [wr64]; omega))) (by ((try dsimp only); first | assumption | omega | (simp (disch := omega) only [wr64]; omega))) _ _), ?_⟩
  refine ⟨rfl, _, _, (s103 _ _ _ _ (by ((try dsimp only); first | assumption | omega | (simp (disch := omega) only [wr64]; omega))) (by ((try dsimp only); first | assumption | omega | (simp (disch := omega) only [wr64]; omega))) (by ((try dsimp only); first | assumption | omega | (simp (disch := omega) only [wr64]; omega))) (by ((try dsimp only); first | assumption | omega | (simp (disch := omega) only [wr64]; omega))) (by ((try dsimp only); first | assumption | omega | (simp (disch := omega) only [wr64]; omega))) _ _), ?_⟩
  refine ⟨rfl, _, _, (s103 _ _ _ _ (by ((try dsimp only); first | assumption | omega | (simp (disch := omega) only [wr64]; omega))) (by ((try dsimp only); first | assumption | omega | (simp (disch := omega) only [wr64]; omega))) (by ((try dsimp only); first | assumption | omega | (simp (disch := omega) only [wr64]; omega))) (by ((try dsimp only); first | assumption | omega | (simp (disch := omega) only [wr64]; omega))) (by ((try dsimp only); first | assumption | omega | (simp (disch := omega) only [wr64]; omega))) _ _), ?_⟩
  refine ⟨rfl, _, _, (s103 _ _ _ _ (by ((try dsimp only); first | assumption | omega | (simp (disch := omega) only [wr64]; omega))) (by ((try dsimp only); first | assumption | omega | (simp (disch := omega) only [wr64]; omega))) (by ((try dsimp only); first | assumption | omega | (simp (disch := omega) only [wr64]; omega))) (by ((try dsimp only); first | assumption | omega | (simp (disch := omega) only [wr64]; omega))) (by ((try dsimp only); first | assumption | omega | (simp (disch := omega) only [wr64]; omega))) _ _), ?_⟩
  refine n_of (N' := KK4) kk4 ?_
  refine n_of (N' := NN3) nn3 ?_
  refine c_ret ?_
  refine n_of (N' := R0) hR ?_
  exact ⟨[], rfl, rfl, congrArg fl32 (by unfold Four; simp (disch := omega) only [wr64])⟩

theorem s150 (o : Bool) (xs : List Nat) (W H : Nat) (w1 : 3 ≤ W) (w2 : W ≤ 16) (w3 : 3 ≤ H) (w4 : H ≤ 16) (hl : xs.length = W * H) (x y : Int) (hx : 0 ≤ x) (hx2 : x < W) (hy : 0 ≤ y) (hy2 : y < H) : SP 150 [basV W H 1, ar o xs] [.one (.pv 0 0), i64 x, i64 y] [basV W H 1, ar o xs] (fl32 (Four xs W H x y)) := by
  refine spec_of_codeR (fn := Try.f150) tyOK mixes Try.func150 rfl rfl rfl ⟨.inl rfl, ⟨.inl rfl, rfl⟩⟩ fun hg R0 hR => ?_
  refine c_seq fun NN1 nn1 => ?_
  refine c_region fun KK2 kk2 => ?_
  refine n_of (N' := KK2) kk2 ?_
  refine n_of (N' := NN1) nn1 ?_
  refine c_seq fun NN3 nn3 => ?_
  refine c_region fun KK4 kk4 => ?_
  refine ⟨rfl, _, _, (s100 _ _ _ _ (by ((try dsimp only); first | assumption | omega | (simp (disch := omega) only [wr64]; omega))) (by ((try dsimp only); first | assumption | omega | (simp (disch := omega) only [wr64]; omega))) (by ((try dsimp only); first | assumption | omega | (simp (disch := omega) only [wr64]; omega))) (by ((try dsimp only); first | assumption | omega | (simp (disch := omega) only [wr64]; omega))) (by ((try dsimp only); first | assumption | omega | (simp (disch := omega) only [wr64]; omega))) _ _), ?_⟩
  refine ⟨rfl, _, _, (s100 _ _ _ _ (by ((try dsimp only); first | assumption | omega | (simp (disch := omega) only [wr64]; omega))) (by ((try dsimp only); first | assumption | omega | (simp (disch := omega) only [wr64]; omega))) (by ((try dsimp only); first | assumption | omega | (simp (disch := omega) only [wr64]; omega))) (by ((try dsimp only); first | assumption | omega | (simp (disch := omega) only [wr64]; omega))) (by ((try dsimp only); first | assumption | omega | (simp (disch := omega) only [wr64]; omega))) _ _), ?_⟩
  refine n_of (N' := KK4) kk4 ?_
  refine n_of (N' := NN3) nn3 ?_
  refine c_seq fun NN5 nn5 => ?_
  refine c_region fun KK6 kk6 => ?_
  refine ⟨rfl, _, _, (s100 _ _ _ _ (by ((try dsimp only); first | assumption | omega | (simp (disch := omega) only [wr64]; omega))) (by ((try dsimp only); first | assumption | omega | (simp (disch := omega) only [wr64]; omega))) (by ((try dsimp only); first | assumption | omega | (simp (disch := omega) only [wr64]; omega))) (by ((try dsimp only); first | assumption | omega | (simp (disch := omega) only [wr64]; omega))) (by ((try dsimp only); first | assumption | omega | (simp (disch := omega) only [wr64]; omega))) _ _), ?_⟩
  refine ⟨rfl, _, _, (s100 _ _ _ _ (by ((try dsimp only); first | assumption | omega | (simp (disch := omega) only [wr64]; omega))) (by ((try dsimp only); first | assumption | omega | (simp (disch := omega) only [wr64]; omega))) (by ((try dsimp only); first | assumption | omega | (simp (disch := omega) only [wr64]; omega))) (by ((try dsimp only); first | assumption | omega | (simp (disch := omega) only [wr64]; omega))) (by ((try dsimp only); first | assumption | omega | (simp (disch := omega) only [wr64]; omega))) _ _), ?_⟩
  refine n_of (N' := KK6) kk6 ?_
  refine n_of (N' := NN5) nn5 ?_
  refine c_ret ?_
  refine n_of (N' := R0) hR ?_
  exact ⟨[], rfl, rfl, congrArg fl32 (by unfold Four; simp (disch := omega) only [wr64])⟩

theorem s121 (o : Bool) (xs : List Nat) (W H : Nat) (w1 : 3 ≤ W) (w2 : W ≤ 16) (w3 : 3 ≤ H) (w4 : H ≤ 16) (hl : xs.length = W * H) (x y : Int) (hx : 0 ≤ x) (hx2 : x < W) (hy : 0 ≤ y) (hy2 : y < H) : SP 121 [basV W H 1, ar o xs] [.one (.pv 0 0), i64 x, i64 y] [basV W H 1, ar o xs] (fl32 (Flap xs W H x y)) := by
  refine spec_of_codeR (fn := Try.f121) tyOK mixes Try.func121 rfl rfl rfl ⟨.inl rfl, ⟨.inl rfl, rfl⟩⟩ fun hg R0 hR => ?_
  refine c_seq fun NN1 nn1 => ?_
  refine c_region fun KK2 kk2 => ?_
  refine n_of (N' := KK2) kk2 ?_
  refine n_of (N' := NN1) nn1 ?_
  refine c_seq fun NN3 nn3 => ?_
  refine c_region fun KK4 kk4 => ?_
  refine ⟨rfl, _, _, (s133 _ _ _ _ (by ((try dsimp only); first | assumption | omega | (simp (disch := omega) only [wr64]; omega))) (by ((try dsimp only); first | assumption | omega | (simp (disch := omega) only [wr64]; omega))) (by ((try dsimp only); first | assumption | omega | (simp (disch := omega) only [wr64]; omega))) (by ((try dsimp only); first | assumption | omega | (simp (disch := omega) only [wr64]; omega))) (by ((try dsimp only); first | assumption | omega | (simp (disch := omega) only [wr64]; omega))) _ _ (by ((try dsimp only); first | assumption | omega | (simp (disch := omega) only [wr64]; omega))) (by ((try dsimp only); first | assumption | omega | (simp (disch := omega) only [wr64]; omega))) (by ((try dsimp only); first | assumption | omega | (simp (disch := omega) only [wr64]; omega))) (by ((try dsimp only); first | assumption | omega | (simp (disch := omega) only [wr64]; omega)))), ?_⟩
  refine ⟨rfl, _, _, (s103 _ _ _ _ (by ((try dsimp only); first | assumption | omega | (simp (disch := omega) only [wr64]; omega))) (by ((try dsimp only); first | assumption | omega | (simp (disch := omega) only [wr64]; omega))) (by ((try dsimp only); first | assumption | omega | (simp (disch := omega) only [wr64]; omega))) (by ((try dsimp only); first | assumption | omega | (simp (disch := omega) only [wr64]; omega))) (by ((try dsimp only); first | assumption | omega | (simp (disch := omega) only [wr64]; omega))) _ _), ?_⟩
  refine n_of (N' := KK4) kk4 ?_
  refine n_of (N' := NN3) nn3 ?_
  refine c_ret ?_
  refine n_of (N' := R0) hR ?_
  exact ⟨[], rfl, rfl, rfl⟩

theorem s95mir (o : Bool) (xs : List Nat) (W H : Nat) (w1 : 3 ≤ W) (w2 : W ≤ 16) (w3 : 3 ≤ H) (w4 : H ≤ 16) (hl : xs.length = W * H) : SP 95 [basV W H 1, ar o xs] [i64 W, i64 H, .one (.fn 102 [] [0])] [basV W H 1, ar o xs, ar true (grid W H (fun x y => Fmir xs W H x y))] (.v (bas W H 2)) := by
  refine spec_of_codeR (fn := Try.f95) tyOK mixes Try.func95 rfl rfl rfl ⟨.inl rfl, ⟨.inl rfl, rfl⟩⟩ fun hg R0 hR => ?_
  have hWH : W * H ≤ 256 := (by have := Nat.mul_le_mul w2 w4; omega)
  have hwr := wrWH hWH
  rw [gridN] at hR
  refine c_seq fun NN1 nn1 => ?_
  refine c_region fun KK2 kk2 => ?_
  refine n_of (N' := KK2) kk2 ?_
  refine n_of (N' := NN1) nn1 ?_
  refine c_seq fun NN3 nn3 => ?_
  refine c_region fun KK4 kk4 => ?_
  refine n_of (N' := KK4) kk4 ?_
  refine n_of (N' := NN3) nn3 ?_
  refine c_seq fun NN5 nn5 => ?_
  refine c_seq fun NN6 nn6 => ?_
  refine c_region fun KK7 kk7 => ?_
  refine n_of (N' := KK7) kk7 ?_
  refine n_of (N' := NN6) nn6 ?_
  refine c_block fun XX8 xx8 => ?_
  refine loop_keep [.c 3 2 32 (.f [])] [0, 2, 6, 7, 13] (ι := { i : Nat // i ≤ H }) (fun i => [(14, exi .i64 i.1)]) (fun i => [(4, ar true (bld (fun t => (fun x y => Fmir xs W H x y) ((t % W : Nat) : Int) ((t / W : Nat) : Int)) (i.1 * W)))]) (fun i => H - i.1) ⟨0, Nat.zero_le _⟩ ⟨rfl, trivial⟩ rfl ?_
  refine ⟨?_, ?_, ?_⟩
  · exact ⟨.inr rfl, trivial⟩
  · exact ⟨rfl, rfl, rfl, rfl, congrArg (ar true) (by simp [bld]), trivial⟩
  refine fun ⟨y, hy⟩ NL9 nl9 => ?_
  refine c_norm rfl rfl ?_
  refine c_seq fun NN10 nn10 => ?_
  refine c_region fun KK11 kk11 => ?_
  refine n_of (N' := KK11) kk11 ?_
  refine n_of (N' := NN10) nn10 ?_
  refine c_seq fun NN12 nn12 => ?_
  refine c_cond rfl (fun h0 => ?_) (fun h0 => ?_)
  · skip
    have q0 := of_decide_eq_true h0
    (try dsimp only at q0)
    (try simp only [Dat.len, bld_len, List.length_cons, List.length_nil] at q0)
    refine c_skip ?_
    refine n_of (N' := NN12) nn12 ?_
    refine c_seq fun NN13 nn13 => ?_
    refine c_block fun XX14 xx14 => ?_
    refine c_seq fun NN15 nn15 => ?_
    refine c_region fun KK16 kk16 => ?_
    refine n_of (N' := KK16) kk16 ?_
    refine n_of (N' := NN15) nn15 ?_
    refine c_seq fun NN17 nn17 => ?_
    refine c_region fun KK18 kk18 => ?_
    refine n_of (N' := KK18) kk18 ?_
    refine n_of (N' := NN17) nn17 ?_
    refine c_block fun XX19 xx19 => ?_
    refine loop_keep [] [0, 2, 6, 7, 8, 13, 14, 17] (ι := { i : Nat // i ≤ W }) (fun i => [(18, exi .i64 i.1)]) (fun i => [(4, ar true (bld (fun t => (fun x y => Fmir xs W H x y) ((t % W : Nat) : Int) ((t / W : Nat) : Int)) (y * W + i.1)))]) (fun i => W - i.1) ⟨0, Nat.zero_le _⟩ trivial rfl ?_
    refine ⟨?_, ?_, ?_⟩
    · exact ⟨.inr rfl, trivial⟩
    · exact ⟨rfl, rfl, rfl, rfl, rfl, trivial⟩
    refine fun ⟨x, hx⟩ NL20 nl20 => ?_
    refine c_norm rfl rfl ?_
    have hyx : y * W + x ≤ 256 := Nat.le_trans (Nat.add_le_add (Nat.mul_le_mul_right W (show y ≤ 15 by omega)) hx) (by omega)
    refine c_seq fun NN21 nn21 => ?_
    refine c_region fun KK22 kk22 => ?_
    refine n_of (N' := KK22) kk22 ?_
    refine n_of (N' := NN21) nn21 ?_
    refine c_seq fun NN23 nn23 => ?_
    refine c_cond rfl (fun h1 => ?_) (fun h1 => ?_)
    · skip
      have q1 := of_decide_eq_true h1
      (try dsimp only at q1)
      (try simp only [Dat.len, bld_len, List.length_cons, List.length_nil] at q1)
      refine c_skip ?_
      refine n_of (N' := NN23) nn23 ?_
      refine c_seq fun NN24 nn24 => ?_
      refine c_block fun XX25 xx25 => ?_
      refine c_seq fun NN26 nn26 => ?_
      refine c_region fun KK27 kk27 => ?_
      refine n_of (N' := KK27) kk27 ?_
      refine n_of (N' := NN26) nn26 ?_
      refine c_draw 7 [0, 1, 2, 3, 4, 5, 6] (by kernel_rfl) fun KK28 kk28 => ?_
      refine ⟨rfl, _, _, s102 _ _ _ _ w1 w2 w3 w4 hl _ _ (by (try dsimp only); omega) (by (try dsimp only); omega) (by (try dsimp only); omega) (by (try dsimp only); omega), rfl, ?_⟩
      refine And.intro ?_ ?_
      · (refine ⟨?_, by decide⟩; (try dsimp only); (try simp only [Dat.len, bld_len, List.length_append, List.length_cons, List.length_nil]); omega)   -- 0 append
      refine n_of (N' := KK28) kk28 ?_
      refine n_of (N' := NN24) nn24 ?_
      refine c_region fun KK29 kk29 => ?_
      refine n_of (N' := KK29) kk29 ?_
      refine n_of (N' := NL20) nl20 ?_
      refine ⟨⟨x + 1, by omega⟩, ?_, [0, 1, 2, 3, 4], rfl, ?_, ?_⟩
      · (dsimp only; omega)
      · exact LEq.eq ⟨rfl, rfl, rfl, rfl, congrArg (fun z => ar true (bld _ (y * W + x) ++ [z])) (grid_row (fun x y => Fmir xs W H x y) (W := W) (x := x) (y := y) (by omega)).symm, trivial⟩
      · exact ⟨.inr (congrArg (exi .i64) (wr64 (n := (x : Int) + 1) (by omega) (by omega))), .inr rfl, .inr rfl, .inr rfl, .inr rfl, .inr rfl, .inr rfl, .inr rfl, .inr rfl, trivial⟩
    · skip
      have q1 := of_decide_eq_false h1
      (try dsimp only at q1)
      (try simp only [Dat.len, bld_len, List.length_cons, List.length_nil] at q1)
      refine c_exit ?_
      refine x_here xx19 ?_
      refine n_of (N' := NN13) nn13 ?_
      refine c_region fun KK30 kk30 => ?_
      refine n_of (N' := KK30) kk30 ?_
      refine n_of (N' := NL9) nl9 ?_
      refine ⟨⟨y + 1, by omega⟩, ?_, [0, 1, 2, 3, 4], rfl, ?_, ?_⟩
      · (dsimp only; omega)
      · exact LEq.eq ⟨rfl, rfl, rfl, rfl, congrArg (ar true) (congrArg (bld _) (by (try dsimp only); rw [Nat.add_mul]; omega)), trivial⟩
      · exact ⟨.inr (congrArg (exi .i64) (wr64 (n := (y : Int) + 1) (by omega) (by omega))), .inr rfl, .inr rfl, .inr rfl, .inr rfl, .inr rfl, trivial⟩
  · skip
    have q0 := of_decide_eq_false h0
    (try dsimp only at q0)
    (try simp only [Dat.len, bld_len, List.length_cons, List.length_nil] at q0)
    refine c_exit ?_
    refine x_here xx8 ?_
    refine n_of (N' := NN5) nn5 ?_
    refine c_seq fun NN31 nn31 => ?_
    refine c_region fun KK32 kk32 => ?_
    refine n_of (N' := KK32) kk32 ?_
    refine n_of (N' := NN31) nn31 ?_
    refine c_ret ?_
    refine n_of (N' := R0) hR ?_
    have e : y = H := by omega
    subst e
    exact ⟨[], rfl, by rw [Nat.mul_comm], rfl⟩

theorem s95roll (o : Bool) (xs : List Nat) (W H : Nat) (w1 : 3 ≤ W) (w2 : W ≤ 16) (w3 : 3 ≤ H) (w4 : H ≤ 16) (hl : xs.length = W * H) (a b : Int) (ha : -16 ≤ a ∧ a ≤ 16) (hb : -16 ≤ b ∧ b ≤ 16) : SP 95 [basV W H 3, .var 2 [.ex (.int .i64 a)], .var 2 [.ex (.int .i64 b)], ar o xs] [i64 W, i64 H, .one (.fn 106 [] [0, 1, 2])] [basV W H 3, .var 2 [.ex (.int .i64 a)], .var 2 [.ex (.int .i64 b)], ar o xs, ar true (grid W H (fun x y => Froll xs a b W H x y))] (.v (bas W H 4)) := by
  refine spec_of_codeR (fn := Try.f95) tyOK mixes Try.func95 rfl rfl rfl ⟨.inl rfl, ⟨.inl rfl, ⟨.inl rfl, ⟨.inl rfl, rfl⟩⟩⟩⟩ fun hg R0 hR => ?_
  have hWH : W * H ≤ 256 := (by have := Nat.mul_le_mul w2 w4; omega)
  have hwr := wrWH hWH
  rw [gridN] at hR
  refine c_seq fun NN1 nn1 => ?_
  refine c_region fun KK2 kk2 => ?_
  refine n_of (N' := KK2) kk2 ?_
  refine n_of (N' := NN1) nn1 ?_
  refine c_seq fun NN3 nn3 => ?_
  refine c_region fun KK4 kk4 => ?_
  refine n_of (N' := KK4) kk4 ?_
  refine n_of (N' := NN3) nn3 ?_
  refine c_seq fun NN5 nn5 => ?_
  refine c_seq fun NN6 nn6 => ?_
  refine c_region fun KK7 kk7 => ?_
  refine n_of (N' := KK7) kk7 ?_
  refine n_of (N' := NN6) nn6 ?_
  refine c_block fun XX8 xx8 => ?_
  refine loop_keep [.c 5 2 32 (.f [])] [0, 2, 6, 7, 13] (ι := { i : Nat // i ≤ H }) (fun i => [(14, exi .i64 i.1)]) (fun i => [(6, ar true (bld (fun t => (fun x y => Froll xs a b W H x y) ((t % W : Nat) : Int) ((t / W : Nat) : Int)) (i.1 * W)))]) (fun i => H - i.1) ⟨0, Nat.zero_le _⟩ ⟨rfl, trivial⟩ rfl ?_
  refine ⟨?_, ?_, ?_⟩
  · exact ⟨.inr rfl, trivial⟩
  · exact ⟨rfl, rfl, rfl, rfl, rfl, rfl, congrArg (ar true) (by simp [bld]), trivial⟩
  refine fun ⟨y, hy⟩ NL9 nl9 => ?_
  refine c_norm rfl rfl ?_
  refine c_seq fun NN10 nn10 => ?_
  refine c_region fun KK11 kk11 => ?_
  refine n_of (N' := KK11) kk11 ?_
  refine n_of (N' := NN10) nn10 ?_
  refine c_seq fun NN12 nn12 => ?_
  refine c_cond rfl (fun h0 => ?_) (fun h0 => ?_)
  · skip
    have q0 := of_decide_eq_true h0
    (try dsimp only at q0)
    (try simp only [Dat.len, bld_len, List.length_cons, List.length_nil] at q0)
    refine c_skip ?_
    refine n_of (N' := NN12) nn12 ?_
    refine c_seq fun NN13 nn13 => ?_
    refine c_block fun XX14 xx14 => ?_
    refine c_seq fun NN15 nn15 => ?_
    refine c_region fun KK16 kk16 => ?_
    refine n_of (N' := KK16) kk16 ?_
    refine n_of (N' := NN15) nn15 ?_
    refine c_seq fun NN17 nn17 => ?_
    refine c_region fun KK18 kk18 => ?_
    refine n_of (N' := KK18) kk18 ?_
    refine n_of (N' := NN17) nn17 ?_
    refine c_block fun XX19 xx19 => ?_
    refine loop_keep [] [0, 2, 6, 7, 8, 13, 14, 17] (ι := { i : Nat // i ≤ W }) (fun i => [(18, exi .i64 i.1)]) (fun i => [(6, ar true (bld (fun t => (fun x y => Froll xs a b W H x y) ((t % W : Nat) : Int) ((t / W : Nat) : Int)) (y * W + i.1)))]) (fun i => W - i.1) ⟨0, Nat.zero_le _⟩ trivial rfl ?_
    refine ⟨?_, ?_, ?_⟩
    · exact ⟨.inr rfl, trivial⟩
    · exact ⟨rfl, rfl, rfl, rfl, rfl, rfl, rfl, trivial⟩
    refine fun ⟨x, hx⟩ NL20 nl20 => ?_
    refine c_norm rfl rfl ?_
    have hyx : y * W + x ≤ 256 := Nat.le_trans (Nat.add_le_add (Nat.mul_le_mul_right W (show y ≤ 15 by omega)) hx) (by omega)
    refine c_seq fun NN21 nn21 => ?_
    refine c_region fun KK22 kk22 => ?_
    refine n_of (N' := KK22) kk22 ?_
    refine n_of (N' := NN21) nn21 ?_
    refine c_seq fun NN23 nn23 => ?_
    refine c_cond rfl (fun h1 => ?_) (fun h1 => ?_)
    · skip
      have q1 := of_decide_eq_true h1
      (try dsimp only at q1)
      (try simp only [Dat.len, bld_len, List.length_cons, List.length_nil] at q1)
      refine c_skip ?_
      refine n_of (N' := NN23) nn23 ?_
      refine c_seq fun NN24 nn24 => ?_
      refine c_block fun XX25 xx25 => ?_
      refine c_seq fun NN26 nn26 => ?_
      refine c_region fun KK27 kk27 => ?_
      refine n_of (N' := KK27) kk27 ?_
      refine n_of (N' := NN26) nn26 ?_
      refine c_draw 7 [0, 1, 2, 3, 4, 5, 6] (by kernel_rfl) fun KK28 kk28 => ?_
      refine ⟨rfl, _, _, s106 _ _ _ _ w1 w2 w3 w4 hl _ _ ha hb _ _ (by (try dsimp only); omega) (by (try dsimp only); omega) (by (try dsimp only); omega) (by (try dsimp only); omega), rfl, ?_⟩
      refine And.intro ?_ ?_
      · (refine ⟨?_, by decide⟩; (try dsimp only); (try simp only [Dat.len, bld_len, List.length_append, List.length_cons, List.length_nil]); omega)   -- 0 append
      refine n_of (N' := KK28) kk28 ?_
      refine n_of (N' := NN24) nn24 ?_
      refine c_region fun KK29 kk29 => ?_
      refine n_of (N' := KK29) kk29 ?_
      refine n_of (N' := NL20) nl20 ?_
      refine ⟨⟨x + 1, by omega⟩, ?_, [0, 1, 2, 3, 4, 5, 6], rfl, ?_, ?_⟩
      · (dsimp only; omega)
      · exact LEq.eq ⟨rfl, rfl, rfl, rfl, rfl, rfl, congrArg (fun z => ar true (bld _ (y * W + x) ++ [z])) (grid_row (fun x y => Froll xs a b W H x y) (W := W) (x := x) (y := y) (by omega)).symm, trivial⟩
      · exact ⟨.inr (congrArg (exi .i64) (wr64 (n := (x : Int) + 1) (by omega) (by omega))), .inr rfl, .inr rfl, .inr rfl, .inr rfl, .inr rfl, .inr rfl, .inr rfl, .inr rfl, trivial⟩
    · skip
      have q1 := of_decide_eq_false h1
      (try dsimp only at q1)
      (try simp only [Dat.len, bld_len, List.length_cons, List.length_nil] at q1)
      refine c_exit ?_
      refine x_here xx19 ?_
      refine n_of (N' := NN13) nn13 ?_
      refine c_region fun KK30 kk30 => ?_
      refine n_of (N' := KK30) kk30 ?_
      refine n_of (N' := NL9) nl9 ?_
      refine ⟨⟨y + 1, by omega⟩, ?_, [0, 1, 2, 3, 4, 5, 6], rfl, ?_, ?_⟩
      · (dsimp only; omega)
      · exact LEq.eq ⟨rfl, rfl, rfl, rfl, rfl, rfl, congrArg (ar true) (congrArg (bld _) (by (try dsimp only); rw [Nat.add_mul]; omega)), trivial⟩
      · exact ⟨.inr (congrArg (exi .i64) (wr64 (n := (y : Int) + 1) (by omega) (by omega))), .inr rfl, .inr rfl, .inr rfl, .inr rfl, .inr rfl, trivial⟩
  · skip
    have q0 := of_decide_eq_false h0
    (try dsimp only at q0)
    (try simp only [Dat.len, bld_len, List.length_cons, List.length_nil] at q0)
    refine c_exit ?_
    refine x_here xx8 ?_
    refine n_of (N' := NN5) nn5 ?_
    refine c_seq fun NN31 nn31 => ?_
    refine c_region fun KK32 kk32 => ?_
    refine n_of (N' := KK32) kk32 ?_
    refine n_of (N' := NN31) nn31 ?_
    refine c_ret ?_
    refine n_of (N' := R0) hR ?_
    have e : y = H := by omega
    subst e
    exact ⟨[], rfl, by rw [Nat.mul_comm], rfl⟩

theorem s95scale (o : Bool) (xs : List Nat) (W H : Nat) (w1 : 3 ≤ W) (w2 : W ≤ 16) (w3 : 3 ≤ H) (w4 : H ≤ 16) (hl : xs.length = W * H) (z : Nat) : SP 95 [basV W H 2, .var 32 [.fl .f32 z], ar o xs] [i64 W, i64 H, .one (.fn 112 [] [0, 1])] [basV W H 2, .var 32 [.fl .f32 z], ar o xs, ar true (grid W H (fun x y => Fscale xs z W H x y))] (.v (bas W H 3)) := by
  refine spec_of_codeR (fn := Try.f95) tyOK mixes Try.func95 rfl rfl rfl ⟨.inl rfl, ⟨.inl rfl, ⟨.inl rfl, rfl⟩⟩⟩ fun hg R0 hR => ?_
  have hWH : W * H ≤ 256 := (by have := Nat.mul_le_mul w2 w4; omega)
  have hwr := wrWH hWH
  rw [gridN] at hR
  refine c_seq fun NN1 nn1 => ?_
  refine c_region fun KK2 kk2 => ?_
  refine n_of (N' := KK2) kk2 ?_
  refine n_of (N' := NN1) nn1 ?_
  refine c_seq fun NN3 nn3 => ?_
  refine c_region fun KK4 kk4 => ?_
  refine n_of (N' := KK4) kk4 ?_
  refine n_of (N' := NN3) nn3 ?_
  refine c_seq fun NN5 nn5 => ?_
  refine c_seq fun NN6 nn6 => ?_
  refine c_region fun KK7 kk7 => ?_
  refine n_of (N' := KK7) kk7 ?_
  refine n_of (N' := NN6) nn6 ?_
  refine c_block fun XX8 xx8 => ?_
  refine loop_keep [.c 4 2 32 (.f [])] [0, 2, 6, 7, 13] (ι := { i : Nat // i ≤ H }) (fun i => [(14, exi .i64 i.1)]) (fun i => [(5, ar true (bld (fun t => (fun x y => Fscale xs z W H x y) ((t % W : Nat) : Int) ((t / W : Nat) : Int)) (i.1 * W)))]) (fun i => H - i.1) ⟨0, Nat.zero_le _⟩ ⟨rfl, trivial⟩ rfl ?_
  refine ⟨?_, ?_, ?_⟩
  · exact ⟨.inr rfl, trivial⟩
  · exact ⟨rfl, rfl, rfl, rfl, rfl, congrArg (ar true) (by simp [bld]), trivial⟩
  refine fun ⟨y, hy⟩ NL9 nl9 => ?_
  refine c_norm rfl rfl ?_
  refine c_seq fun NN10 nn10 => ?_
  refine c_region fun KK11 kk11 => ?_
  refine n_of (N' := KK11) kk11 ?_
  refine n_of (N' := NN10) nn10 ?_
  refine c_seq fun NN12 nn12 => ?_
  refine c_cond rfl (fun h0 => ?_) (fun h0 => ?_)
  · skip
    have q0 := of_decide_eq_true h0
    (try dsimp only at q0)
    (try simp only [Dat.len, bld_len, List.length_cons, List.length_nil] at q0)
    refine c_skip ?_
    refine n_of (N' := NN12) nn12 ?_
    refine c_seq fun NN13 nn13 => ?_
    refine c_block fun XX14 xx14 => ?_
    refine c_seq fun NN15 nn15 => ?_
    refine c_region fun KK16 kk16 => ?_
    refine n_of (N' := KK16) kk16 ?_
    refine n_of (N' := NN15) nn15 ?_
    refine c_seq fun NN17 nn17 => ?_
    refine c_region fun KK18 kk18 => ?_
    refine n_of (N' := KK18) kk18 ?_
    refine n_of (N' := NN17) nn17 ?_
    refine c_block fun XX19 xx19 => ?_
    refine loop_keep [] [0, 2, 6, 7, 8, 13, 14, 17] (ι := { i : Nat // i ≤ W }) (fun i => [(18, exi .i64 i.1)]) (fun i => [(5, ar true (bld (fun t => (fun x y => Fscale xs z W H x y) ((t % W : Nat) : Int) ((t / W : Nat) : Int)) (y * W + i.1)))]) (fun i => W - i.1) ⟨0, Nat.zero_le _⟩ trivial rfl ?_
    refine ⟨?_, ?_, ?_⟩
    · exact ⟨.inr rfl, trivial⟩
    · exact ⟨rfl, rfl, rfl, rfl, rfl, rfl, trivial⟩
    refine fun ⟨x, hx⟩ NL20 nl20 => ?_
    refine c_norm rfl rfl ?_
    have hyx : y * W + x ≤ 256 := Nat.le_trans (Nat.add_le_add (Nat.mul_le_mul_right W (show y ≤ 15 by omega)) hx) (by omega)
    refine c_seq fun NN21 nn21 => ?_
    refine c_region fun KK22 kk22 => ?_
    refine n_of (N' := KK22) kk22 ?_
    refine n_of (N' := NN21) nn21 ?_
    refine c_seq fun NN23 nn23 => ?_
    refine c_cond rfl (fun h1 => ?_) (fun h1 => ?_)
    · skip
      have q1 := of_decide_eq_true h1
      (try dsimp only at q1)
      (try simp only [Dat.len, bld_len, List.length_cons, List.length_nil] at q1)
      refine c_skip ?_
      refine n_of (N' := NN23) nn23 ?_
      refine c_seq fun NN24 nn24 => ?_
      refine c_block fun XX25 xx25 => ?_
      refine c_seq fun NN26 nn26 => ?_
      refine c_region fun KK27 kk27 => ?_
      refine n_of (N' := KK27) kk27 ?_
      refine n_of (N' := NN26) nn26 ?_
      refine c_draw 7 [0, 1, 2, 3, 4, 5, 6] (by kernel_rfl) fun KK28 kk28 => ?_
      refine ⟨rfl, _, _, s112 _ _ _ _ w1 w2 w3 w4 hl _ _ _, rfl, ?_⟩
      refine And.intro ?_ ?_
      · (refine ⟨?_, by decide⟩; (try dsimp only); (try simp only [Dat.len, bld_len, List.length_append, List.length_cons, List.length_nil]); omega)   -- 0 append
      refine n_of (N' := KK28) kk28 ?_
      refine n_of (N' := NN24) nn24 ?_
      refine c_region fun KK29 kk29 => ?_
      refine n_of (N' := KK29) kk29 ?_
      refine n_of (N' := NL20) nl20 ?_
      refine ⟨⟨x + 1, by omega⟩, ?_, [0, 1, 2, 3, 4, 5], rfl, ?_, ?_⟩
      · (dsimp only; omega)
      · exact LEq.eq ⟨rfl, rfl, rfl, rfl, rfl, congrArg (fun z => ar true (bld _ (y * W + x) ++ [z])) (grid_row (fun x y => Fscale xs z W H x y) (W := W) (x := x) (y := y) (by omega)).symm, trivial⟩
      · exact ⟨.inr (congrArg (exi .i64) (wr64 (n := (x : Int) + 1) (by omega) (by omega))), .inr rfl, .inr rfl, .inr rfl, .inr rfl, .inr rfl, .inr rfl, .inr rfl, .inr rfl, trivial⟩
    · skip
      have q1 := of_decide_eq_false h1
      (try dsimp only at q1)
      (try simp only [Dat.len, bld_len, List.length_cons, List.length_nil] at q1)
      refine c_exit ?_
      refine x_here xx19 ?_
      refine n_of (N' := NN13) nn13 ?_
      refine c_region fun KK30 kk30 => ?_
      refine n_of (N' := KK30) kk30 ?_
      refine n_of (N' := NL9) nl9 ?_
      refine ⟨⟨y + 1, by omega⟩, ?_, [0, 1, 2, 3, 4, 5], rfl, ?_, ?_⟩
      · (dsimp only; omega)
      · exact LEq.eq ⟨rfl, rfl, rfl, rfl, rfl, congrArg (ar true) (congrArg (bld _) (by (try dsimp only); rw [Nat.add_mul]; omega)), trivial⟩
      · exact ⟨.inr (congrArg (exi .i64) (wr64 (n := (y : Int) + 1) (by omega) (by omega))), .inr rfl, .inr rfl, .inr rfl, .inr rfl, .inr rfl, trivial⟩
  · skip
    have q0 := of_decide_eq_false h0
    (try dsimp only at q0)
    (try simp only [Dat.len, bld_len, List.length_cons, List.length_nil] at q0)
    refine c_exit ?_
    refine x_here xx8 ?_
    refine n_of (N' := NN5) nn5 ?_
    refine c_seq fun NN31 nn31 => ?_
    refine c_region fun KK32 kk32 => ?_
    refine n_of (N' := KK32) kk32 ?_
    refine n_of (N' := NN31) nn31 ?_
    refine c_ret ?_
    refine n_of (N' := R0) hR ?_
    have e : y = H := by omega
    subst e
    exact ⟨[], rfl, by rw [Nat.mul_comm], rfl⟩

theorem s95add (o o2 : Bool) (xs ys : List Nat) (W H : Nat) (w1 : 3 ≤ W) (w2 : W ≤ 16) (w3 : 3 ≤ H) (w4 : H ≤ 16) (hl : xs.length = W * H) (hl2 : ys.length = W * H) : SP 95 [basV W H 2, basV W H 3, ar o xs, ar o2 ys] [i64 W, i64 H, .one (.fn 116 [] [0, 1])] [basV W H 2, basV W H 3, ar o xs, ar o2 ys, ar true (grid W H (fun x y => Fadd xs ys W H x y))] (.v (bas W H 4)) := by
  refine spec_of_codeR (fn := Try.f95) tyOK mixes Try.func95 rfl rfl rfl ⟨.inl rfl, ⟨.inl rfl, ⟨.inl rfl, ⟨.inl rfl, rfl⟩⟩⟩⟩ fun hg R0 hR => ?_
  have hWH : W * H ≤ 256 := (by have := Nat.mul_le_mul w2 w4; omega)
  have hwr := wrWH hWH
  rw [gridN] at hR
  refine c_seq fun NN1 nn1 => ?_
  refine c_region fun KK2 kk2 => ?_
  refine n_of (N' := KK2) kk2 ?_
  refine n_of (N' := NN1) nn1 ?_
  refine c_seq fun NN3 nn3 => ?_
  refine c_region fun KK4 kk4 => ?_
  refine n_of (N' := KK4) kk4 ?_
  refine n_of (N' := NN3) nn3 ?_
  refine c_seq fun NN5 nn5 => ?_
  refine c_seq fun NN6 nn6 => ?_
  refine c_region fun KK7 kk7 => ?_
  refine n_of (N' := KK7) kk7 ?_
  refine n_of (N' := NN6) nn6 ?_
  refine c_block fun XX8 xx8 => ?_
  refine loop_keep [.c 5 2 32 (.f [])] [0, 2, 6, 7, 13] (ι := { i : Nat // i ≤ H }) (fun i => [(14, exi .i64 i.1)]) (fun i => [(6, ar true (bld (fun t => (fun x y => Fadd xs ys W H x y) ((t % W : Nat) : Int) ((t / W : Nat) : Int)) (i.1 * W)))]) (fun i => H - i.1) ⟨0, Nat.zero_le _⟩ ⟨rfl, trivial⟩ rfl ?_
  refine ⟨?_, ?_, ?_⟩
  · exact ⟨.inr rfl, trivial⟩
  · exact ⟨rfl, rfl, rfl, rfl, rfl, rfl, congrArg (ar true) (by simp [bld]), trivial⟩
  refine fun ⟨y, hy⟩ NL9 nl9 => ?_
  refine c_norm rfl rfl ?_
  refine c_seq fun NN10 nn10 => ?_
  refine c_region fun KK11 kk11 => ?_
  refine n_of (N' := KK11) kk11 ?_
  refine n_of (N' := NN10) nn10 ?_
  refine c_seq fun NN12 nn12 => ?_
  refine c_cond rfl (fun h0 => ?_) (fun h0 => ?_)
  · skip
    have q0 := of_decide_eq_true h0
    (try dsimp only at q0)
    (try simp only [Dat.len, bld_len, List.length_cons, List.length_nil] at q0)
    refine c_skip ?_
    refine n_of (N' := NN12) nn12 ?_
    refine c_seq fun NN13 nn13 => ?_
    refine c_block fun XX14 xx14 => ?_
    refine c_seq fun NN15 nn15 => ?_
    refine c_region fun KK16 kk16 => ?_
    refine n_of (N' := KK16) kk16 ?_
    refine n_of (N' := NN15) nn15 ?_
    refine c_seq fun NN17 nn17 => ?_
    refine c_region fun KK18 kk18 => ?_
    refine n_of (N' := KK18) kk18 ?_
    refine n_of (N' := NN17) nn17 ?_
    refine c_block fun XX19 xx19 => ?_
    refine loop_keep [] [0, 2, 6, 7, 8, 13, 14, 17] (ι := { i : Nat // i ≤ W }) (fun i => [(18, exi .i64 i.1)]) (fun i => [(6, ar true (bld (fun t => (fun x y => Fadd xs ys W H x y) ((t % W : Nat) : Int) ((t / W : Nat) : Int)) (y * W + i.1)))]) (fun i => W - i.1) ⟨0, Nat.zero_le _⟩ trivial rfl ?_
    refine ⟨?_, ?_, ?_⟩
    · exact ⟨.inr rfl, trivial⟩
    · exact ⟨rfl, rfl, rfl, rfl, rfl, rfl, rfl, trivial⟩
    refine fun ⟨x, hx⟩ NL20 nl20 => ?_
    refine c_norm rfl rfl ?_
    have hyx : y * W + x ≤ 256 := Nat.le_trans (Nat.add_le_add (Nat.mul_le_mul_right W (show y ≤ 15 by omega)) hx) (by omega)
    refine c_seq fun NN21 nn21 => ?_
    refine c_region fun KK22 kk22 => ?_
    refine n_of (N' := KK22) kk22 ?_
    refine n_of (N' := NN21) nn21 ?_
    refine c_seq fun NN23 nn23 => ?_
    refine c_cond rfl (fun h1 => ?_) (fun h1 => ?_)
    · skip
      have q1 := of_decide_eq_true h1
      (try dsimp only at q1)
      (try simp only [Dat.len, bld_len, List.length_cons, List.length_nil] at q1)
      refine c_skip ?_
      refine n_of (N' := NN23) nn23 ?_
      refine c_seq fun NN24 nn24 => ?_
      refine c_block fun XX25 xx25 => ?_
      refine c_seq fun NN26 nn26 => ?_
      refine c_region fun KK27 kk27 => ?_
      refine n_of (N' := KK27) kk27 ?_
      refine n_of (N' := NN26) nn26 ?_
      refine c_draw 7 [0, 1, 2, 3, 4, 5, 6] (by kernel_rfl) fun KK28 kk28 => ?_
      refine ⟨rfl, _, _, s116 _ _ _ _ _ _ w1 w2 w3 w4 hl hl2 _ _, rfl, ?_⟩
      refine And.intro ?_ ?_
      · (refine ⟨?_, by decide⟩; (try dsimp only); (try simp only [Dat.len, bld_len, List.length_append, List.length_cons, List.length_nil]); omega)   -- 0 append
      refine n_of (N' := KK28) kk28 ?_
      refine n_of (N' := NN24) nn24 ?_
      refine c_region fun KK29 kk29 => ?_
      refine n_of (N' := KK29) kk29 ?_
      refine n_of (N' := NL20) nl20 ?_
      refine ⟨⟨x + 1, by omega⟩, ?_, [0, 1, 2, 3, 4, 5, 6], rfl, ?_, ?_⟩
      · (dsimp only; omega)
      · exact LEq.eq ⟨rfl, rfl, rfl, rfl, rfl, rfl, congrArg (fun z => ar true (bld _ (y * W + x) ++ [z])) (grid_row (fun x y => Fadd xs ys W H x y) (W := W) (x := x) (y := y) (by omega)).symm, trivial⟩
      · exact ⟨.inr (congrArg (exi .i64) (wr64 (n := (x : Int) + 1) (by omega) (by omega))), .inr rfl, .inr rfl, .inr rfl, .inr rfl, .inr rfl, .inr rfl, .inr rfl, .inr rfl, trivial⟩
    · skip
      have q1 := of_decide_eq_false h1
      (try dsimp only at q1)
      (try simp only [Dat.len, bld_len, List.length_cons, List.length_nil] at q1)
      refine c_exit ?_
      refine x_here xx19 ?_
      refine n_of (N' := NN13) nn13 ?_
      refine c_region fun KK30 kk30 => ?_
      refine n_of (N' := KK30) kk30 ?_
      refine n_of (N' := NL9) nl9 ?_
      refine ⟨⟨y + 1, by omega⟩, ?_, [0, 1, 2, 3, 4, 5, 6], rfl, ?_, ?_⟩
      · (dsimp only; omega)
      · exact LEq.eq ⟨rfl, rfl, rfl, rfl, rfl, rfl, congrArg (ar true) (congrArg (bld _) (by (try dsimp only); rw [Nat.add_mul]; omega)), trivial⟩
      · exact ⟨.inr (congrArg (exi .i64) (wr64 (n := (y : Int) + 1) (by omega) (by omega))), .inr rfl, .inr rfl, .inr rfl, .inr rfl, .inr rfl, trivial⟩
  · skip
    have q0 := of_decide_eq_false h0
    (try dsimp only at q0)
    (try simp only [Dat.len, bld_len, List.length_cons, List.length_nil] at q0)
    refine c_exit ?_
    refine x_here xx8 ?_
    refine n_of (N' := NN5) nn5 ?_
    refine c_seq fun NN31 nn31 => ?_
    refine c_region fun KK32 kk32 => ?_
    refine n_of (N' := KK32) kk32 ?_
    refine n_of (N' := NN31) nn31 ?_
    refine c_ret ?_
    refine n_of (N' := R0) hR ?_
    have e : y = H := by omega
    subst e
    exact ⟨[], rfl, by rw [Nat.mul_comm], rfl⟩

theorem s95lap (o : Bool) (xs : List Nat) (W H : Nat) (w1 : 3 ≤ W) (w2 : W ≤ 16) (w3 : 3 ≤ H) (w4 : H ≤ 16) (hl : xs.length = W * H) : SP 95 [basV W H 1, ar o xs] [i64 W, i64 H, .one (.fn 121 [0] [])] [basV W H 1, ar o xs, ar true (grid W H (fun x y => Flap xs W H x y))] (.v (bas W H 2)) := by
  refine spec_of_codeR (fn := Try.f95) tyOK mixes Try.func95 rfl rfl rfl ⟨.inl rfl, ⟨.inl rfl, rfl⟩⟩ fun hg R0 hR => ?_
  have hWH : W * H ≤ 256 := (by have := Nat.mul_le_mul w2 w4; omega)
  have hwr := wrWH hWH
  rw [gridN] at hR
  refine c_seq fun NN1 nn1 => ?_
  refine c_region fun KK2 kk2 => ?_
  refine n_of (N' := KK2) kk2 ?_
  refine n_of (N' := NN1) nn1 ?_
  refine c_seq fun NN3 nn3 => ?_
  refine c_region fun KK4 kk4 => ?_
  refine n_of (N' := KK4) kk4 ?_
  refine n_of (N' := NN3) nn3 ?_
  refine c_seq fun NN5 nn5 => ?_
  refine c_seq fun NN6 nn6 => ?_
  refine c_region fun KK7 kk7 => ?_
  refine n_of (N' := KK7) kk7 ?_
  refine n_of (N' := NN6) nn6 ?_
  refine c_block fun XX8 xx8 => ?_
  refine loop_keep [.c 3 2 32 (.f [])] [0, 2, 6, 7, 13] (ι := { i : Nat // i ≤ H }) (fun i => [(14, exi .i64 i.1)]) (fun i => [(4, ar true (bld (fun t => (fun x y => Flap xs W H x y) ((t % W : Nat) : Int) ((t / W : Nat) : Int)) (i.1 * W)))]) (fun i => H - i.1) ⟨0, Nat.zero_le _⟩ ⟨rfl, trivial⟩ rfl ?_
  refine ⟨?_, ?_, ?_⟩
  · exact ⟨.inr rfl, trivial⟩
  · exact ⟨rfl, rfl, rfl, rfl, congrArg (ar true) (by simp [bld]), trivial⟩
  refine fun ⟨y, hy⟩ NL9 nl9 => ?_
  refine c_norm rfl rfl ?_
  refine c_seq fun NN10 nn10 => ?_
  refine c_region fun KK11 kk11 => ?_
  refine n_of (N' := KK11) kk11 ?_
  refine n_of (N' := NN10) nn10 ?_
  refine c_seq fun NN12 nn12 => ?_
  refine c_cond rfl (fun h0 => ?_) (fun h0 => ?_)
  · skip
    have q0 := of_decide_eq_true h0
    (try dsimp only at q0)
    (try simp only [Dat.len, bld_len, List.length_cons, List.length_nil] at q0)
    refine c_skip ?_
    refine n_of (N' := NN12) nn12 ?_
    refine c_seq fun NN13 nn13 => ?_
    refine c_block fun XX14 xx14 => ?_
    refine c_seq fun NN15 nn15 => ?_
    refine c_region fun KK16 kk16 => ?_
    refine n_of (N' := KK16) kk16 ?_
    refine n_of (N' := NN15) nn15 ?_
    refine c_seq fun NN17 nn17 => ?_
    refine c_region fun KK18 kk18 => ?_
    refine n_of (N' := KK18) kk18 ?_
    refine n_of (N' := NN17) nn17 ?_
    refine c_block fun XX19 xx19 => ?_
    refine loop_keep [] [0, 2, 6, 7, 8, 13, 14, 17] (ι := { i : Nat // i ≤ W }) (fun i => [(18, exi .i64 i.1)]) (fun i => [(4, ar true (bld (fun t => (fun x y => Flap xs W H x y) ((t % W : Nat) : Int) ((t / W : Nat) : Int)) (y * W + i.1)))]) (fun i => W - i.1) ⟨0, Nat.zero_le _⟩ trivial rfl ?_
    refine ⟨?_, ?_, ?_⟩
    · exact ⟨.inr rfl, trivial⟩
    · exact ⟨rfl, rfl, rfl, rfl, rfl, trivial⟩
    refine fun ⟨x, hx⟩ NL20 nl20 => ?_
    refine c_norm rfl rfl ?_
    have hyx : y * W + x ≤ 256 := Nat.le_trans (Nat.add_le_add (Nat.mul_le_mul_right W (show y ≤ 15 by omega)) hx) (by omega)
    refine c_seq fun NN21 nn21 => ?_
    refine c_region fun KK22 kk22 => ?_
    refine n_of (N' := KK22) kk22 ?_
    refine n_of (N' := NN21) nn21 ?_
    refine c_seq fun NN23 nn23 => ?_
    refine c_cond rfl (fun h1 => ?_) (fun h1 => ?_)
    · skip
      have q1 := of_decide_eq_true h1
      (try dsimp only at q1)
      (try simp only [Dat.len, bld_len, List.length_cons, List.length_nil] at q1)
      refine c_skip ?_
      refine n_of (N' := NN23) nn23 ?_
      refine c_seq fun NN24 nn24 => ?_
      refine c_block fun XX25 xx25 => ?_
      refine c_seq fun NN26 nn26 => ?_
      refine c_region fun KK27 kk27 => ?_
      refine n_of (N' := KK27) kk27 ?_
      refine n_of (N' := NN26) nn26 ?_
      refine c_draw 7 [0, 1, 2, 3, 4, 5, 6] (by kernel_rfl) fun KK28 kk28 => ?_
      refine ⟨rfl, _, _, s121 _ _ _ _ w1 w2 w3 w4 hl _ _ (by (try dsimp only); omega) (by (try dsimp only); omega) (by (try dsimp only); omega) (by (try dsimp only); omega), rfl, ?_⟩
      refine And.intro ?_ ?_
      · (refine ⟨?_, by decide⟩; (try dsimp only); (try simp only [Dat.len, bld_len, List.length_append, List.length_cons, List.length_nil]); omega)   -- 0 append
      refine n_of (N' := KK28) kk28 ?_
      refine n_of (N' := NN24) nn24 ?_
      refine c_region fun KK29 kk29 => ?_
      refine n_of (N' := KK29) kk29 ?_
      refine n_of (N' := NL20) nl20 ?_
      refine ⟨⟨x + 1, by omega⟩, ?_, [0, 1, 2, 3, 4], rfl, ?_, ?_⟩
      · (dsimp only; omega)
      · exact LEq.eq ⟨rfl, rfl, rfl, rfl, congrArg (fun z => ar true (bld _ (y * W + x) ++ [z])) (grid_row (fun x y => Flap xs W H x y) (W := W) (x := x) (y := y) (by omega)).symm, trivial⟩
      · exact ⟨.inr (congrArg (exi .i64) (wr64 (n := (x : Int) + 1) (by omega) (by omega))), .inr rfl, .inr rfl, .inr rfl, .inr rfl, .inr rfl, .inr rfl, .inr rfl, .inr rfl, trivial⟩
    · skip
      have q1 := of_decide_eq_false h1
      (try dsimp only at q1)
      (try simp only [Dat.len, bld_len, List.length_cons, List.length_nil] at q1)
      refine c_exit ?_
      refine x_here xx19 ?_
      refine n_of (N' := NN13) nn13 ?_
      refine c_region fun KK30 kk30 => ?_
      refine n_of (N' := KK30) kk30 ?_
      refine n_of (N' := NL9) nl9 ?_
      refine ⟨⟨y + 1, by omega⟩, ?_, [0, 1, 2, 3, 4], rfl, ?_, ?_⟩
      · (dsimp only; omega)
      · exact LEq.eq ⟨rfl, rfl, rfl, rfl, congrArg (ar true) (congrArg (bld _) (by (try dsimp only); rw [Nat.add_mul]; omega)), trivial⟩
      · exact ⟨.inr (congrArg (exi .i64) (wr64 (n := (y : Int) + 1) (by omega) (by omega))), .inr rfl, .inr rfl, .inr rfl, .inr rfl, .inr rfl, trivial⟩
  · skip
    have q0 := of_decide_eq_false h0
    (try dsimp only at q0)
    (try simp only [Dat.len, bld_len, List.length_cons, List.length_nil] at q0)
    refine c_exit ?_
    refine x_here xx8 ?_
    refine n_of (N' := NN5) nn5 ?_
    refine c_seq fun NN31 nn31 => ?_
    refine c_region fun KK32 kk32 => ?_
    refine n_of (N' := KK32) kk32 ?_
    refine n_of (N' := NN31) nn31 ?_
    refine c_ret ?_
    refine n_of (N' := R0) hR ?_
    have e : y = H := by omega
    subst e
    exact ⟨[], rfl, by rw [Nat.mul_comm], rfl⟩

end
end Go.AX