/- What the functions of this program do, one contract a function, by that walk: each under what its own statement says. -/
import Derived.Test.YtojajegjmjmekaaB20
import Derived.Test.YtojajegjmjmekaaAxS
set_option linter.unusedVariables false
set_option linter.unusedSimpArgs false
namespace Go.AX
noncomputable section
open Go.RowKit Go.Proofs
set_option maxRecDepth 100000
set_option maxHeartbeats 4000000
open Go

/-! CarryBasin: the program's closure, which writes 'fine' -/
def Gcr (xs ys zs : List Nat) (z : Nat) (w h x y : Int) : Nat := numB (ncr ys zs z w h x y) (Fcr xs ys zs z w h x y)
def fcrN (ys zs : List Nat) (z W H : Nat) : Nat → Bool
  | 0 => true
  | n + 1 => fcrN ys zs z W H n && ncr ys zs z W H ((n % W : Nat) : Int) ((n / W : Nat) : Int)
theorem fcrN_all {ys zs : List Nat} {z W H : Nat} : ∀ {n : Nat}, fcrN ys zs z W H n = true → ∀ i, i < n → ncr ys zs z W H ((i % W : Nat) : Int) ((i / W : Nat) : Int) = true
  | 0, _, i, h => by omega
  | n + 1, h, i, hi => by
    simp only [fcrN, Bool.and_eq_true] at h
    by_cases e : i = n
    · subst e; exact h.2
    · exact fcrN_all h.1 i (by omega)
theorem fcrN_of {ys zs : List Nat} {z W H : Nat} : ∀ {n : Nat}, (∀ i, i < n → ncr ys zs z W H ((i % W : Nat) : Int) ((i / W : Nat) : Int) = true) → fcrN ys zs z W H n = true
  | 0, _ => rfl
  | n + 1, h => by rw [fcrN, h n (Nat.lt_succ_self n), Bool.and_true]; exact fcrN_of fun i hi => h i (by omega)
theorem fcrN_allcr (ys zs : List Nat) (z W H : Nat) : fcrN ys zs z W H (W * H) = allcr ys zs z W H := by
  cases h : fcrN ys zs z W H (W * H)
  · symm
    by_cases h2 : ∃ i, i < W * H ∧ ncr ys zs z W H ((i % W : Nat) : Int) ((i / W : Nat) : Int) = false
    · obtain ⟨i, h3, h4⟩ := h2
      exact allcr_not h3 h4
    · exfalso
      have : fcrN ys zs z W H (W * H) = true := fcrN_of fun i hi => by
        cases h5 : ncr ys zs z W H ((i % W : Nat) : Int) ((i / W : Nat) : Int)
        · exact absurd ⟨i, hi, h5⟩ h2
        · rfl
      rw [h] at this; cases this
  · exact (allcr_all (fcrN_all h)).symm
theorem fcrN_row {ys zs : List Nat} {z W H x y : Nat} (hx : x < W) : (fcrN ys zs z W H (y * W + x) && ncr ys zs z W H (x : Int) (y : Int)) = fcrN ys zs z W H (y * W + (x + 1)) := by
  show _ = fcrN ys zs z W H (y * W + x + 1)
  rw [fcrN]
  have e1 : (y * W + x) % W = x := by rw [Nat.mul_comm, Nat.mul_add_mod, Nat.mod_eq_of_lt hx]
  have e2 : (y * W + x) / W = y := by rw [Nat.mul_comm, Nat.mul_add_div (by omega), Nat.div_eq_of_lt hx]; omega
  rw [e1, e2]
theorem Gcr_grid {W H : Nat} {xs ys zs : List Nat} {z : Nat} (h : allcr ys zs z W H = true) : grid W H (fun x y => Gcr xs ys zs z W H x y) = Rcr W H xs ys zs z := by
  rw [← fcrN_allcr] at h
  unfold Rcr
  rw [gridN, gridN]
  exact bld_congr fun i hi => by unfold Gcr; rw [fcrN_all h i hi]; rfl
theorem plx_at {ys : List Nat} {z W H x y : Nat} : plx ys z W H x y = fop .sub .f32 (fint .f32 (x : Int)) (fop .mul .f32 z (atV ys W H x y)) := rfl
def fi3 (a b c : Bool) : Int := bif a then (bif b then (bif c then -1 else 2) else 1) else 0
theorem fi3_ge (a b c : Bool) : (!(decide (fi3 a b c ≥ 0))) = (a && (b && c)) := by cases a <;> cases b <;> cases c <;> rfl
def al3 (w h : Int) (xs : List Nat) (w2 k2 : Int) (ys : List Nat) (w3 k3 : Int) (zs : List Nat) : Bool := al w h xs w h && (al w2 k2 ys w h && al w3 k3 zs w h)
theorem al3_two (w h : Int) (xs : List Nat) (w2 k2 : Int) (ys : List Nat) (w3 k3 : Int) (zs : List Nat) (z : Nat) : (al3 w h xs w2 k2 ys w3 k3 zs && finB z) = (two w h xs w2 k2 ys && (two w h xs w3 k3 zs && finB z)) := by
  unfold al3
  rw [← al_two, ← al_two]
  cases al w h xs w h <;> cases al w2 k2 ys w h <;> cases al w3 k3 zs w h <;> rfl

theorem s135 (o o2 o3 : Bool) (xs ys zs : List Nat) (W H : Nat) (w1 : 3 ≤ W) (w2 : W ≤ 16) (w3 : 3 ≤ H) (w4 : H ≤ 16) (hl : xs.length = W * H) (hl2 : ys.length = W * H) (hl3 : zs.length = W * H) (z : Nat) (fn : Bool) (x y : Nat) (hx : x < W) (hy : y < H) : SP 135 [basV W H 5, .var 32 [.fl .f32 z], basV W H 6, basV W H 7, .var 4 [.ex (.bool fn)], ar o xs, ar o2 ys, ar o3 zs] [i64 x, i64 y, .one (.pv 0 0), .one (.pv 1 0), .one (.pv 2 0), .one (.pv 3 0), .one (.pv 4 0)] [basV W H 5, .var 32 [.fl .f32 z], basV W H 6, basV W H 7, .var 4 [.ex (.bool (fn && ncr ys zs z W H x y))], ar o xs, ar o2 ys, ar o3 zs] (fl32 (Gcr xs ys zs z W H x y)) := by
  refine spec_of_codeR (fn := Try.f135) tyOK mixes Try.func135 rfl rfl rfl ⟨.inl rfl, .inl rfl, .inl rfl, .inl rfl, .inr rfl, .inl rfl, .inl rfl, .inl rfl, rfl⟩ fun hg R0 hR => ?_
  refine c_seq fun NN1 nn1 => ?_
  refine c_region fun KK2 kk2 => ?_
  refine n_of (N' := KK2) kk2 ?_
  refine n_of (N' := NN1) nn1 ?_
  refine c_seq fun NN3 nn3 => ?_
  refine c_draw 21 [0, 1, 2, 3, 4, 8, 9, 10, 11, 12, 5, 6, 7, 13, 14, 15, 16, 17, 18, 19, 20] (by kernel_rfl) fun KK4 kk4 => ?_
  refine ⟨rfl, _, _, s103 _ _ _ _ w1 w2 w3 w4 hl2 _ _, rfl, ?_⟩
  refine ⟨rfl, _, _, s103 _ _ _ _ w1 w2 w3 w4 hl3 _ _, rfl, ?_⟩
  refine ⟨rfl, _, _, s128 _ _ _ _ w1 w2 w3 w4 hl _ _ (fun h => flr_place (by omega) _ h) (fun h => flr_place (by omega) _ h), rfl, ?_⟩
  refine n_of (N' := KK4) kk4 ?_
  refine n_of (N' := NN3) nn3 ?_
  refine c_seq fun NN5 nn5 => ?_
  refine c_region fun KK6 kk6 => ?_
  refine And.intro (fun h0 => ?_) (fun h0 => ?_)
  · skip
    refine n_of (N' := KK6) kk6 ?_
    refine n_of (N' := NN5) nn5 ?_
    refine c_seq fun NN7 nn7 => ?_
    refine c_region fun KK8 kk8 => ?_
    refine n_of (N' := KK8) kk8 ?_
    refine n_of (N' := NN7) nn7 ?_
    refine c_ret ?_
    refine n_of (N' := R0) hR ?_
    exact ⟨[], rfl, by rw [h0]; rfl, rfl⟩
  · skip
    refine n_of (N' := KK6) kk6 ?_
    refine n_of (N' := NN5) nn5 ?_
    refine c_seq fun NN9 nn9 => ?_
    refine c_region fun KK10 kk10 => ?_
    refine n_of (N' := KK10) kk10 ?_
    refine n_of (N' := NN9) nn9 ?_
    refine c_ret ?_
    refine n_of (N' := R0) hR ?_
    exact ⟨[], rfl, by rw [h0]; rfl, rfl⟩

theorem s149p (o o2 o3 : Bool) (xs ys zs : List Nat) (w h w2 k2 w3 k3 : Int) : SP 149 [ar o xs, .var 117 [.sv 2 3], .var 27 [.ex (.int .i64 w), .ex (.int .i64 h), .sl 0, .ex (.int .i64 w2), .ex (.int .i64 k2), .sl 3, .ex (.int .i64 w3), .ex (.int .i64 k3), .sl 4], ar o2 ys, ar o3 zs] [bas w h 0, .one (.pv 1 0)] [ar o xs, .var 117 [.sv 2 3], .var 27 [.ex (.int .i64 w), .ex (.int .i64 h), .sl 0, .ex (.int .i64 w2), .ex (.int .i64 k2), .sl 3, .ex (.int .i64 w3), .ex (.int .i64 k3), .sl 4], ar o2 ys, ar o3 zs] (exb (!(al w h xs w h))) := by
  refine spec_of_codeR (fn := Try.f149) tyOK mixes Try.func149 rfl rfl rfl ⟨.inl rfl, ⟨.inl rfl, ⟨.inl rfl, ⟨.inl rfl, ⟨.inl rfl, rfl⟩⟩⟩⟩⟩ fun hg R0 hR => ?_
  refine c_seq fun NN1 nn1 => ?_
  refine c_region fun KK2 kk2 => ?_
  refine n_of (N' := KK2) kk2 ?_
  refine n_of (N' := NN1) nn1 ?_
  refine c_seq fun NN3 nn3 => ?_
  refine c_draw 19 [0, 1, 2, 3, 4, 5, 6, 7, 8, 9, 10, 11, 12, 13, 14, 15, 16, 17, 18] (by kernel_rfl) fun KK4 kk4 => ?_
  refine ⟨rfl, _, _, (s28 _ _ _ _), rfl, ?_⟩
  refine And.intro (fun h0 => ?_) (fun h0 => ?_)
  · skip
    refine And.intro (fun _ => ?_) (fun h => nomatch h)
    refine n_of (N' := KK4) kk4 ?_
    refine n_of (N' := NN3) nn3 ?_
    refine c_ret ?_
    refine n_of (N' := R0) hR ?_
    exact ⟨[], rfl, rfl, congrArg exb (by unfold al; rw [not_t h0]; rfl)⟩
  · skip
    refine And.intro ?_ ?_
    · ((try dsimp only); (try simp only [Dat.len, Int.toNat_natCast]); omega)   -- 0 index
    refine And.intro (fun h1 => ?_) (fun h1 => ?_)
    · skip
      refine n_of (N' := KK4) kk4 ?_
      refine n_of (N' := NN3) nn3 ?_
      refine c_ret ?_
      refine n_of (N' := R0) hR ?_
      exact ⟨[], rfl, rfl, congrArg exb (by unfold al; rw [bneq h1]; simp)⟩
    · skip
      refine And.intro ?_ ?_
      · ((try dsimp only); (try simp only [Dat.len, Int.toNat_natCast]); omega)   -- 1 index
      refine n_of (N' := KK4) kk4 ?_
      refine n_of (N' := NN3) nn3 ?_
      refine c_ret ?_
      refine n_of (N' := R0) hR ?_
      exact ⟨[], rfl, rfl, congrArg exb (by unfold al; rw [not_f h0, bneqF h1]; rfl)⟩

theorem s149q (o o2 o3 : Bool) (xs ys zs : List Nat) (w h w2 k2 w3 k3 : Int) : SP 149 [ar o2 ys, .var 117 [.sv 2 3], .var 27 [.ex (.int .i64 w), .ex (.int .i64 h), .sl 3, .ex (.int .i64 w2), .ex (.int .i64 k2), .sl 0, .ex (.int .i64 w3), .ex (.int .i64 k3), .sl 4], ar o xs, ar o3 zs] [bas w2 k2 0, .one (.pv 1 0)] [ar o2 ys, .var 117 [.sv 2 3], .var 27 [.ex (.int .i64 w), .ex (.int .i64 h), .sl 3, .ex (.int .i64 w2), .ex (.int .i64 k2), .sl 0, .ex (.int .i64 w3), .ex (.int .i64 k3), .sl 4], ar o xs, ar o3 zs] (exb (!(al w2 k2 ys w h))) := by
  refine spec_of_codeR (fn := Try.f149) tyOK mixes Try.func149 rfl rfl rfl ⟨.inl rfl, ⟨.inl rfl, ⟨.inl rfl, ⟨.inl rfl, ⟨.inl rfl, rfl⟩⟩⟩⟩⟩ fun hg R0 hR => ?_
  refine c_seq fun NN1 nn1 => ?_
  refine c_region fun KK2 kk2 => ?_
  refine n_of (N' := KK2) kk2 ?_
  refine n_of (N' := NN1) nn1 ?_
  refine c_seq fun NN3 nn3 => ?_
  refine c_draw 19 [0, 1, 2, 3, 4, 5, 6, 7, 8, 9, 10, 11, 12, 13, 14, 15, 16, 17, 18] (by kernel_rfl) fun KK4 kk4 => ?_
  refine ⟨rfl, _, _, (s28 _ _ _ _), rfl, ?_⟩
  refine And.intro (fun h0 => ?_) (fun h0 => ?_)
  · skip
    refine And.intro (fun _ => ?_) (fun h => nomatch h)
    refine n_of (N' := KK4) kk4 ?_
    refine n_of (N' := NN3) nn3 ?_
    refine c_ret ?_
    refine n_of (N' := R0) hR ?_
    exact ⟨[], rfl, rfl, congrArg exb (by unfold al; rw [not_t h0]; rfl)⟩
  · skip
    refine And.intro ?_ ?_
    · ((try dsimp only); (try simp only [Dat.len, Int.toNat_natCast]); omega)   -- 0 index
    refine And.intro (fun h1 => ?_) (fun h1 => ?_)
    · skip
      refine n_of (N' := KK4) kk4 ?_
      refine n_of (N' := NN3) nn3 ?_
      refine c_ret ?_
      refine n_of (N' := R0) hR ?_
      exact ⟨[], rfl, rfl, congrArg exb (by unfold al; rw [bneq h1]; simp)⟩
    · skip
      refine And.intro ?_ ?_
      · ((try dsimp only); (try simp only [Dat.len, Int.toNat_natCast]); omega)   -- 1 index
      refine n_of (N' := KK4) kk4 ?_
      refine n_of (N' := NN3) nn3 ?_
      refine c_ret ?_
      refine n_of (N' := R0) hR ?_
      exact ⟨[], rfl, rfl, congrArg exb (by unfold al; rw [not_f h0, bneqF h1]; rfl)⟩

theorem s149r (o o2 o3 : Bool) (xs ys zs : List Nat) (w h w2 k2 w3 k3 : Int) : SP 149 [ar o3 zs, .var 117 [.sv 2 3], .var 27 [.ex (.int .i64 w), .ex (.int .i64 h), .sl 3, .ex (.int .i64 w2), .ex (.int .i64 k2), .sl 4, .ex (.int .i64 w3), .ex (.int .i64 k3), .sl 0], ar o xs, ar o2 ys] [bas w3 k3 0, .one (.pv 1 0)] [ar o3 zs, .var 117 [.sv 2 3], .var 27 [.ex (.int .i64 w), .ex (.int .i64 h), .sl 3, .ex (.int .i64 w2), .ex (.int .i64 k2), .sl 4, .ex (.int .i64 w3), .ex (.int .i64 k3), .sl 0], ar o xs, ar o2 ys] (exb (!(al w3 k3 zs w h))) := by
  refine spec_of_codeR (fn := Try.f149) tyOK mixes Try.func149 rfl rfl rfl ⟨.inl rfl, ⟨.inl rfl, ⟨.inl rfl, ⟨.inl rfl, ⟨.inl rfl, rfl⟩⟩⟩⟩⟩ fun hg R0 hR => ?_
  refine c_seq fun NN1 nn1 => ?_
  refine c_region fun KK2 kk2 => ?_
  refine n_of (N' := KK2) kk2 ?_
  refine n_of (N' := NN1) nn1 ?_
  refine c_seq fun NN3 nn3 => ?_
  refine c_draw 19 [0, 1, 2, 3, 4, 5, 6, 7, 8, 9, 10, 11, 12, 13, 14, 15, 16, 17, 18] (by kernel_rfl) fun KK4 kk4 => ?_
  refine ⟨rfl, _, _, (s28 _ _ _ _), rfl, ?_⟩
  refine And.intro (fun h0 => ?_) (fun h0 => ?_)
  · skip
    refine And.intro (fun _ => ?_) (fun h => nomatch h)
    refine n_of (N' := KK4) kk4 ?_
    refine n_of (N' := NN3) nn3 ?_
    refine c_ret ?_
    refine n_of (N' := R0) hR ?_
    exact ⟨[], rfl, rfl, congrArg exb (by unfold al; rw [not_t h0]; rfl)⟩
  · skip
    refine And.intro ?_ ?_
    · ((try dsimp only); (try simp only [Dat.len, Int.toNat_natCast]); omega)   -- 0 index
    refine And.intro (fun h1 => ?_) (fun h1 => ?_)
    · skip
      refine n_of (N' := KK4) kk4 ?_
      refine n_of (N' := NN3) nn3 ?_
      refine c_ret ?_
      refine n_of (N' := R0) hR ?_
      exact ⟨[], rfl, rfl, congrArg exb (by unfold al; rw [bneq h1]; simp)⟩
    · skip
      refine And.intro ?_ ?_
      · ((try dsimp only); (try simp only [Dat.len, Int.toNat_natCast]); omega)   -- 1 index
      refine n_of (N' := KK4) kk4 ?_
      refine n_of (N' := NN3) nn3 ?_
      refine c_ret ?_
      refine n_of (N' := R0) hR ?_
      exact ⟨[], rfl, rfl, congrArg exb (by unfold al; rw [not_f h0, bneqF h1]; rfl)⟩

theorem s162c (o o2 o3 : Bool) (xs ys zs : List Nat) (w h w2 k2 w3 k3 : Int) : SP 162 [.var 27 [.ex (.int .i64 w), .ex (.int .i64 h), .sl 2, .ex (.int .i64 w2), .ex (.int .i64 k2), .sl 3, .ex (.int .i64 w3), .ex (.int .i64 k3), .sl 4], .var 117 [.sv 0 3], ar o xs, ar o2 ys, ar o3 zs] [.one (.sv 0 3), .one (.fn 149 [] [1])] [.var 27 [.ex (.int .i64 w), .ex (.int .i64 h), .sl 2, .ex (.int .i64 w2), .ex (.int .i64 k2), .sl 3, .ex (.int .i64 w3), .ex (.int .i64 k3), .sl 4], .var 117 [.sv 0 3], ar o xs, ar o2 ys, ar o3 zs] (exi .i64 (fi3 (al w h xs w h) (al w2 k2 ys w h) (al w3 k3 zs w h))) := by
  refine spec_of_codeR (fn := Try.f162) tyOK mixes Try.func162 rfl rfl rfl ⟨.inl rfl, ⟨.inl rfl, ⟨.inl rfl, ⟨.inl rfl, ⟨.inl rfl, rfl⟩⟩⟩⟩⟩ fun hg R0 hR => ?_
  refine c_seq fun NN1 nn1 => ?_
  refine c_region fun KK2 kk2 => ?_
  refine n_of (N' := KK2) kk2 ?_
  refine n_of (N' := NN1) nn1 ?_
  refine c_seq fun NN3 nn3 => ?_
  refine c_seq fun NN4 nn4 => ?_
  refine c_region fun KK5 kk5 => ?_
  refine n_of (N' := KK5) kk5 ?_
  refine n_of (N' := NN4) nn4 ?_
  refine c_block fun XX6 xx6 => ?_
  refine loop_keep [] [0, 1, 7] (ι := { i : Nat // i ≤ 3 ∧ (1 ≤ i → al w h xs w h = true) ∧ (2 ≤ i → al w2 k2 ys w h = true) ∧ (3 ≤ i → al w3 k3 zs w h = true) }) (fun i => [(8, exi .i64 i.1)]) (fun i => []) (fun i => 3 - i.1) ⟨0, by omega, fun h => absurd h (by omega), fun h => absurd h (by omega), fun h => absurd h (by omega)⟩ trivial rfl ?_
  refine ⟨?_, ?_, ?_⟩
  · exact ⟨.inr rfl, trivial⟩
  · exact ⟨rfl, rfl, rfl, rfl, rfl, trivial⟩
  refine fun ⟨i, hi, ha, hb, hc⟩ NL7 nl7 => ?_
  obtain rfl | rfl | rfl | rfl : i = 0 ∨ i = 1 ∨ i = 2 ∨ i = 3 := by omega
  · skip
    refine c_norm rfl rfl ?_
    refine c_seq fun NN8 nn8 => ?_
    refine c_region fun KK9 kk9 => ?_
    refine n_of (N' := KK9) kk9 ?_
    refine n_of (N' := NN8) nn8 ?_
    refine c_seq fun NN10 nn10 => ?_
    refine c_cond rfl (fun h0 => ?_) (fun h0 => ?_)
    · skip
      have q0 := of_decide_eq_true h0
      (try dsimp only at q0)
      (try simp only [Dat.len] at q0)
      refine c_skip ?_
      refine n_of (N' := NN10) nn10 ?_
      refine c_seq fun NN11 nn11 => ?_
      refine c_block fun XX12 xx12 => ?_
      refine c_seq fun NN13 nn13 => ?_
      refine c_region fun KK14 kk14 => ?_
      refine n_of (N' := KK14) kk14 ?_
      refine n_of (N' := NN13) nn13 ?_
      refine c_seq fun NN15 nn15 => ?_
      refine c_region fun KK16 kk16 => ?_
      refine And.intro ?_ ?_
      · ((try dsimp only); (try simp only [Dat.len, Int.toNat_natCast]); omega)   -- 0 index
      refine ⟨rfl, _, _, s149p _ _ _ _ _ _ _ _ _ _ _ _, ?_⟩
      refine n_of (N' := KK16) kk16 ?_
      refine n_of (N' := NN15) nn15 ?_
      refine c_cond rfl (fun h1 => ?_) (fun h1 => ?_)
      · skip
        refine c_seq fun NN17 nn17 => ?_
        refine c_region fun KK18 kk18 => ?_
        refine n_of (N' := KK18) kk18 ?_
        refine n_of (N' := NN17) nn17 ?_
        refine c_ret ?_
        refine n_of (N' := R0) hR ?_
        exact ⟨[], rfl, rfl, congrArg (exi .i64) (by (try dsimp only); unfold fi3; rw [not_t h1]; rfl)⟩
      · skip
        refine c_skip ?_
        refine n_of (N' := NN11) nn11 ?_
        refine c_region fun KK19 kk19 => ?_
        refine n_of (N' := KK19) kk19 ?_
        refine n_of (N' := NL7) nl7 ?_
        refine ⟨⟨1, by omega, fun _ => not_f h1, fun h => absurd h (by omega), fun h => absurd h (by omega)⟩, ?_, [0, 1, 2, 3, 4], rfl, ?_, ?_⟩
        · (dsimp only; omega)
        · exact LEq.eq ⟨rfl, rfl, rfl, rfl, rfl, trivial⟩
        · exact ⟨.inr rfl, .inr rfl, .inr rfl, .inr rfl, trivial⟩
    · skip
      have q0 := of_decide_eq_false h0
      (try dsimp only at q0)
      (try simp only [Dat.len] at q0)
      (exfalso; omega)
  · skip
    refine c_norm rfl rfl ?_
    refine c_seq fun NN20 nn20 => ?_
    refine c_region fun KK21 kk21 => ?_
    refine n_of (N' := KK21) kk21 ?_
    refine n_of (N' := NN20) nn20 ?_
    refine c_seq fun NN22 nn22 => ?_
    refine c_cond rfl (fun h0 => ?_) (fun h0 => ?_)
    · skip
      have q0 := of_decide_eq_true h0
      (try dsimp only at q0)
      (try simp only [Dat.len] at q0)
      refine c_skip ?_
      refine n_of (N' := NN22) nn22 ?_
      refine c_seq fun NN23 nn23 => ?_
      refine c_block fun XX24 xx24 => ?_
      refine c_seq fun NN25 nn25 => ?_
      refine c_region fun KK26 kk26 => ?_
      refine n_of (N' := KK26) kk26 ?_
      refine n_of (N' := NN25) nn25 ?_
      refine c_seq fun NN27 nn27 => ?_
      refine c_region fun KK28 kk28 => ?_
      refine And.intro ?_ ?_
      · ((try dsimp only); (try simp only [Dat.len, Int.toNat_natCast]); omega)   -- 1 index
      refine ⟨rfl, _, _, s149q _ _ _ _ _ _ _ _ _ _ _ _, ?_⟩
      refine n_of (N' := KK28) kk28 ?_
      refine n_of (N' := NN27) nn27 ?_
      refine c_cond rfl (fun h1 => ?_) (fun h1 => ?_)
      · skip
        refine c_seq fun NN29 nn29 => ?_
        refine c_region fun KK30 kk30 => ?_
        refine n_of (N' := KK30) kk30 ?_
        refine n_of (N' := NN29) nn29 ?_
        refine c_ret ?_
        refine n_of (N' := R0) hR ?_
        exact ⟨[], rfl, rfl, congrArg (exi .i64) (by (try dsimp only); unfold fi3; rw [ha (by omega), not_t h1]; rfl)⟩
      · skip
        refine c_skip ?_
        refine n_of (N' := NN23) nn23 ?_
        refine c_region fun KK31 kk31 => ?_
        refine n_of (N' := KK31) kk31 ?_
        refine n_of (N' := NL7) nl7 ?_
        refine ⟨⟨2, by omega, fun _ => ha (by omega), fun _ => not_f h1, fun h => absurd h (by omega)⟩, ?_, [0, 1, 2, 3, 4], rfl, ?_, ?_⟩
        · (dsimp only; omega)
        · exact LEq.eq ⟨rfl, rfl, rfl, rfl, rfl, trivial⟩
        · exact ⟨.inr rfl, .inr rfl, .inr rfl, .inr rfl, trivial⟩
    · skip
      have q0 := of_decide_eq_false h0
      (try dsimp only at q0)
      (try simp only [Dat.len] at q0)
      (exfalso; omega)
  · skip
    refine c_norm rfl rfl ?_
    refine c_seq fun NN32 nn32 => ?_
    refine c_region fun KK33 kk33 => ?_
    refine n_of (N' := KK33) kk33 ?_
    refine n_of (N' := NN32) nn32 ?_
    refine c_seq fun NN34 nn34 => ?_
    refine c_cond rfl (fun h0 => ?_) (fun h0 => ?_)
    · skip
      have q0 := of_decide_eq_true h0
      (try dsimp only at q0)
      (try simp only [Dat.len] at q0)
      refine c_skip ?_
      refine n_of (N' := NN34) nn34 ?_
      refine c_seq fun NN35 nn35 => ?_
      refine c_block fun XX36 xx36 => ?_
      refine c_seq fun NN37 nn37 => ?_
      refine c_region fun KK38 kk38 => ?_
      refine n_of (N' := KK38) kk38 ?_
      refine n_of (N' := NN37) nn37 ?_
      refine c_seq fun NN39 nn39 => ?_
      refine c_region fun KK40 kk40 => ?_
      refine And.intro ?_ ?_
      · ((try dsimp only); (try simp only [Dat.len, Int.toNat_natCast]); omega)   -- 2 index
      refine ⟨rfl, _, _, s149r _ _ _ _ _ _ _ _ _ _ _ _, ?_⟩
      refine n_of (N' := KK40) kk40 ?_
      refine n_of (N' := NN39) nn39 ?_
      refine c_cond rfl (fun h1 => ?_) (fun h1 => ?_)
      · skip
        refine c_seq fun NN41 nn41 => ?_
        refine c_region fun KK42 kk42 => ?_
        refine n_of (N' := KK42) kk42 ?_
        refine n_of (N' := NN41) nn41 ?_
        refine c_ret ?_
        refine n_of (N' := R0) hR ?_
        exact ⟨[], rfl, rfl, congrArg (exi .i64) (by (try dsimp only); unfold fi3; rw [ha (by omega), hb (by omega), not_t h1]; rfl)⟩
      · skip
        refine c_skip ?_
        refine n_of (N' := NN35) nn35 ?_
        refine c_region fun KK43 kk43 => ?_
        refine n_of (N' := KK43) kk43 ?_
        refine n_of (N' := NL7) nl7 ?_
        refine ⟨⟨3, by omega, fun _ => ha (by omega), fun _ => hb (by omega), fun _ => not_f h1⟩, ?_, [0, 1, 2, 3, 4], rfl, ?_, ?_⟩
        · (dsimp only; omega)
        · exact LEq.eq ⟨rfl, rfl, rfl, rfl, rfl, trivial⟩
        · exact ⟨.inr rfl, .inr rfl, .inr rfl, .inr rfl, trivial⟩
    · skip
      have q0 := of_decide_eq_false h0
      (try dsimp only at q0)
      (try simp only [Dat.len] at q0)
      (exfalso; omega)
  · skip
    refine c_norm rfl rfl ?_
    refine c_seq fun NN44 nn44 => ?_
    refine c_region fun KK45 kk45 => ?_
    refine n_of (N' := KK45) kk45 ?_
    refine n_of (N' := NN44) nn44 ?_
    refine c_seq fun NN46 nn46 => ?_
    refine c_cond rfl (fun h0 => ?_) (fun h0 => ?_)
    · skip
      have q0 := of_decide_eq_true h0
      (try dsimp only at q0)
      (try simp only [Dat.len] at q0)
      (exfalso; omega)
    · skip
      have q0 := of_decide_eq_false h0
      (try dsimp only at q0)
      (try simp only [Dat.len] at q0)
      refine c_exit ?_
      refine x_here xx6 ?_
      refine n_of (N' := NN3) nn3 ?_
      refine c_seq fun NN47 nn47 => ?_
      refine c_region fun KK48 kk48 => ?_
      refine n_of (N' := KK48) kk48 ?_
      refine n_of (N' := NN47) nn47 ?_
      refine c_ret ?_
      refine n_of (N' := R0) hR ?_
      exact ⟨[], rfl, rfl, congrArg (exi .i64) (by (try dsimp only); unfold fi3; rw [ha (by omega), hb (by omega), hc (by omega)]; rfl)⟩

theorem s148c (o o2 o3 : Bool) (xs ys zs : List Nat) (w h w2 k2 w3 k3 : Int) : SP 148 [.var 27 [.ex (.int .i64 w), .ex (.int .i64 h), .sl 2, .ex (.int .i64 w2), .ex (.int .i64 k2), .sl 3, .ex (.int .i64 w3), .ex (.int .i64 k3), .sl 4], .var 117 [.sv 0 3], ar o xs, ar o2 ys, ar o3 zs] [.one (.sv 0 3), .one (.fn 149 [] [1])] [.var 27 [.ex (.int .i64 w), .ex (.int .i64 h), .sl 2, .ex (.int .i64 w2), .ex (.int .i64 k2), .sl 3, .ex (.int .i64 w3), .ex (.int .i64 k3), .sl 4], .var 117 [.sv 0 3], ar o xs, ar o2 ys, ar o3 zs] (exb (decide ((fi3 (al w h xs w h) (al w2 k2 ys w h) (al w3 k3 zs w h)) ≥ 0))) := by
  refine spec_of_codeR (fn := Try.f148) tyOK mixes Try.func148 rfl rfl rfl ⟨.inl rfl, ⟨.inl rfl, ⟨.inl rfl, ⟨.inl rfl, ⟨.inl rfl, rfl⟩⟩⟩⟩⟩ fun hg R0 hR => ?_
  refine c_seq fun NN1 nn1 => ?_
  refine c_region fun KK2 kk2 => ?_
  refine n_of (N' := KK2) kk2 ?_
  refine n_of (N' := NN1) nn1 ?_
  refine c_seq fun NN3 nn3 => ?_
  refine c_region fun KK4 kk4 => ?_
  refine ⟨rfl, _, _, (s162c _ _ _ _ _ _ _ _ _ _ _ _), ?_⟩
  refine n_of (N' := KK4) kk4 ?_
  refine n_of (N' := NN3) nn3 ?_
  refine c_ret ?_
  refine n_of (N' := R0) hR ?_
  exact ⟨[], rfl, rfl, rfl⟩

theorem s115c (o o2 o3 : Bool) (xs ys zs : List Nat) (w h w2 k2 w3 k3 : Int) : SP 115 [.var 27 [.ex (.int .i64 w), .ex (.int .i64 h), .sl 1, .ex (.int .i64 w2), .ex (.int .i64 k2), .sl 2, .ex (.int .i64 w3), .ex (.int .i64 k3), .sl 3], ar o xs, ar o2 ys, ar o3 zs] [.one (.sv 0 3)] [.var 27 [.ex (.int .i64 w), .ex (.int .i64 h), .sl 1, .ex (.int .i64 w2), .ex (.int .i64 k2), .sl 2, .ex (.int .i64 w3), .ex (.int .i64 k3), .sl 3], ar o xs, ar o2 ys, ar o3 zs] (exb (al3 w h xs w2 k2 ys w3 k3 zs)) := by
  refine spec_of_codeR (fn := Try.f115) tyOK mixes Try.func115 rfl rfl rfl ⟨.inl rfl, ⟨.inl rfl, ⟨.inl rfl, ⟨.inl rfl, rfl⟩⟩⟩⟩ fun hg R0 hR => ?_
  refine c_seq fun NN1 nn1 => ?_
  refine c_region fun KK2 kk2 => ?_
  refine n_of (N' := KK2) kk2 ?_
  refine n_of (N' := NN1) nn1 ?_
  refine c_seq fun NN3 nn3 => ?_
  refine c_region fun KK4 kk4 => ?_
  refine ⟨rfl, _, _, (s148c _ _ _ _ _ _ _ _ _ _ _ _), ?_⟩
  refine n_of (N' := KK4) kk4 ?_
  refine n_of (N' := NN3) nn3 ?_
  refine c_ret ?_
  refine n_of (N' := R0) hR ?_
  exact ⟨[], rfl, rfl, congrArg exb (fi3_ge _ _ _)⟩

theorem s95cr (o o2 o3 : Bool) (xs ys zs : List Nat) (W H : Nat) (w1 : 3 ≤ W) (w2 : W ≤ 16) (w3 : 3 ≤ H) (w4 : H ≤ 16) (hl : xs.length = W * H) (hl2 : ys.length = W * H) (hl3 : zs.length = W * H) (z : Nat) : SP 95 [basV W H 5, .var 32 [.fl .f32 z], basV W H 6, basV W H 7, .var 4 [.ex (.bool true)], ar o xs, ar o2 ys, ar o3 zs] [i64 W, i64 H, .one (.fn 135 [] [0, 1, 2, 3, 4])] [basV W H 5, .var 32 [.fl .f32 z], basV W H 6, basV W H 7, .var 4 [.ex (.bool (fcrN ys zs z W H (W * H)))], ar o xs, ar o2 ys, ar o3 zs, ar true (grid W H (fun x y => Gcr xs ys zs z W H x y))] (.v (bas W H 8)) := by
  refine spec_of_codeR (fn := Try.f95) tyOK mixes Try.func95 rfl rfl rfl ⟨.inl rfl, .inl rfl, .inl rfl, .inl rfl, .inr rfl, .inl rfl, .inl rfl, .inl rfl, rfl⟩ fun hg R0 hR => ?_
  have hWH : W * H ≤ 256 := (by have := Nat.mul_le_mul w2 w4; omega)
  have hwr := wrWH hWH
  rw [gridN] at hR
  refine c_seq fun NN1 nn1 => ?_
  refine c_region fun KK2 kk2 => ?_
  refine n_of (N' := KK2) kk2 ?_
  refine n_of (N' := NN1) nn1 ?_
  refine c_seq fun NN3 nn3 => ?_
  refine c_region fun KK4 kk4 => ?_
  refine n_of (N' := KK4) kk4 ?_
  refine n_of (N' := NN3) nn3 ?_
  refine c_seq fun NN5 nn5 => ?_
  refine c_seq fun NN6 nn6 => ?_
  refine c_region fun KK7 kk7 => ?_
  refine n_of (N' := KK7) kk7 ?_
  refine n_of (N' := NN6) nn6 ?_
  refine c_block fun XX8 xx8 => ?_
  refine loop_keep [.c 9 2 32 (.f [])] [0, 2, 6, 7, 13] (ι := { i : Nat // i ≤ H }) (fun i => [(14, exi .i64 i.1)]) (fun i => [(4, .var 4 [.ex (.bool (fcrN ys zs z W H (i.1 * W)))]), (10, ar true (bld (fun t => (fun x y => Gcr xs ys zs z W H x y) ((t % W : Nat) : Int) ((t / W : Nat) : Int)) (i.1 * W)))]) (fun i => H - i.1) ⟨0, Nat.zero_le _⟩ ⟨rfl, trivial⟩ rfl ?_
  refine ⟨?_, ?_, ?_⟩
  · exact ⟨.inr rfl, trivial⟩
  · exact ⟨rfl, rfl, rfl, rfl, by (try dsimp only); rw [Nat.zero_mul]; rfl, rfl, rfl, rfl, rfl, rfl, congrArg (ar true) (by simp [bld]), trivial⟩
  refine fun ⟨y, hy⟩ NL9 nl9 => ?_
  refine c_norm rfl rfl ?_
  refine c_seq fun NN10 nn10 => ?_
  refine c_region fun KK11 kk11 => ?_
  refine n_of (N' := KK11) kk11 ?_
  refine n_of (N' := NN10) nn10 ?_
  refine c_seq fun NN12 nn12 => ?_
  refine c_cond rfl (fun h0 => ?_) (fun h0 => ?_)
  · skip
    have q0 := of_decide_eq_true h0
    (try dsimp only at q0)
    (try simp only [Dat.len, bld_len, List.length_cons, List.length_nil] at q0)
    refine c_skip ?_
    refine n_of (N' := NN12) nn12 ?_
    refine c_seq fun NN13 nn13 => ?_
    refine c_block fun XX14 xx14 => ?_
    refine c_seq fun NN15 nn15 => ?_
    refine c_region fun KK16 kk16 => ?_
    refine n_of (N' := KK16) kk16 ?_
    refine n_of (N' := NN15) nn15 ?_
    refine c_seq fun NN17 nn17 => ?_
    refine c_region fun KK18 kk18 => ?_
    refine n_of (N' := KK18) kk18 ?_
    refine n_of (N' := NN17) nn17 ?_
    refine c_block fun XX19 xx19 => ?_
    refine loop_keep [] [0, 2, 6, 7, 8, 13, 14, 17] (ι := { i : Nat // i ≤ W }) (fun i => [(18, exi .i64 i.1)]) (fun i => [(4, .var 4 [.ex (.bool (fcrN ys zs z W H (y * W + i.1)))]), (10, ar true (bld (fun t => (fun x y => Gcr xs ys zs z W H x y) ((t % W : Nat) : Int) ((t / W : Nat) : Int)) (y * W + i.1)))]) (fun i => W - i.1) ⟨0, Nat.zero_le _⟩ trivial rfl ?_
    refine ⟨?_, ?_, ?_⟩
    · exact ⟨.inr rfl, trivial⟩
    · exact ⟨rfl, rfl, rfl, rfl, rfl, rfl, rfl, rfl, rfl, rfl, rfl, trivial⟩
    refine fun ⟨x, hx⟩ NL20 nl20 => ?_
    refine c_norm rfl rfl ?_
    have hyx : y * W + x ≤ 256 := Nat.le_trans (Nat.add_le_add (Nat.mul_le_mul_right W (show y ≤ 15 by omega)) hx) (by omega)
    refine c_seq fun NN21 nn21 => ?_
    refine c_region fun KK22 kk22 => ?_
    refine n_of (N' := KK22) kk22 ?_
    refine n_of (N' := NN21) nn21 ?_
    refine c_seq fun NN23 nn23 => ?_
    refine c_cond rfl (fun h1 => ?_) (fun h1 => ?_)
    · skip
      have q1 := of_decide_eq_true h1
      (try dsimp only at q1)
      (try simp only [Dat.len, bld_len, List.length_cons, List.length_nil] at q1)
      refine c_skip ?_
      refine n_of (N' := NN23) nn23 ?_
      refine c_seq fun NN24 nn24 => ?_
      refine c_block fun XX25 xx25 => ?_
      refine c_seq fun NN26 nn26 => ?_
      refine c_region fun KK27 kk27 => ?_
      refine n_of (N' := KK27) kk27 ?_
      refine n_of (N' := NN26) nn26 ?_
      refine c_drawW tyOK mixes [4] 7 [0, 1, 2, 3, 4, 5, 6] (by kernel_rfl) fun KK28 kk28 => ?_
      refine ⟨rfl, _, _, s135 _ _ _ _ _ _ _ _ w1 w2 w3 w4 hl hl2 hl3 _ _ _ _ (by (try dsimp only); omega) (by (try dsimp only); omega), ⟨.inr rfl, .inr rfl, .inr rfl, .inr rfl, .inl rfl, .inr rfl, .inr rfl, .inr rfl, .inr rfl, .inr rfl, .inr rfl, trivial⟩, ?_⟩
      refine And.intro ?_ ?_
      · (refine ⟨?_, by decide⟩; (try dsimp only); (try simp only [Dat.len, bld_len, List.length_append, List.length_cons, List.length_nil]); omega)   -- 0 append
      refine n_of (N' := KK28) kk28 ?_
      refine n_of (N' := NN24) nn24 ?_
      refine c_region fun KK29 kk29 => ?_
      refine n_of (N' := KK29) kk29 ?_
      refine n_of (N' := NL20) nl20 ?_
      refine ⟨⟨x + 1, by omega⟩, ?_, [0, 1, 2, 3, 4, 5, 6, 7, 8, 9, 10], rfl, ?_, ?_⟩
      · (dsimp only; omega)
      · exact LEq.eq ⟨rfl, rfl, rfl, rfl, by rw [fcrN_row (show x < W by omega)], rfl, rfl, rfl, rfl, rfl, congrArg (fun z => ar true (bld _ (y * W + x) ++ [z])) (grid_row (fun x y => Gcr xs ys zs z W H x y) (W := W) (x := x) (y := y) (by omega)).symm, trivial⟩
      · exact ⟨.inr (congrArg (exi .i64) (wr64 (n := (x : Int) + 1) (by omega) (by omega))), .inr rfl, .inr rfl, .inr rfl, .inr rfl, .inr rfl, .inr rfl, .inr rfl, .inr rfl, trivial⟩
    · skip
      have q1 := of_decide_eq_false h1
      (try dsimp only at q1)
      (try simp only [Dat.len, bld_len, List.length_cons, List.length_nil] at q1)
      refine c_exit ?_
      refine x_here xx19 ?_
      refine n_of (N' := NN13) nn13 ?_
      refine c_region fun KK30 kk30 => ?_
      refine n_of (N' := KK30) kk30 ?_
      refine n_of (N' := NL9) nl9 ?_
      refine ⟨⟨y + 1, by omega⟩, ?_, [0, 1, 2, 3, 4, 5, 6, 7, 8, 9, 10], rfl, ?_, ?_⟩
      · (dsimp only; omega)
      · exact LEq.eq ⟨rfl, rfl, rfl, rfl, by (try dsimp only); rw [show (y + 1) * W = y * W + x by rw [Nat.add_mul]; omega], rfl, rfl, rfl, rfl, rfl, congrArg (ar true) (congrArg (bld _) (by (try dsimp only); rw [Nat.add_mul]; omega)), trivial⟩
      · exact ⟨.inr (congrArg (exi .i64) (wr64 (n := (y : Int) + 1) (by omega) (by omega))), .inr rfl, .inr rfl, .inr rfl, .inr rfl, .inr rfl, trivial⟩
  · skip
    have q0 := of_decide_eq_false h0
    (try dsimp only at q0)
    (try simp only [Dat.len, bld_len, List.length_cons, List.length_nil] at q0)
    refine c_exit ?_
    refine x_here xx8 ?_
    refine n_of (N' := NN5) nn5 ?_
    refine c_seq fun NN31 nn31 => ?_
    refine c_region fun KK32 kk32 => ?_
    refine n_of (N' := KK32) kk32 ?_
    refine n_of (N' := NN31) nn31 ?_
    refine c_ret ?_
    refine n_of (N' := R0) hR ?_
    have e : y = H := by omega
    subst e
    exact ⟨[], rfl, by rw [Nat.mul_comm], rfl⟩

theorem s101cr (o o2 o3 : Bool) (xs ys zs : List Nat) (z : Nat) (w h : Int) (hb : isB w h xs = true) (hb2 : isB w h ys = true) (hb3 : isB w h zs = true) : SP 101 [ar o xs, basV w h 0, .var 32 [.fl .f32 z], basV w h 6, basV w h 7, .var 4 [.ex (.bool true)], ar o2 ys, ar o3 zs] [bas w h 0, .one (.fn 135 [] [1, 2, 3, 4, 5])] [ar o xs, basV w h 0, .var 32 [.fl .f32 z], basV w h 6, basV w h 7, .var 4 [.ex (.bool (allcr ys zs z w h))], ar o2 ys, ar o3 zs, ar true (gR (isB w h (grid w h (fun x y => Gcr xs ys zs z w h x y))) (grid w h (fun x y => Gcr xs ys zs z w h x y)))] (toldB (isB w h (grid w h (fun x y => Gcr xs ys zs z w h x y))) w h 8) := by
  refine spec_of_codeR (fn := Try.f101) tyOK mixes Try.func101 rfl rfl rfl ⟨.inl rfl, .inl rfl, .inl rfl, .inl rfl, .inl rfl, .inr rfl, .inl rfl, .inl rfl, rfl⟩ fun hg R0 hR => ?_
  obtain ⟨W, H, rfl, rfl, w1, w2, w3, w4, hl, hWH⟩ := isB_nat hb
  have hly := isB_pos hb2
  obtain ⟨W2, H2, e1, e2, _, _, _, _, hl2, _⟩ := isB_nat hb2
  have e1 : W = W2 := Int.ofNat.inj e1
  have e2 : H = H2 := Int.ofNat.inj e2
  rw [← e1, ← e2] at hl2
  have hlz := isB_pos hb3
  obtain ⟨W3, H3, e1, e2, _, _, _, _, hl3, _⟩ := isB_nat hb3
  have e1 : W = W3 := Int.ofNat.inj e1
  have e2 : H = H3 := Int.ofNat.inj e2
  rw [← e1, ← e2] at hl3
  refine c_seq fun NN1 nn1 => ?_
  refine c_region fun KK2 kk2 => ?_
  refine n_of (N' := KK2) kk2 ?_
  refine n_of (N' := NN1) nn1 ?_
  refine c_seq fun NN3 nn3 => ?_
  refine c_seq fun NN4 nn4 => ?_
  refine c_region fun KK5 kk5 => ?_
  refine ⟨rfl, _, _, (s28 _ _ _ _), ?_⟩
  refine n_of (N' := KK5) kk5 ?_
  refine n_of (N' := NN4) nn4 ?_
  refine c_cond rfl (fun h0 => ?_) (fun h0 => ?_)
  · skip
    refine c_seq fun NN6 nn6 => ?_
    refine c_region fun KK7 kk7 => ?_
    refine n_of (N' := KK7) kk7 ?_
    refine n_of (N' := NN6) nn6 ?_
    refine c_ret ?_
    refine n_of (N' := R0) hR ?_
    have q := not_t h0
    rw [hb] at q; cases q
  · skip
    refine c_skip ?_
    refine n_of (N' := NN3) nn3 ?_
    refine c_seq fun NN8 nn8 => ?_
    refine c_region fun KK9 kk9 => ?_
    refine ⟨rfl, _, _, s95cr _ _ _ _ _ _ _ _ w1 w2 w3 w4 hl hl2 hl3 _, ?_⟩
    refine ⟨rfl, _, _, (s94 _ _ _), ?_⟩
    refine n_of (N' := KK9) kk9 ?_
    refine n_of (N' := NN8) nn8 ?_
    refine c_ret ?_
    refine n_of (N' := R0) hR ?_
    exact ⟨[], rfl, by rw [fcrN_allcr], rfl⟩

theorem s75 (o o2 o3 : Bool) (xs ys zs : List Nat) (w h w2 k2 w3 k3 : Int) (z : Nat) : SP 75 [ar o xs, ar o2 ys, ar o3 zs] [bas w h 0, bas w2 k2 1, bas w3 k3 2, f32 z] [ar o xs, ar o2 ys, ar o3 zs, ar true (gR (okcarry w h xs w2 k2 ys w3 k3 zs z) (Rcr w h xs ys zs z))] (toldB (okcarry w h xs w2 k2 ys w3 k3 zs z) w h 3) := by
  refine spec_of_codeR (fn := Try.f75) tyOK mixes Try.func75 rfl rfl rfl ⟨.inl rfl, ⟨.inl rfl, ⟨.inl rfl, rfl⟩⟩⟩ fun hg R0 hR => ?_
  refine c_seq fun NN1 nn1 => ?_
  refine c_region fun KK2 kk2 => ?_
  refine n_of (N' := KK2) kk2 ?_
  refine n_of (N' := NN1) nn1 ?_
  refine c_seq fun NN3 nn3 => ?_
  refine c_seq fun NN4 nn4 => ?_
  refine c_region fun KK5 kk5 => ?_
  refine ⟨rfl, _, _, s115c _ _ _ _ _ _ _ _ _ _ _ _, ?_⟩
  refine And.intro (fun h0 => ?_) (fun h0 => ?_)
  · skip
    refine n_of (N' := KK5) kk5 ?_
    refine n_of (N' := NN4) nn4 ?_
    refine c_cond rfl (fun _ => ?_) (fun h => nomatch h)
    refine c_seq fun NN6 nn6 => ?_
    refine c_region fun KK7 kk7 => ?_
    refine n_of (N' := KK7) kk7 ?_
    refine n_of (N' := NN6) nn6 ?_
    refine c_ret ?_
    refine n_of (N' := R0) hR ?_
    have ok : okcarry w h xs w2 k2 ys w3 k3 zs z = false := by
      have q : (two w h xs w2 k2 ys && (two w h xs w3 k3 zs && finB z)) = false := by rw [← al3_two, not_t h0, Bool.false_and]
      unfold okcarry; rw [q]; rfl
    exact ⟨[.nil 32 (.f [])], rfl, rfl, by rw [ok]; rfl, by rw [ok]; rfl⟩
  · skip
    refine ⟨rfl, _, _, (s111 _), ?_⟩
    refine n_of (N' := KK5) kk5 ?_
    refine n_of (N' := NN4) nn4 ?_
    refine c_cond rfl (fun h1 => ?_) (fun h1 => ?_)
    · skip
      refine c_seq fun NN8 nn8 => ?_
      refine c_region fun KK9 kk9 => ?_
      refine n_of (N' := KK9) kk9 ?_
      refine n_of (N' := NN8) nn8 ?_
      refine c_ret ?_
      refine n_of (N' := R0) hR ?_
      have ok : okcarry w h xs w2 k2 ys w3 k3 zs z = false := by
        have q : (two w h xs w2 k2 ys && (two w h xs w3 k3 zs && finB z)) = false := by rw [← al3_two, not_t h1, Bool.and_false]
        unfold okcarry; rw [q]; rfl
      exact ⟨[.nil 32 (.f [])], rfl, rfl, by rw [ok]; rfl, by rw [ok]; rfl⟩
    · skip
      have t0 := not_f h0
      have t1 := not_f h1
      have e3 := al3_two w h xs w2 k2 ys w3 k3 zs z
      have e4 : (two w h xs w2 k2 ys && (two w h xs w3 k3 zs && finB z)) = true := by rw [← al3_two, t0, t1]; rfl
      have e5 := e4
      simp only [Bool.and_eq_true] at e5
      obtain ⟨hb, rfl, rfl, hb2⟩ := two_of e5.1
      obtain ⟨_, e6, e7, hb3⟩ := two_of e5.2.1
      subst e6; subst e7
      refine c_skip ?_
      refine n_of (N' := NN3) nn3 ?_
      refine c_seq fun NN10 nn10 => ?_
      refine c_region fun KK11 kk11 => ?_
      refine n_of (N' := KK11) kk11 ?_
      refine n_of (N' := NN10) nn10 ?_
      refine c_seq fun NN12 nn12 => ?_
      refine c_region fun KK13 kk13 => ?_
      refine ⟨rfl, _, _, s101cr _ _ _ _ _ _ _ _ _ hb hb2 hb3, ?_⟩
      refine n_of (N' := KK13) kk13 ?_
      refine n_of (N' := NN12) nn12 ?_
      refine c_seq fun NN14 nn14 => ?_
      refine c_seq fun NN15 nn15 => ?_
      refine c_region fun KK16 kk16 => ?_
      refine And.intro (fun h2 => ?_) (fun h2 => ?_)
      · skip
        refine n_of (N' := KK16) kk16 ?_
        refine n_of (N' := NN15) nn15 ?_
        refine c_cond rfl (fun _ => ?_) (fun h => nomatch h)
        refine c_seq fun NN17 nn17 => ?_
        refine c_region fun KK18 kk18 => ?_
        refine n_of (N' := KK18) kk18 ?_
        refine n_of (N' := NN17) nn17 ?_
        refine c_ret ?_
        refine n_of (N' := R0) hR ?_
        obtain ⟨W, H, rfl, rfl, _⟩ := isB_nat hb
        have q : isB W H (grid W H (fun x y => Gcr xs ys zs z W H x y)) = false := not_t h2
        have ok : okcarry W H xs W H ys W H zs z = false := by
          unfold okcarry okcr
          cases ha : allcr ys zs z W H
          · simp
          · rw [← Gcr_grid ha, q]; simp
        exact ⟨[.nil 32 (.f [])], rfl, rfl, by rw [ok]; rfl, by rw [ok]; rfl⟩
      · skip
        have g1 := not_f h2
        refine n_of (N' := KK16) kk16 ?_
        refine n_of (N' := NN15) nn15 ?_
        refine c_cond rfl (fun h3 => ?_) (fun h3 => ?_)
        · skip
          refine c_seq fun NN19 nn19 => ?_
          refine c_region fun KK20 kk20 => ?_
          refine n_of (N' := KK20) kk20 ?_
          refine n_of (N' := NN19) nn19 ?_
          refine c_ret ?_
          refine n_of (N' := R0) hR ?_
          obtain ⟨W, H, rfl, rfl, _⟩ := isB_nat hb
          have ok : okcarry W H xs W H ys W H zs z = false := by unfold okcarry okcr; rw [not_t h3]; simp
          exact ⟨[.nil 32 (.f [])], rfl, rfl, by rw [ok]; rfl, by rw [ok]; rfl⟩
        · skip
          refine c_skip ?_
          refine n_of (N' := NN14) nn14 ?_
          refine c_seq fun NN21 nn21 => ?_
          refine c_region fun KK22 kk22 => ?_
          refine n_of (N' := KK22) kk22 ?_
          refine n_of (N' := NN21) nn21 ?_
          refine c_ret ?_
          refine n_of (N' := R0) hR ?_
          obtain ⟨W, H, rfl, rfl, _⟩ := isB_nat hb
          have ha := not_f h3
          have ok : okcarry W H xs W H ys W H zs z = isB W H (grid W H (fun x y => Gcr xs ys zs z W H x y)) := by unfold okcarry okcr; rw [e4, ha, ← Gcr_grid ha]; rfl
          exact ⟨[], rfl, by rw [ok, ← Gcr_grid ha], by rw [ok, g1]⟩

theorem s23 (o o2 o3 : Bool) (xs ys zs : List Nat) (w h w2 k2 w3 k3 : Int) (z : Nat) : SP 23 [ar o xs, ar o2 ys, ar o3 zs] [bas w h 0, bas w2 k2 1, bas w3 k3 2, f32 z] [ar o xs, ar o2 ys, ar o3 zs] (exb true) := by
  refine spec_of_codeR (fn := Try.f23) tyOK mixes Try.func23 rfl rfl rfl ⟨.inl rfl, ⟨.inl rfl, ⟨.inl rfl, rfl⟩⟩⟩ fun hg R0 hR => ?_
  have hR1 : (gR (okcarry w h xs w2 k2 ys w3 k3 zs z) (Rcr w h xs ys zs z)).length ≤ 256 := gR_len fun hb => isB_len256 (w := w) (h := h) (by unfold okcarry okcr at hb; simp only [Bool.and_eq_true] at hb; exact hb.2.2)
  refine c_seq fun NN1 nn1 => ?_
  refine c_region fun KK2 kk2 => ?_
  refine n_of (N' := KK2) kk2 ?_
  refine n_of (N' := NN1) nn1 ?_
  refine c_seq fun NN3 nn3 => ?_
  refine c_region fun KK4 kk4 => ?_
  refine n_of (N' := KK4) kk4 ?_
  refine n_of (N' := NN3) nn3 ?_
  refine c_seq fun NN5 nn5 => ?_
  refine c_region fun KK6 kk6 => ?_
  refine ⟨rfl, _, _, (s25 _ _ _ _ _), ?_⟩
  refine n_of (N' := KK6) kk6 ?_
  refine n_of (N' := NN5) nn5 ?_
  refine c_seq fun NN7 nn7 => ?_
  refine c_seq fun NN8 nn8 => ?_
  refine c_region fun KK9 kk9 => ?_
  refine n_of (N' := KK9) kk9 ?_
  refine n_of (N' := NN8) nn8 ?_
  refine c_cond rfl (fun h0 => ?_) (fun h0 => ?_)
  · skip
    have q0 := of_decide_eq_true h0
    (try dsimp only at q0)
    (try simp only [Dat.len] at q0)
    refine c_seq fun NN10 nn10 => ?_
    refine c_region fun KK11 kk11 => ?_
    refine n_of (N' := KK11) kk11 ?_
    refine n_of (N' := NN10) nn10 ?_
    refine c_ret ?_
    refine n_of (N' := R0) hR ?_
    exact ⟨[], rfl, rfl, rfl⟩
  · skip
    have q0 := of_decide_eq_false h0
    (try dsimp only at q0)
    (try simp only [Dat.len] at q0)
    have hn : xs.length ≤ 1048576 := sz_le h0 hg.1.1.1
    refine c_skip ?_
    refine n_of (N' := NN7) nn7 ?_
    refine c_seq fun NN12 nn12 => ?_
    refine c_region fun KK13 kk13 => ?_
    refine ⟨rfl, _, _, (s25 _ _ _ _ _), ?_⟩
    refine n_of (N' := KK13) kk13 ?_
    refine n_of (N' := NN12) nn12 ?_
    refine c_seq fun NN14 nn14 => ?_
    refine c_seq fun NN15 nn15 => ?_
    refine c_region fun KK16 kk16 => ?_
    refine n_of (N' := KK16) kk16 ?_
    refine n_of (N' := NN15) nn15 ?_
    refine c_cond rfl (fun h1 => ?_) (fun h1 => ?_)
    · skip
      have q1 := of_decide_eq_true h1
      (try dsimp only at q1)
      (try simp only [Dat.len] at q1)
      refine c_seq fun NN17 nn17 => ?_
      refine c_region fun KK18 kk18 => ?_
      refine n_of (N' := KK18) kk18 ?_
      refine n_of (N' := NN17) nn17 ?_
      refine c_ret ?_
      refine n_of (N' := R0) hR ?_
      exact ⟨[], rfl, rfl, rfl⟩
    · skip
      have q1 := of_decide_eq_false h1
      (try dsimp only at q1)
      (try simp only [Dat.len] at q1)
      have hn2 : ys.length ≤ 1048576 := sz_le2 h0 h1 hg.1.1.1 hg.1.2.1.1
      have z1 := sz_is h0 hg.1.1.1
      have z2 := sz_leN (m := sz 1048576 xs.length) h1 (by omega) (by omega) hg.1.2.1.1
      refine c_skip ?_
      refine n_of (N' := NN14) nn14 ?_
      refine c_seq fun NN19 nn19 => ?_
      refine c_region fun KK20 kk20 => ?_
      refine ⟨rfl, _, _, (s25 _ _ _ _ _), ?_⟩
      refine n_of (N' := KK20) kk20 ?_
      refine n_of (N' := NN19) nn19 ?_
      refine c_seq fun NN21 nn21 => ?_
      refine c_seq fun NN22 nn22 => ?_
      refine c_region fun KK23 kk23 => ?_
      refine n_of (N' := KK23) kk23 ?_
      refine n_of (N' := NN22) nn22 ?_
      refine c_cond rfl (fun h2 => ?_) (fun h2 => ?_)
      · skip
        have q2 := of_decide_eq_true h2
        (try dsimp only at q2)
        (try simp only [Dat.len] at q2)
        refine c_seq fun NN24 nn24 => ?_
        refine c_region fun KK25 kk25 => ?_
        refine n_of (N' := KK25) kk25 ?_
        refine n_of (N' := NN24) nn24 ?_
        refine c_ret ?_
        refine n_of (N' := R0) hR ?_
        exact ⟨[], rfl, rfl, rfl⟩
      · skip
        have q2 := of_decide_eq_false h2
        (try dsimp only at q2)
        (try simp only [Dat.len] at q2)
        have z3 := sz_leN (m := sz (sz 1048576 xs.length) ys.length) h2 (by omega) (by omega) hg.1.2.2.1.1
        have hn3 : zs.length ≤ 1048576 := by omega
        refine c_skip ?_
        refine n_of (N' := NN21) nn21 ?_
        refine c_seq fun NN26 nn26 => ?_
        refine c_draw3 13 11 10 12 46 [0, 2, 4, 6, 1, 3, 5, 7, 8, 9, 10] (by kernel_rfl) fun KK27 kk27 => ?_
        refine ⟨rfl, _, _, (s27 _ _ (by ((try dsimp only); first | assumption | omega | (simp (disch := omega) only [wr64]; omega))) _ _), rfl, ?_⟩
        refine ⟨rfl, _, _, (s27 _ _ (by ((try dsimp only); first | assumption | omega | (simp (disch := omega) only [wr64]; omega))) _ _), rfl, ?_⟩
        refine ⟨rfl, _, _, (s27 _ _ (by ((try dsimp only); first | assumption | omega | (simp (disch := omega) only [wr64]; omega))) _ _), rfl, ?_⟩
        refine ⟨rfl, _, _, (s74 _ _ _ _ _ _ _ _ _ _ _ _ _), rfl, ?_⟩
        refine n_of (N' := KK27) kk27 ?_
        refine n_of (N' := NN26) nn26 ?_
        refine c_seq fun NN28 nn28 => ?_
        refine c_region fun KK29 kk29 => ?_
        refine ⟨rfl, _, _, (s27 _ _ (by ((try dsimp only); first | assumption | omega | (simp (disch := omega) only [wr64]; omega))) _ _), ?_⟩
        refine n_of (N' := KK29) kk29 ?_
        refine n_of (N' := NN28) nn28 ?_
        refine c_seq fun NN30 nn30 => ?_
        refine c_region fun KK31 kk31 => ?_
        refine ⟨rfl, _, _, (s27 _ _ (by ((try dsimp only); first | assumption | omega | (simp (disch := omega) only [wr64]; omega))) _ _), ?_⟩
        refine n_of (N' := KK31) kk31 ?_
        refine n_of (N' := NN30) nn30 ?_
        refine c_seq fun NN32 nn32 => ?_
        refine c_region fun KK33 kk33 => ?_
        refine ⟨rfl, _, _, (s27 _ _ (by ((try dsimp only); first | assumption | omega | (simp (disch := omega) only [wr64]; omega))) _ _), ?_⟩
        refine n_of (N' := KK33) kk33 ?_
        refine n_of (N' := NN32) nn32 ?_
        refine c_seq fun NN34 nn34 => ?_
        refine c_region fun KK35 kk35 => ?_
        refine ⟨rfl, _, _, (s75 _ _ _ _ _ _ _ _ _ _ _ _ _), ?_⟩
        refine n_of (N' := KK35) kk35 ?_
        refine n_of (N' := NN34) nn34 ?_
        refine c_seq fun NN36 nn36 => ?_
        refine c_seq fun NN37 nn37 => ?_
        refine c_region fun KK38 kk38 => ?_
        refine ⟨rfl, _, _, (s29 _ _ _ _ _), ?_⟩
        refine And.intro (fun h3 => ?_) (fun h3 => ?_)
        · skip
          (first | (cases h3; done) | exact bnn h3 | (have q := of_decide_eq_true h3; exfalso; omega) | exact absurd rfl (ne_of_bneT h3))
        · skip
          refine n_of (N' := KK38) kk38 ?_
          refine n_of (N' := NN37) nn37 ?_
          refine c_cond rfl (fun h4 => ?_) (fun h4 => ?_)
          · skip
            (first | (cases h4; done) | exact bnn h4 | (have q := of_decide_eq_true h4; exfalso; omega) | exact absurd rfl (ne_of_bneT h4))
          · skip
            refine c_skip ?_
            refine n_of (N' := NN36) nn36 ?_
            refine c_seq fun NN39 nn39 => ?_
            refine c_seq fun NN40 nn40 => ?_
            refine c_draw 3 [0, 1, 2] (by kernel_rfl) fun KK41 kk41 => ?_
            refine ⟨rfl, _, _, (s27 _ _ (by ((try dsimp only); first | assumption | omega | (simp (disch := omega) only [wr64]; omega))) _ _), rfl, ?_⟩
            refine ⟨rfl, _, _, (s29 _ _ _ _ _), ?_⟩
            refine n_of (N' := KK41) kk41 ?_
            refine n_of (N' := NN40) nn40 ?_
            refine c_cond rfl (fun h5 => ?_) (fun h5 => ?_)
            · skip
              (first | (cases h5; done) | exact bnn h5 | (have q := of_decide_eq_true h5; exfalso; omega) | exact absurd rfl (ne_of_bneT h5))
            · skip
              refine c_skip ?_
              refine n_of (N' := NN39) nn39 ?_
              refine c_seq fun NN42 nn42 => ?_
              refine c_seq fun NN43 nn43 => ?_
              refine c_draw 3 [0, 1, 2] (by kernel_rfl) fun KK44 kk44 => ?_
              refine ⟨rfl, _, _, (s27 _ _ (by ((try dsimp only); first | assumption | omega | (simp (disch := omega) only [wr64]; omega))) _ _), rfl, ?_⟩
              refine ⟨rfl, _, _, (s29 _ _ _ _ _), ?_⟩
              refine n_of (N' := KK44) kk44 ?_
              refine n_of (N' := NN43) nn43 ?_
              refine c_cond rfl (fun h6 => ?_) (fun h6 => ?_)
              · skip
                (first | (cases h6; done) | exact bnn h6 | (have q := of_decide_eq_true h6; exfalso; omega) | exact absurd rfl (ne_of_bneT h6))
              · skip
                refine c_skip ?_
                refine n_of (N' := NN42) nn42 ?_
                refine c_seq fun NN45 nn45 => ?_
                refine c_seq fun NN46 nn46 => ?_
                refine c_draw 3 [0, 1, 2] (by kernel_rfl) fun KK47 kk47 => ?_
                refine ⟨rfl, _, _, (s27 _ _ (by ((try dsimp only); first | assumption | omega | (simp (disch := omega) only [wr64]; omega))) _ _), rfl, ?_⟩
                refine ⟨rfl, _, _, (s29 _ _ _ _ _), ?_⟩
                refine n_of (N' := KK47) kk47 ?_
                refine n_of (N' := NN46) nn46 ?_
                refine c_cond rfl (fun h7 => ?_) (fun h7 => ?_)
                · skip
                  (first | (cases h7; done) | exact bnn h7 | (have q := of_decide_eq_true h7; exfalso; omega) | exact absurd rfl (ne_of_bneT h7))
                · skip
                  refine c_skip ?_
                  refine n_of (N' := NN45) nn45 ?_
                  refine c_seq fun NN48 nn48 => ?_
                  refine c_region fun KK49 kk49 => ?_
                  refine n_of (N' := KK49) kk49 ?_
                  refine n_of (N' := NN48) nn48 ?_
                  refine c_seq fun NN50 nn50 => ?_
                  refine c_region fun KK51 kk51 => ?_
                  refine ⟨rfl, _, _, (s41 _ _ _ _ (by ((try dsimp only); first | assumption | omega | (simp (disch := omega) only [wr64]; omega))) (by ((try dsimp only); first | assumption | omega | (simp (disch := omega) only [wr64]; omega))) (by ((try dsimp only); first | assumption | omega | (simp (disch := omega) only [wr64]; omega)))), ?_⟩
                  refine n_of (N' := KK51) kk51 ?_
                  refine n_of (N' := NN50) nn50 ?_
                  refine c_seq fun NN52 nn52 => ?_
                  refine c_region fun KK53 kk53 => ?_
                  refine ⟨rfl, _, _, (s41 _ _ _ _ (by ((try dsimp only); first | assumption | omega | (simp (disch := omega) only [wr64]; omega))) (by ((try dsimp only); first | assumption | omega | (simp (disch := omega) only [wr64]; omega))) (by ((try dsimp only); first | assumption | omega | (simp (disch := omega) only [wr64]; omega)))), ?_⟩
                  refine n_of (N' := KK53) kk53 ?_
                  refine n_of (N' := NN52) nn52 ?_
                  refine c_seq fun NN54 nn54 => ?_
                  refine c_region fun KK55 kk55 => ?_
                  refine ⟨rfl, _, _, (s41 _ _ _ _ (by ((try dsimp only); first | assumption | omega | (simp (disch := omega) only [wr64]; omega))) (by ((try dsimp only); first | assumption | omega | (simp (disch := omega) only [wr64]; omega))) (by ((try dsimp only); first | assumption | omega | (simp (disch := omega) only [wr64]; omega)))), ?_⟩
                  refine n_of (N' := KK55) kk55 ?_
                  refine n_of (N' := NN54) nn54 ?_
                  refine c_seq fun NN56 nn56 => ?_
                  refine c_seq fun NN57 nn57 => ?_
                  refine c_region fun KK58 kk58 => ?_
                  refine And.intro (fun h8 => ?_) (fun h8 => ?_)
                  · skip
                    (first | (cases h8; done) | exact bnn h8 | (have q := of_decide_eq_true h8; exfalso; omega) | exact absurd rfl (ne_of_bneT h8))
                  · skip
                    have q8 := of_decide_eq_false h8
                    (try dsimp only at q8)
                    (try simp only [Dat.len] at q8)
                    refine ⟨rfl, _, _, (s29 _ _ _ _ _), ?_⟩
                    refine And.intro (fun h9 => ?_) (fun h9 => ?_)
                    · skip
                      (first | (cases h9; done) | exact bnn h9 | (have q := of_decide_eq_true h9; exfalso; omega) | exact absurd rfl (ne_of_bneT h9))
                    · skip
                      refine n_of (N' := KK58) kk58 ?_
                      refine n_of (N' := NN57) nn57 ?_
                      refine c_cond rfl (fun h10 => ?_) (fun h10 => ?_)
                      · skip
                        (first | (cases h10; done) | exact bnn h10 | (have q := of_decide_eq_true h10; exfalso; omega) | exact absurd rfl (ne_of_bneT h10))
                      · skip
                        refine c_skip ?_
                        refine n_of (N' := NN56) nn56 ?_
                        refine c_seq fun NN59 nn59 => ?_
                        refine c_region fun KK60 kk60 => ?_
                        refine n_of (N' := KK60) kk60 ?_
                        refine n_of (N' := NN59) nn59 ?_
                        refine c_seq fun NN61 nn61 => ?_
                        refine c_region fun KK62 kk62 => ?_
                        refine ⟨rfl, _, _, (s41 _ _ _ _ (by ((try dsimp only); first | assumption | omega | (simp (disch := omega) only [wr64]; omega))) (by ((try dsimp only); first | assumption | omega | (simp (disch := omega) only [wr64]; omega))) (by ((try dsimp only); first | assumption | omega | (simp (disch := omega) only [wr64]; omega)))), ?_⟩
                        refine n_of (N' := KK62) kk62 ?_
                        refine n_of (N' := NN61) nn61 ?_
                        refine c_seq fun NN63 nn63 => ?_
                        refine c_region fun KK64 kk64 => ?_
                        refine n_of (N' := KK64) kk64 ?_
                        refine n_of (N' := NN63) nn63 ?_
                        refine c_seq fun NN65 nn65 => ?_
                        refine c_region fun KK66 kk66 => ?_
                        refine ⟨rfl, _, _, (s42 _ _ _ _ _ (by ((try dsimp only); first | assumption | omega | (simp (disch := omega) only [wr64]; omega))) (by ((try dsimp only); first | assumption | omega | (simp (disch := omega) only [wr64]; omega))) (by ((try dsimp only); first | assumption | omega | (simp (disch := omega) only [wr64]; omega)))), ?_⟩
                        refine n_of (N' := KK66) kk66 ?_
                        refine n_of (N' := NN65) nn65 ?_
                        refine c_seq fun NN67 nn67 => ?_
                        refine c_seq fun NN68 nn68 => ?_
                        refine c_region fun KK69 kk69 => ?_
                        refine n_of (N' := KK69) kk69 ?_
                        refine n_of (N' := NN68) nn68 ?_
                        refine c_cond rfl (fun h11 => ?_) (fun h11 => ?_)
                        · skip
                          (first | (cases h11; done) | exact bnn h11 | (have q := of_decide_eq_true h11; exfalso; omega) | exact absurd rfl (ne_of_bneT h11))
                        · skip
                          have q11 := of_decide_eq_false h11
                          (try dsimp only at q11)
                          (try simp only [Dat.len] at q11)
                          refine c_skip ?_
                          refine n_of (N' := NN67) nn67 ?_
                          refine c_seq fun NN70 nn70 => ?_
                          refine c_seq fun NN71 nn71 => ?_
                          refine c_region fun KK72 kk72 => ?_
                          refine n_of (N' := KK72) kk72 ?_
                          refine n_of (N' := NN71) nn71 ?_
                          refine c_cond rfl (fun h12 => ?_) (fun h12 => ?_)
                          · skip
                            (first | (cases h12; done) | exact bnn h12 | (have q := of_decide_eq_true h12; exfalso; omega) | exact absurd rfl (ne_of_bneT h12))
                          · skip
                            have q12 := eq_of_bneF h12
                            (try dsimp only at q12)
                            (try simp only [Dat.len] at q12)
                            refine c_skip ?_
                            refine n_of (N' := NN70) nn70 ?_
                            refine c_seq fun NN73 nn73 => ?_
                            refine c_draw3 13 11 20 12 128 [0, 2, 4, 6, 1, 3, 5, 7, 8, 9, 10] (by kernel_rfl) fun KK74 kk74 => ?_
                            refine ⟨rfl, _, _, (s27 _ _ (by ((try dsimp only); first | assumption | omega | (simp (disch := omega) only [wr64]; omega))) _ _), rfl, ?_⟩
                            refine ⟨rfl, _, _, (s27 _ _ (by ((try dsimp only); first | assumption | omega | (simp (disch := omega) only [wr64]; omega))) _ _), rfl, ?_⟩
                            refine ⟨rfl, _, _, (s27 _ _ (by ((try dsimp only); first | assumption | omega | (simp (disch := omega) only [wr64]; omega))) _ _), rfl, ?_⟩
                            refine ⟨rfl, _, _, (s75 _ _ _ _ _ _ _ _ _ _ _ _ _), rfl, ?_⟩
                            refine n_of (N' := KK74) kk74 ?_
                            refine n_of (N' := NN73) nn73 ?_
                            refine c_seq fun NN75 nn75 => ?_
                            refine c_seq fun NN76 nn76 => ?_
                            refine c_region fun KK77 kk77 => ?_
                            refine ⟨rfl, _, _, (s29 _ _ _ _ _), ?_⟩
                            refine And.intro (fun h13 => ?_) (fun h13 => ?_)
                            · skip
                              (first | (cases h13; done) | exact bnn h13 | (have q := of_decide_eq_true h13; exfalso; omega) | exact absurd rfl (ne_of_bneT h13))
                            · skip
                              refine n_of (N' := KK77) kk77 ?_
                              refine n_of (N' := NN76) nn76 ?_
                              refine c_cond rfl (fun h14 => ?_) (fun h14 => ?_)
                              · skip
                                (first | (cases h14; done) | exact bnn h14 | (have q := of_decide_eq_true h14; exfalso; omega) | exact absurd rfl (ne_of_bneT h14))
                              · skip
                                refine c_skip ?_
                                refine n_of (N' := NN75) nn75 ?_
                                refine c_seq fun NN78 nn78 => ?_
                                refine c_region fun KK79 kk79 => ?_
                                refine n_of (N' := KK79) kk79 ?_
                                refine n_of (N' := NN78) nn78 ?_
                                refine c_seq fun NN80 nn80 => ?_
                                refine c_region fun KK81 kk81 => ?_
                                refine ⟨rfl, _, _, (s42 _ _ _ _ _ (by ((try dsimp only); first | assumption | omega | (simp (disch := omega) only [wr64]; omega))) (by ((try dsimp only); first | assumption | omega | (simp (disch := omega) only [wr64]; omega))) (by ((try dsimp only); first | assumption | omega | (simp (disch := omega) only [wr64]; omega)))), ?_⟩
                                refine n_of (N' := KK81) kk81 ?_
                                refine n_of (N' := NN80) nn80 ?_
                                refine c_seq fun NN82 nn82 => ?_
                                refine c_seq fun NN83 nn83 => ?_
                                refine c_region fun KK84 kk84 => ?_
                                refine n_of (N' := KK84) kk84 ?_
                                refine n_of (N' := NN83) nn83 ?_
                                refine c_cond rfl (fun h15 => ?_) (fun h15 => ?_)
                                · skip
                                  (first | (cases h15; done) | exact bnn h15 | (have q := of_decide_eq_true h15; exfalso; omega) | exact absurd rfl (ne_of_bneT h15))
                                · skip
                                  have q15 := of_decide_eq_false h15
                                  (try dsimp only at q15)
                                  (try simp only [Dat.len] at q15)
                                  refine c_skip ?_
                                  refine n_of (N' := NN82) nn82 ?_
                                  refine c_seq fun NN85 nn85 => ?_
                                  refine c_seq fun NN86 nn86 => ?_
                                  refine c_region fun KK87 kk87 => ?_
                                  refine n_of (N' := KK87) kk87 ?_
                                  refine n_of (N' := NN86) nn86 ?_
                                  refine c_cond rfl (fun h16 => ?_) (fun h16 => ?_)
                                  · skip
                                    (first | (cases h16; done) | exact bnn h16 | (have q := of_decide_eq_true h16; exfalso; omega) | exact absurd rfl (ne_of_bneT h16))
                                  · skip
                                    have q16 := eq_of_bneF h16
                                    (try dsimp only at q16)
                                    (try simp only [Dat.len] at q16)
                                    refine c_skip ?_
                                    refine n_of (N' := NN85) nn85 ?_
                                    refine c_seq fun NN88 nn88 => ?_
                                    refine c_region fun KK89 kk89 => ?_
                                    refine n_of (N' := KK89) kk89 ?_
                                    refine n_of (N' := NN88) nn88 ?_
                                    refine c_ret ?_
                                    refine n_of (N' := R0) hR ?_
                                    exact ⟨[], rfl, rfl, rfl⟩

end
end Go.AX