/- What the functions of this program do, one contract a function, by that walk: each under what its own statement says. -/
import Derived.Test.YtojajegjmjmekaaB11
set_option linter.unusedVariables false
set_option linter.unusedSimpArgs false
namespace Go.AX
noncomputable section
open Go.RowKit Go.Proofs
set_option maxRecDepth 100000
set_option maxHeartbeats 4000000

theorem grid_le {w h : Int} {xs : List Nat} {φ : Int → Int → Nat} (hb : isB w h xs = true) : (grid w h φ).length ≤ 256 := by
  obtain ⟨W, H, rfl, rfl, _, _, _, _, _, h⟩ := isB_nat hb
  rw [grid_len]; exact h
theorem okmir (w h : Int) (xs : List Nat) : (isB w h xs && isB w h (grid w h (fun x y => Fmir xs w h x y))) = isB w h xs := by
  cases hb : isB w h xs
  · rfl
  · obtain ⟨W, H, rfl, rfl, w1, w2, w3, w4, hl, _⟩ := isB_nat hb
    rw [Bool.true_and]
    exact grid_is w1 w2 w3 w4 fun x y => by unfold Fmir; rw [finB_neg]; exact atV_num _ _ (by omega) (by omega) hl (isB_fin hb)
theorem okrollE (w h a b : Int) (xs : List Nat) : (isB w h xs && isB w h (grid w h (fun x y => Froll xs a b w h x y))) = isB w h xs := by
  cases hb : isB w h xs
  · rfl
  · obtain ⟨W, H, rfl, rfl, w1, w2, w3, w4, hl, _⟩ := isB_nat hb
    rw [Bool.true_and]
    exact grid_is w1 w2 w3 w4 fun x y => atV_num _ _ (by omega) (by omega) hl (isB_fin hb)
def in16 (a b : Int) : Bool := inB a (-16) 16 && inB b (-16) 16
def okroll (w h a b : Int) (xs : List Nat) : Bool := isB w h xs && in16 a b
def Rscale (xs : List Nat) (z : Nat) : List Nat := bld (fun i => fop .mul .f32 (xs.getD i 0) z) xs.length
def Radd (xs ys : List Nat) : List Nat := bld (fun i => fop .add .f32 (xs.getD i 0) (ys.getD i 0)) xs.length
def okscale (w h : Int) (xs : List Nat) (z : Nat) : Bool := finB z && (isB w h xs && isB w h (Rscale xs z))
def two (w h : Int) (xs : List Nat) (w2 k2 : Int) (ys : List Nat) : Bool := isB w h xs && (isB w2 k2 ys && ((w == w2) && (h == k2)))
def okadd (w h : Int) (xs : List Nat) (w2 k2 : Int) (ys : List Nat) : Bool := two w h xs w2 k2 ys && isB w h (Radd xs ys)
def oklap (w h : Int) (xs : List Nat) : Bool := isB w h xs && isB w h (grid w h (fun x y => Flap xs w h x y))
theorem grid_scale {W H : Nat} {xs : List Nat} (z : Nat) (w1 : 3 ≤ W) (hl : xs.length = W * H) : grid W H (fun x y => Fscale xs z W H x y) = Rscale xs z := by
  unfold Rscale; rw [hl, grid_own (xs := xs) (fun _ v => fop .mul .f32 v z) w1 _ fun i _ => rfl]
theorem grid_add {W H : Nat} {xs ys : List Nat} (w1 : 3 ≤ W) (hl : xs.length = W * H) : grid W H (fun x y => Fadd xs ys W H x y) = Radd xs ys := by
  unfold Radd
  rw [hl, gridN]
  exact bld_congr fun i hi => by unfold Fadd; rw [atV_in (by omega) hi, atV_in (by omega) hi]
theorem two_of {w h : Int} {xs : List Nat} {w2 k2 : Int} {ys : List Nat} (hb : two w h xs w2 k2 ys = true) : isB w h xs = true ∧ w2 = w ∧ k2 = h ∧ isB w h ys = true := by
  unfold two at hb
  simp only [Bool.and_eq_true, beq_iff_eq] at hb
  obtain ⟨h1, h2, rfl, rfl⟩ := hb
  exact ⟨h1, rfl, rfl, h2⟩

theorem s101mir (o : Bool) (xs : List Nat) (w h : Int) : SP 101 [ar o xs, basV w h 0] [bas w h 0, .one (.fn 102 [] [1])] [ar o xs, basV w h 0, ar true (gR (isB w h xs && isB w h (grid w h (fun x y => Fmir xs w h x y))) (grid w h (fun x y => Fmir xs w h x y)))] (toldB (isB w h xs && isB w h (grid w h (fun x y => Fmir xs w h x y))) w h 2) := by
  refine spec_of_codeR (fn := Try.f101) tyOK mixes Try.func101 rfl rfl rfl ⟨.inl rfl, ⟨.inl rfl, rfl⟩⟩ fun hg R0 hR => ?_
  refine c_seq fun NN1 nn1 => ?_
  refine c_region fun KK2 kk2 => ?_
  refine n_of (N' := KK2) kk2 ?_
  refine n_of (N' := NN1) nn1 ?_
  refine c_seq fun NN3 nn3 => ?_
  refine c_seq fun NN4 nn4 => ?_
  refine c_region fun KK5 kk5 => ?_
  refine ⟨rfl, _, _, (s28 _ _ _ _), ?_⟩
  refine n_of (N' := KK5) kk5 ?_
  refine n_of (N' := NN4) nn4 ?_
  refine c_cond rfl (fun h0 => ?_) (fun h0 => ?_)
  · skip
    refine c_seq fun NN6 nn6 => ?_
    refine c_region fun KK7 kk7 => ?_
    refine n_of (N' := KK7) kk7 ?_
    refine n_of (N' := NN6) nn6 ?_
    refine c_ret ?_
    refine n_of (N' := R0) hR ?_
    have ok : (isB w h xs && isB w h (grid w h (fun x y => Fmir xs w h x y))) = false := by rw [not_t h0]; rfl
    exact ⟨[.nil 32 (.f [])], rfl, rfl, by rw [ok]; rfl, by rw [ok]; rfl⟩
  · skip
    have hb := not_f h0
    obtain ⟨W, H, rfl, rfl, w1, w2, w3, w4, hl, hWH⟩ := isB_nat hb
    
    refine c_skip ?_
    refine n_of (N' := NN3) nn3 ?_
    refine c_seq fun NN8 nn8 => ?_
    refine c_region fun KK9 kk9 => ?_
    refine ⟨rfl, _, _, s95mir _ _ _ _ w1 w2 w3 w4 hl, ?_⟩
    refine ⟨rfl, _, _, (s94 _ _ _), ?_⟩
    refine n_of (N' := KK9) kk9 ?_
    refine n_of (N' := NN8) nn8 ?_
    refine c_ret ?_
    refine n_of (N' := R0) hR ?_
    have ok : (isB W H xs && isB W H (grid W H (fun x y => Fmir xs W H x y))) = isB W H (grid W H (fun x y => Fmir xs W H x y)) := by rw [hb]; rfl
    exact ⟨[], rfl, by rw [ok], by rw [ok]⟩

theorem s101roll (o : Bool) (xs : List Nat) (w h : Int) (a b : Int) (ha : -16 ≤ a ∧ a ≤ 16) (hc : -16 ≤ b ∧ b ≤ 16) : SP 101 [ar o xs, basV w h 0, .var 2 [.ex (.int .i64 a)], .var 2 [.ex (.int .i64 b)]] [bas w h 0, .one (.fn 106 [] [1, 2, 3])] [ar o xs, basV w h 0, .var 2 [.ex (.int .i64 a)], .var 2 [.ex (.int .i64 b)], ar true (gR (isB w h xs && isB w h (grid w h (fun x y => Froll xs a b w h x y))) (grid w h (fun x y => Froll xs a b w h x y)))] (toldB (isB w h xs && isB w h (grid w h (fun x y => Froll xs a b w h x y))) w h 4) := by
  refine spec_of_codeR (fn := Try.f101) tyOK mixes Try.func101 rfl rfl rfl ⟨.inl rfl, ⟨.inl rfl, ⟨.inl rfl, ⟨.inl rfl, rfl⟩⟩⟩⟩ fun hg R0 hR => ?_
  refine c_seq fun NN1 nn1 => ?_
  refine c_region fun KK2 kk2 => ?_
  refine n_of (N' := KK2) kk2 ?_
  refine n_of (N' := NN1) nn1 ?_
  refine c_seq fun NN3 nn3 => ?_
  refine c_seq fun NN4 nn4 => ?_
  refine c_region fun KK5 kk5 => ?_
  refine ⟨rfl, _, _, (s28 _ _ _ _), ?_⟩
  refine n_of (N' := KK5) kk5 ?_
  refine n_of (N' := NN4) nn4 ?_
  refine c_cond rfl (fun h0 => ?_) (fun h0 => ?_)
  · skip
    refine c_seq fun NN6 nn6 => ?_
    refine c_region fun KK7 kk7 => ?_
    refine n_of (N' := KK7) kk7 ?_
    refine n_of (N' := NN6) nn6 ?_
    refine c_ret ?_
    refine n_of (N' := R0) hR ?_
    have ok : (isB w h xs && isB w h (grid w h (fun x y => Froll xs a b w h x y))) = false := by rw [not_t h0]; rfl
    exact ⟨[.nil 32 (.f [])], rfl, rfl, by rw [ok]; rfl, by rw [ok]; rfl⟩
  · skip
    have hb := not_f h0
    obtain ⟨W, H, rfl, rfl, w1, w2, w3, w4, hl, hWH⟩ := isB_nat hb
    
    refine c_skip ?_
    refine n_of (N' := NN3) nn3 ?_
    refine c_seq fun NN8 nn8 => ?_
    refine c_region fun KK9 kk9 => ?_
    refine ⟨rfl, _, _, s95roll _ _ _ _ w1 w2 w3 w4 hl _ _ ha hc, ?_⟩
    refine ⟨rfl, _, _, (s94 _ _ _), ?_⟩
    refine n_of (N' := KK9) kk9 ?_
    refine n_of (N' := NN8) nn8 ?_
    refine c_ret ?_
    refine n_of (N' := R0) hR ?_
    have ok : (isB W H xs && isB W H (grid W H (fun x y => Froll xs a b W H x y))) = isB W H (grid W H (fun x y => Froll xs a b W H x y)) := by rw [hb]; rfl
    exact ⟨[], rfl, by rw [ok], by rw [ok]⟩

theorem s101scale (o : Bool) (xs : List Nat) (z : Nat) (w h : Int) : SP 101 [ar o xs, basV w h 0, .var 32 [.fl .f32 z]] [bas w h 0, .one (.fn 112 [] [1, 2])] [ar o xs, basV w h 0, .var 32 [.fl .f32 z], ar true (gR (isB w h xs && isB w h (grid w h (fun x y => Fscale xs z w h x y))) (grid w h (fun x y => Fscale xs z w h x y)))] (toldB (isB w h xs && isB w h (grid w h (fun x y => Fscale xs z w h x y))) w h 3) := by
  refine spec_of_codeR (fn := Try.f101) tyOK mixes Try.func101 rfl rfl rfl ⟨.inl rfl, ⟨.inl rfl, ⟨.inl rfl, rfl⟩⟩⟩ fun hg R0 hR => ?_
  refine c_seq fun NN1 nn1 => ?_
  refine c_region fun KK2 kk2 => ?_
  refine n_of (N' := KK2) kk2 ?_
  refine n_of (N' := NN1) nn1 ?_
  refine c_seq fun NN3 nn3 => ?_
  refine c_seq fun NN4 nn4 => ?_
  refine c_region fun KK5 kk5 => ?_
  refine ⟨rfl, _, _, (s28 _ _ _ _), ?_⟩
  refine n_of (N' := KK5) kk5 ?_
  refine n_of (N' := NN4) nn4 ?_
  refine c_cond rfl (fun h0 => ?_) (fun h0 => ?_)
  · skip
    refine c_seq fun NN6 nn6 => ?_
    refine c_region fun KK7 kk7 => ?_
    refine n_of (N' := KK7) kk7 ?_
    refine n_of (N' := NN6) nn6 ?_
    refine c_ret ?_
    refine n_of (N' := R0) hR ?_
    have ok : (isB w h xs && isB w h (grid w h (fun x y => Fscale xs z w h x y))) = false := by rw [not_t h0]; rfl
    exact ⟨[.nil 32 (.f [])], rfl, rfl, by rw [ok]; rfl, by rw [ok]; rfl⟩
  · skip
    have hb := not_f h0
    obtain ⟨W, H, rfl, rfl, w1, w2, w3, w4, hl, hWH⟩ := isB_nat hb
    
    refine c_skip ?_
    refine n_of (N' := NN3) nn3 ?_
    refine c_seq fun NN8 nn8 => ?_
    refine c_region fun KK9 kk9 => ?_
    refine ⟨rfl, _, _, s95scale _ _ _ _ w1 w2 w3 w4 hl _, ?_⟩
    refine ⟨rfl, _, _, (s94 _ _ _), ?_⟩
    refine n_of (N' := KK9) kk9 ?_
    refine n_of (N' := NN8) nn8 ?_
    refine c_ret ?_
    refine n_of (N' := R0) hR ?_
    have ok : (isB W H xs && isB W H (grid W H (fun x y => Fscale xs z W H x y))) = isB W H (grid W H (fun x y => Fscale xs z W H x y)) := by rw [hb]; rfl
    exact ⟨[], rfl, by rw [ok], by rw [ok]⟩

theorem s101add (o : Bool) (xs : List Nat) (o2 : Bool) (ys : List Nat) (w h : Int) (hy : isB w h ys = true) : SP 101 [ar o xs, basV w h 0, basV w h 3, ar o2 ys] [bas w h 0, .one (.fn 116 [] [1, 2])] [ar o xs, basV w h 0, basV w h 3, ar o2 ys, ar true (gR (isB w h xs && isB w h (grid w h (fun x y => Fadd xs ys w h x y))) (grid w h (fun x y => Fadd xs ys w h x y)))] (toldB (isB w h xs && isB w h (grid w h (fun x y => Fadd xs ys w h x y))) w h 4) := by
  refine spec_of_codeR (fn := Try.f101) tyOK mixes Try.func101 rfl rfl rfl ⟨.inl rfl, ⟨.inl rfl, ⟨.inl rfl, ⟨.inl rfl, rfl⟩⟩⟩⟩ fun hg R0 hR => ?_
  refine c_seq fun NN1 nn1 => ?_
  refine c_region fun KK2 kk2 => ?_
  refine n_of (N' := KK2) kk2 ?_
  refine n_of (N' := NN1) nn1 ?_
  refine c_seq fun NN3 nn3 => ?_
  refine c_seq fun NN4 nn4 => ?_
  refine c_region fun KK5 kk5 => ?_
  refine ⟨rfl, _, _, (s28 _ _ _ _), ?_⟩
  refine n_of (N' := KK5) kk5 ?_
  refine n_of (N' := NN4) nn4 ?_
  refine c_cond rfl (fun h0 => ?_) (fun h0 => ?_)
  · skip
    refine c_seq fun NN6 nn6 => ?_
    refine c_region fun KK7 kk7 => ?_
    refine n_of (N' := KK7) kk7 ?_
    refine n_of (N' := NN6) nn6 ?_
    refine c_ret ?_
    refine n_of (N' := R0) hR ?_
    have ok : (isB w h xs && isB w h (grid w h (fun x y => Fadd xs ys w h x y))) = false := by rw [not_t h0]; rfl
    exact ⟨[.nil 32 (.f [])], rfl, rfl, by rw [ok]; rfl, by rw [ok]; rfl⟩
  · skip
    have hb := not_f h0
    obtain ⟨W, H, rfl, rfl, w1, w2, w3, w4, hl, hWH⟩ := isB_nat hb
    obtain ⟨W2, H2, e1, e2, _, _, _, _, hl2, _⟩ := isB_nat hy
    have e1 : W = W2 := Int.ofNat.inj e1
    have e2 : H = H2 := Int.ofNat.inj e2
    rw [← e1, ← e2] at hl2
    refine c_skip ?_
    refine n_of (N' := NN3) nn3 ?_
    refine c_seq fun NN8 nn8 => ?_
    refine c_region fun KK9 kk9 => ?_
    refine ⟨rfl, _, _, s95add _ _ _ _ _ _ w1 w2 w3 w4 hl hl2, ?_⟩
    refine ⟨rfl, _, _, (s94 _ _ _), ?_⟩
    refine n_of (N' := KK9) kk9 ?_
    refine n_of (N' := NN8) nn8 ?_
    refine c_ret ?_
    refine n_of (N' := R0) hR ?_
    have ok : (isB W H xs && isB W H (grid W H (fun x y => Fadd xs ys W H x y))) = isB W H (grid W H (fun x y => Fadd xs ys W H x y)) := by rw [hb]; rfl
    exact ⟨[], rfl, by rw [ok], by rw [ok]⟩

theorem s101lap (o : Bool) (xs : List Nat) (w h : Int) : SP 101 [ar o xs, basV w h 0] [bas w h 0, .one (.fn 121 [1] [])] [ar o xs, basV w h 0, ar true (gR (isB w h xs && isB w h (grid w h (fun x y => Flap xs w h x y))) (grid w h (fun x y => Flap xs w h x y)))] (toldB (isB w h xs && isB w h (grid w h (fun x y => Flap xs w h x y))) w h 2) := by
  refine spec_of_codeR (fn := Try.f101) tyOK mixes Try.func101 rfl rfl rfl ⟨.inl rfl, ⟨.inl rfl, rfl⟩⟩ fun hg R0 hR => ?_
  refine c_seq fun NN1 nn1 => ?_
  refine c_region fun KK2 kk2 => ?_
  refine n_of (N' := KK2) kk2 ?_
  refine n_of (N' := NN1) nn1 ?_
  refine c_seq fun NN3 nn3 => ?_
  refine c_seq fun NN4 nn4 => ?_
  refine c_region fun KK5 kk5 => ?_
  refine ⟨rfl, _, _, (s28 _ _ _ _), ?_⟩
  refine n_of (N' := KK5) kk5 ?_
  refine n_of (N' := NN4) nn4 ?_
  refine c_cond rfl (fun h0 => ?_) (fun h0 => ?_)
  · skip
    refine c_seq fun NN6 nn6 => ?_
    refine c_region fun KK7 kk7 => ?_
    refine n_of (N' := KK7) kk7 ?_
    refine n_of (N' := NN6) nn6 ?_
    refine c_ret ?_
    refine n_of (N' := R0) hR ?_
    have ok : (isB w h xs && isB w h (grid w h (fun x y => Flap xs w h x y))) = false := by rw [not_t h0]; rfl
    exact ⟨[.nil 32 (.f [])], rfl, rfl, by rw [ok]; rfl, by rw [ok]; rfl⟩
  · skip
    have hb := not_f h0
    obtain ⟨W, H, rfl, rfl, w1, w2, w3, w4, hl, hWH⟩ := isB_nat hb
    
    refine c_skip ?_
    refine n_of (N' := NN3) nn3 ?_
    refine c_seq fun NN8 nn8 => ?_
    refine c_region fun KK9 kk9 => ?_
    refine ⟨rfl, _, _, s95lap _ _ _ _ w1 w2 w3 w4 hl, ?_⟩
    refine ⟨rfl, _, _, (s94 _ _ _), ?_⟩
    refine n_of (N' := KK9) kk9 ?_
    refine n_of (N' := NN8) nn8 ?_
    refine c_ret ?_
    refine n_of (N' := R0) hR ?_
    have ok : (isB W H xs && isB W H (grid W H (fun x y => Flap xs W H x y))) = isB W H (grid W H (fun x y => Flap xs W H x y)) := by rw [hb]; rfl
    exact ⟨[], rfl, by rw [ok], by rw [ok]⟩

theorem s45 (o : Bool) (xs : List Nat) (w h : Int) : SP 45 [ar o xs] [bas w h 0] [ar o xs, ar true (gR (isB w h xs) (grid w h (fun x y => Fmir xs w h x y)))] (toldB (isB w h xs) w h 1) := by
  refine spec_of_codeR (fn := Try.f45) tyOK mixes Try.func45 rfl rfl rfl ⟨.inl rfl, rfl⟩ fun hg R0 hR => ?_
  refine c_seq fun NN1 nn1 => ?_
  refine c_region fun KK2 kk2 => ?_
  refine n_of (N' := KK2) kk2 ?_
  refine n_of (N' := NN1) nn1 ?_
  refine c_seq fun NN3 nn3 => ?_
  refine c_seq fun NN4 nn4 => ?_
  refine c_region fun KK5 kk5 => ?_
  refine ⟨rfl, _, _, (s79 _ _ _ _), ?_⟩
  refine n_of (N' := KK5) kk5 ?_
  refine n_of (N' := NN4) nn4 ?_
  refine c_cond rfl (fun h0 => ?_) (fun h0 => ?_)
  · skip
    refine c_seq fun NN6 nn6 => ?_
    refine c_region fun KK7 kk7 => ?_
    refine n_of (N' := KK7) kk7 ?_
    refine n_of (N' := NN6) nn6 ?_
    refine c_ret ?_
    refine n_of (N' := R0) hR ?_
    have ok : isB w h xs = false := not_t h0
    exact ⟨[.nil 32 (.f [])], rfl, rfl, by rw [ok]; rfl, by rw [ok]; rfl⟩
  · skip
    have hb := not_f h0
    obtain ⟨W, H, rfl, rfl, w1, w2, w3, w4, hl, hWH⟩ := isB_nat hb
    have hwr := wrWH hWH
    refine c_skip ?_
    refine n_of (N' := NN3) nn3 ?_
    refine c_seq fun NN8 nn8 => ?_
    refine c_region fun KK9 kk9 => ?_
    refine ⟨rfl, _, _, (s99 _ _), ?_⟩
    refine n_of (N' := KK9) kk9 ?_
    refine n_of (N' := NN8) nn8 ?_
    refine c_seq fun NN10 nn10 => ?_
    refine c_seq fun NN11 nn11 => ?_
    refine c_region fun KK12 kk12 => ?_
    refine n_of (N' := KK12) kk12 ?_
    refine n_of (N' := NN11) nn11 ?_
    refine c_block fun XX13 xx13 => ?_
    refine loop_keep [] [1, 2, 4] (ι := { i : Nat // i ≤ W * H }) (fun i => [(5, exi .i64 i.1)]) (fun i => [(3, ar true (bld (fun t => (fun x y => Fmir xs W H x y) ((t % W : Nat) : Int) ((t / W : Nat) : Int)) i.1))]) (fun i => W * H - i.1) ⟨0, Nat.zero_le _⟩ trivial rfl ?_
    refine ⟨?_, ?_, ?_⟩
    · exact ⟨.inr rfl, trivial⟩
    · exact ⟨rfl, rfl, rfl, rfl, rfl, trivial⟩
    refine fun ⟨i, hi⟩ NL14 nl14 => ?_
    refine c_norm rfl rfl ?_
    obtain ⟨m0, m1, m2, m3⟩ := cellb i W (by omega) (by omega)
    refine c_seq fun NN15 nn15 => ?_
    refine c_seq fun NN16 nn16 => ?_
    refine c_region fun KK17 kk17 => ?_
    refine n_of (N' := KK17) kk17 ?_
    refine n_of (N' := NN16) nn16 ?_
    refine c_cond rfl (fun h1 => ?_) (fun h1 => ?_)
    · skip
      have q1 := of_decide_eq_true h1
      (try dsimp only at q1)
      (try simp only [Dat.len, hwr, bld_len, List.length_cons, List.length_nil] at q1)
      refine c_skip ?_
      refine n_of (N' := NN15) nn15 ?_
      refine c_seq fun NN18 nn18 => ?_
      refine c_block fun XX19 xx19 => ?_
      refine c_draw 17 [0, 1, 2, 3, 4, 5, 6, 7, 8, 9, 10, 11, 12, 13, 14, 15, 16] (by kernel_rfl) fun KK20 kk20 => ?_
      refine And.intro ?_ ?_
      · omega   -- 0 div
      refine And.intro ?_ ?_
      · omega   -- 1 div
      refine ⟨rfl, _, _, s100 _ _ _ _ w1 w2 w3 w4 hl _ _, rfl, ?_⟩
      refine And.intro ?_ ?_
      · (refine ⟨?_, by decide⟩; (try dsimp only); (try simp only [Dat.len, Int.toNat_natCast, hwr, bld_len, List.length_cons, List.length_nil]); omega)   -- 2 append
      refine n_of (N' := KK20) kk20 ?_
      refine n_of (N' := NN18) nn18 ?_
      refine c_region fun KK21 kk21 => ?_
      refine n_of (N' := KK21) kk21 ?_
      refine n_of (N' := NL14) nl14 ?_
      refine ⟨⟨i + 1, by omega⟩, ?_, [0, 1, 2, 3, 4], rfl, ?_, ?_⟩
      · (dsimp only; omega)
      · exact LEq.eq ⟨rfl, rfl, rfl, congrArg (fun z => ar true (bld _ i ++ [z])) (by dsimp only; unfold Fmir; simp only [tdiv_nat, tmod_nat]; simp (disch := omega) only [wr64]), rfl, trivial⟩
      · exact ⟨.inr (congrArg (exi .i64) (wr64 (n := (i : Int) + 1) (by omega) (by omega))), .inr rfl, .inr rfl, .inr rfl, trivial⟩
    · skip
      have q1 := of_decide_eq_false h1
      (try dsimp only at q1)
      (try simp only [Dat.len, hwr, bld_len, List.length_cons, List.length_nil] at q1)
      refine c_exit ?_
      refine x_here xx13 ?_
      refine n_of (N' := NN10) nn10 ?_
      refine c_seq fun NN22 nn22 => ?_
      refine c_region fun KK23 kk23 => ?_
      refine n_of (N' := KK23) kk23 ?_
      refine n_of (N' := NN22) nn22 ?_
      refine c_ret ?_
      refine n_of (N' := R0) hR ?_
      have e : i = W * H := by omega
      subst e
      exact ⟨[], rfl, by rw [hb, gridN]; rfl, by rw [hb]; rfl⟩

theorem s46 (o : Bool) (xs : List Nat) (w h : Int) : SP 46 [ar o xs] [bas w h 0] [ar o xs, ar true (gR (isB w h xs) (grid w h (fun x y => Fmir xs w h x y)))] (toldB (isB w h xs) w h 1) := by
  refine spec_of_codeR (fn := Try.f46) tyOK mixes Try.func46 rfl rfl rfl ⟨.inl rfl, rfl⟩ fun hg R0 hR => ?_
  refine c_seq fun NN1 nn1 => ?_
  refine c_region fun KK2 kk2 => ?_
  refine n_of (N' := KK2) kk2 ?_
  refine n_of (N' := NN1) nn1 ?_
  refine c_seq fun NN3 nn3 => ?_
  refine c_region fun KK4 kk4 => ?_
  refine ⟨rfl, _, _, s101mir _ _ _ _, ?_⟩
  refine n_of (N' := KK4) kk4 ?_
  refine n_of (N' := NN3) nn3 ?_
  refine c_ret ?_
  refine n_of (N' := R0) hR ?_
  exact ⟨[], rfl, by rw [okmir], by rw [okmir]⟩

theorem s47 (o : Bool) (xs : List Nat) (w h : Int) (a b : Int) : SP 47 [ar o xs] [bas w h 0, i64 a, i64 b] [ar o xs, ar true (gR (okroll w h a b xs) (grid w h (fun x y => Froll xs a b w h x y)))] (toldB (okroll w h a b xs) w h 1) := by
  refine spec_of_codeR (fn := Try.f47) tyOK mixes Try.func47 rfl rfl rfl ⟨.inl rfl, rfl⟩ fun hg R0 hR => ?_
  refine c_seq fun NN1 nn1 => ?_
  refine c_region fun KK2 kk2 => ?_
  refine n_of (N' := KK2) kk2 ?_
  refine n_of (N' := NN1) nn1 ?_
  refine c_seq fun NN3 nn3 => ?_
  refine c_seq fun NN4 nn4 => ?_
  refine c_region fun KK5 kk5 => ?_
  refine ⟨rfl, _, _, (s79 _ _ _ _), ?_⟩
  refine And.intro (fun h0 => ?_) (fun h0 => ?_)
  · skip
    refine And.intro (fun _ => ?_) (fun h => nomatch h)
    refine n_of (N' := KK5) kk5 ?_
    refine n_of (N' := NN4) nn4 ?_
    refine c_cond rfl (fun _ => ?_) (fun h => nomatch h)
    refine c_seq fun NN6 nn6 => ?_
    refine c_region fun KK7 kk7 => ?_
    refine n_of (N' := KK7) kk7 ?_
    refine n_of (N' := NN6) nn6 ?_
    refine c_ret ?_
    refine n_of (N' := R0) hR ?_
    have ok : okroll w h a b xs = false := by unfold okroll; rw [not_t h0]; simp
    exact ⟨[.nil 32 (.f [])], rfl, rfl, by rw [ok]; rfl, by rw [ok]; rfl⟩
  · skip
    have hb := not_f h0
    obtain ⟨W, H, rfl, rfl, w1, w2, w3, w4, hl, hWH⟩ := isB_nat hb
    have hwr := wrWH hWH
    refine ⟨rfl, _, _, (s104 _ _ _), ?_⟩
    refine And.intro (fun h1 => ?_) (fun h1 => ?_)
    · skip
      refine n_of (N' := KK5) kk5 ?_
      refine n_of (N' := NN4) nn4 ?_
      refine c_cond rfl (fun _ => ?_) (fun h => nomatch h)
      refine c_seq fun NN8 nn8 => ?_
      refine c_region fun KK9 kk9 => ?_
      refine n_of (N' := KK9) kk9 ?_
      refine n_of (N' := NN8) nn8 ?_
      refine c_ret ?_
      refine n_of (N' := R0) hR ?_
      have ok : okroll W H a b xs = false := by unfold okroll in16; rw [not_t h1]; simp
      exact ⟨[.nil 32 (.f [])], rfl, rfl, by rw [ok]; rfl, by rw [ok]; rfl⟩
    · skip
      have ha := inB_le (not_f h1)
      refine ⟨rfl, _, _, (s104 _ _ _), ?_⟩
      refine n_of (N' := KK5) kk5 ?_
      refine n_of (N' := NN4) nn4 ?_
      refine c_cond rfl (fun h2 => ?_) (fun h2 => ?_)
      · skip
        refine c_seq fun NN10 nn10 => ?_
        refine c_region fun KK11 kk11 => ?_
        refine n_of (N' := KK11) kk11 ?_
        refine n_of (N' := NN10) nn10 ?_
        refine c_ret ?_
        refine n_of (N' := R0) hR ?_
        have ok : okroll W H a b xs = false := by unfold okroll in16; rw [not_t h2]; simp
        exact ⟨[.nil 32 (.f [])], rfl, rfl, by rw [ok]; rfl, by rw [ok]; rfl⟩
      · skip
        have hc := inB_le (not_f h2)
        refine c_skip ?_
        refine n_of (N' := NN3) nn3 ?_
        refine c_seq fun NN12 nn12 => ?_
        refine c_region fun KK13 kk13 => ?_
        refine ⟨rfl, _, _, (s99 _ _), ?_⟩
        refine n_of (N' := KK13) kk13 ?_
        refine n_of (N' := NN12) nn12 ?_
        refine c_seq fun NN14 nn14 => ?_
        refine c_seq fun NN15 nn15 => ?_
        refine c_region fun KK16 kk16 => ?_
        refine n_of (N' := KK16) kk16 ?_
        refine n_of (N' := NN15) nn15 ?_
        refine c_block fun XX17 xx17 => ?_
        refine loop_keep [] [1, 2, 3, 6, 8] (ι := { i : Nat // i ≤ W * H }) (fun i => [(9, exi .i64 i.1)]) (fun i => [(3, ar true (bld (fun t => (fun x y => Froll xs a b W H x y) ((t % W : Nat) : Int) ((t / W : Nat) : Int)) i.1))]) (fun i => W * H - i.1) ⟨0, Nat.zero_le _⟩ trivial rfl ?_
        refine ⟨?_, ?_, ?_⟩
        · exact ⟨.inr rfl, trivial⟩
        · exact ⟨rfl, rfl, rfl, rfl, rfl, trivial⟩
        refine fun ⟨i, hi⟩ NL18 nl18 => ?_
        refine c_norm rfl rfl ?_
        obtain ⟨m0, m1, m2, m3⟩ := cellb i W (by omega) (by omega)
        refine c_seq fun NN19 nn19 => ?_
        refine c_seq fun NN20 nn20 => ?_
        refine c_region fun KK21 kk21 => ?_
        refine n_of (N' := KK21) kk21 ?_
        refine n_of (N' := NN20) nn20 ?_
        refine c_cond rfl (fun h3 => ?_) (fun h3 => ?_)
        · skip
          have q3 := of_decide_eq_true h3
          (try dsimp only at q3)
          (try simp only [Dat.len, hwr, bld_len, List.length_cons, List.length_nil] at q3)
          refine c_skip ?_
          refine n_of (N' := NN19) nn19 ?_
          refine c_seq fun NN22 nn22 => ?_
          refine c_block fun XX23 xx23 => ?_
          refine c_draw 16 [0, 1, 2, 3, 4, 5, 6, 7, 8, 9, 10, 11, 12, 13, 14, 15] (by kernel_rfl) fun KK24 kk24 => ?_
          refine And.intro ?_ ?_
          · omega   -- 0 div
          refine And.intro ?_ ?_
          · omega   -- 1 div
          refine ⟨rfl, _, _, s100 _ _ _ _ w1 w2 w3 w4 hl _ _, rfl, ?_⟩
          refine And.intro ?_ ?_
          · (refine ⟨?_, by decide⟩; (try dsimp only); (try simp only [Dat.len, Int.toNat_natCast, hwr, bld_len, List.length_cons, List.length_nil]); omega)   -- 2 append
          refine n_of (N' := KK24) kk24 ?_
          refine n_of (N' := NN22) nn22 ?_
          refine c_region fun KK25 kk25 => ?_
          refine n_of (N' := KK25) kk25 ?_
          refine n_of (N' := NL18) nl18 ?_
          refine ⟨⟨i + 1, by omega⟩, ?_, [0, 1, 2, 3, 4], rfl, ?_, ?_⟩
          · (dsimp only; omega)
          · exact LEq.eq ⟨rfl, rfl, rfl, congrArg (fun z => ar true (bld _ i ++ [z])) (by dsimp only; unfold Froll; simp only [tdiv_nat, tmod_nat]; simp (disch := omega) only [wr64]), rfl, trivial⟩
          · exact ⟨.inr (congrArg (exi .i64) (wr64 (n := (i : Int) + 1) (by omega) (by omega))), .inr rfl, .inr rfl, .inr rfl, .inr rfl, .inr rfl, trivial⟩
        · skip
          have q3 := of_decide_eq_false h3
          (try dsimp only at q3)
          (try simp only [Dat.len, hwr, bld_len, List.length_cons, List.length_nil] at q3)
          refine c_exit ?_
          refine x_here xx17 ?_
          refine n_of (N' := NN14) nn14 ?_
          refine c_seq fun NN26 nn26 => ?_
          refine c_region fun KK27 kk27 => ?_
          refine n_of (N' := KK27) kk27 ?_
          refine n_of (N' := NN26) nn26 ?_
          refine c_ret ?_
          refine n_of (N' := R0) hR ?_
          have e : i = W * H := by omega
          subst e
          have ok : okroll W H a b xs = true := by unfold okroll in16; rw [hb, not_f h1, not_f h2]; rfl
          exact ⟨[], rfl, by rw [ok, gridN]; rfl, by rw [ok]; rfl⟩

theorem s48 (o : Bool) (xs : List Nat) (w h : Int) (a b : Int) : SP 48 [ar o xs] [bas w h 0, i64 a, i64 b] [ar o xs, ar true (gR (okroll w h a b xs) (grid w h (fun x y => Froll xs a b w h x y)))] (toldB (okroll w h a b xs) w h 1) := by
  refine spec_of_codeR (fn := Try.f48) tyOK mixes Try.func48 rfl rfl rfl ⟨.inl rfl, rfl⟩ fun hg R0 hR => ?_
  refine c_seq fun NN1 nn1 => ?_
  refine c_region fun KK2 kk2 => ?_
  refine n_of (N' := KK2) kk2 ?_
  refine n_of (N' := NN1) nn1 ?_
  refine c_seq fun NN3 nn3 => ?_
  refine c_seq fun NN4 nn4 => ?_
  refine c_region fun KK5 kk5 => ?_
  refine ⟨rfl, _, _, (s105 _ _ _), ?_⟩
  refine And.intro (fun h0 => ?_) (fun h0 => ?_)
  · skip
    refine n_of (N' := KK5) kk5 ?_
    refine n_of (N' := NN4) nn4 ?_
    refine c_cond rfl (fun _ => ?_) (fun h => nomatch h)
    refine c_seq fun NN6 nn6 => ?_
    refine c_region fun KK7 kk7 => ?_
    refine n_of (N' := KK7) kk7 ?_
    refine n_of (N' := NN6) nn6 ?_
    refine c_ret ?_
    refine n_of (N' := R0) hR ?_
    have ok : okroll w h a b xs = false := by unfold okroll in16; rw [not_t h0]; simp
    exact ⟨[.nil 32 (.f [])], rfl, rfl, by rw [ok]; rfl, by rw [ok]; rfl⟩
  · skip
    have ha := inB_le (not_f h0)
    refine ⟨rfl, _, _, (s105 _ _ _), ?_⟩
    refine n_of (N' := KK5) kk5 ?_
    refine n_of (N' := NN4) nn4 ?_
    refine c_cond rfl (fun h1 => ?_) (fun h1 => ?_)
    · skip
      refine c_seq fun NN8 nn8 => ?_
      refine c_region fun KK9 kk9 => ?_
      refine n_of (N' := KK9) kk9 ?_
      refine n_of (N' := NN8) nn8 ?_
      refine c_ret ?_
      refine n_of (N' := R0) hR ?_
      have ok : okroll w h a b xs = false := by unfold okroll in16; rw [not_t h1]; simp
      exact ⟨[.nil 32 (.f [])], rfl, rfl, by rw [ok]; rfl, by rw [ok]; rfl⟩
    · skip
      have hc := inB_le (not_f h1)
      refine c_skip ?_
      refine n_of (N' := NN3) nn3 ?_
      refine c_seq fun NN10 nn10 => ?_
      refine c_region fun KK11 kk11 => ?_
      refine ⟨rfl, _, _, s101roll _ _ _ _ _ _ ha hc, ?_⟩
      refine n_of (N' := KK11) kk11 ?_
      refine n_of (N' := NN10) nn10 ?_
      refine c_ret ?_
      refine n_of (N' := R0) hR ?_
      have ok : okroll w h a b xs = isB w h xs := by unfold okroll in16; rw [not_f h0, not_f h1]; simp
      exact ⟨[], rfl, by rw [okrollE, ok], by rw [okrollE, ok]⟩

theorem s51 (o : Bool) (xs : List Nat) (w h : Int) (z : Nat) : SP 51 [ar o xs] [bas w h 0, f32 z] [ar o xs, ar true (gR (okscale w h xs z) (Rscale xs z))] (toldB (okscale w h xs z) w h 1) := by
  refine spec_of_codeR (fn := Try.f51) tyOK mixes Try.func51 rfl rfl rfl ⟨.inl rfl, rfl⟩ fun hg R0 hR => ?_
  refine c_seq fun NN1 nn1 => ?_
  refine c_region fun KK2 kk2 => ?_
  refine n_of (N' := KK2) kk2 ?_
  refine n_of (N' := NN1) nn1 ?_
  refine c_seq fun NN3 nn3 => ?_
  refine c_seq fun NN4 nn4 => ?_
  refine c_region fun KK5 kk5 => ?_
  refine ⟨rfl, _, _, (s79 _ _ _ _), ?_⟩
  refine And.intro (fun h0 => ?_) (fun h0 => ?_)
  · skip
    refine n_of (N' := KK5) kk5 ?_
    refine n_of (N' := NN4) nn4 ?_
    refine c_cond rfl (fun _ => ?_) (fun h => nomatch h)
    refine c_seq fun NN6 nn6 => ?_
    refine c_region fun KK7 kk7 => ?_
    refine n_of (N' := KK7) kk7 ?_
    refine n_of (N' := NN6) nn6 ?_
    refine c_ret ?_
    refine n_of (N' := R0) hR ?_
    have ok : okscale w h xs z = false := by unfold okscale; rw [not_t h0]; simp
    exact ⟨[.nil 32 (.f [])], rfl, rfl, by rw [ok]; rfl, by rw [ok]; rfl⟩
  · skip
    have hb := not_f h0
    have hlx := isB_pos hb
    refine ⟨rfl, _, _, (s107 _), ?_⟩
    refine n_of (N' := KK5) kk5 ?_
    refine n_of (N' := NN4) nn4 ?_
    refine c_cond rfl (fun h1 => ?_) (fun h1 => ?_)
    · skip
      refine c_seq fun NN8 nn8 => ?_
      refine c_region fun KK9 kk9 => ?_
      refine n_of (N' := KK9) kk9 ?_
      refine n_of (N' := NN8) nn8 ?_
      refine c_ret ?_
      refine n_of (N' := R0) hR ?_
      have ok : okscale w h xs z = false := by unfold okscale; rw [not_t h1]; simp
      exact ⟨[.nil 32 (.f [])], rfl, rfl, by rw [ok]; rfl, by rw [ok]; rfl⟩
    · skip
      refine c_skip ?_
      refine n_of (N' := NN3) nn3 ?_
      refine c_seq fun NN10 nn10 => ?_
      refine c_region fun KK11 kk11 => ?_
      refine ⟨rfl, _, _, (s99 _ _), ?_⟩
      refine n_of (N' := KK11) kk11 ?_
      refine n_of (N' := NN10) nn10 ?_
      refine c_seq fun NN12 nn12 => ?_
      refine c_seq fun NN13 nn13 => ?_
      refine c_region fun KK14 kk14 => ?_
      refine n_of (N' := KK14) kk14 ?_
      refine n_of (N' := NN13) nn13 ?_
      refine c_block fun XX15 xx15 => ?_
      refine loop_keep [] [1, 2, 4, 6] (ι := { i : Nat // i ≤ xs.length }) (fun i => [(7, exi .i64 i.1)]) (fun i => [(3, ar true (bld (fun i => fop .mul .f32 (xs.getD i 0) z) i.1))]) (fun i => xs.length - i.1) ⟨0, Nat.zero_le _⟩ trivial rfl ?_
      refine ⟨?_, ?_, ?_⟩
      · exact ⟨.inr rfl, trivial⟩
      · exact ⟨rfl, rfl, rfl, rfl, rfl, trivial⟩
      refine fun ⟨i, hi⟩ NL16 nl16 => ?_
      refine c_norm rfl rfl ?_
      refine c_seq fun NN17 nn17 => ?_
      refine c_seq fun NN18 nn18 => ?_
      refine c_region fun KK19 kk19 => ?_
      refine n_of (N' := KK19) kk19 ?_
      refine n_of (N' := NN18) nn18 ?_
      refine c_cond rfl (fun h2 => ?_) (fun h2 => ?_)
      · skip
        have q2 := of_decide_eq_true h2
        (try dsimp only at q2)
        (try simp only [Dat.len, bld_len, List.length_cons, List.length_nil] at q2)
        refine c_skip ?_
        refine n_of (N' := NN17) nn17 ?_
        refine c_seq fun NN20 nn20 => ?_
        refine c_block fun XX21 xx21 => ?_
        refine c_draw 10 [0, 1, 2, 3, 4, 5, 6, 7, 8, 9] (by kernel_rfl) fun KK22 kk22 => ?_
        refine And.intro ?_ ?_
        · ((try dsimp only); (try simp only [Dat.len, Int.toNat_natCast, bld_len, List.length_cons, List.length_nil]); omega)   -- 0 index
        refine And.intro ?_ ?_
        · ((try dsimp only); (try simp only [Dat.len, Int.toNat_natCast, bld_len, List.length_cons, List.length_nil]); omega)   -- 1 load
        refine And.intro ?_ ?_
        · (refine ⟨?_, by decide⟩; (try dsimp only); (try simp only [Dat.len, Int.toNat_natCast, bld_len, List.length_cons, List.length_nil]); omega)   -- 2 append
        refine n_of (N' := KK22) kk22 ?_
        refine n_of (N' := NN20) nn20 ?_
        refine c_region fun KK23 kk23 => ?_
        refine n_of (N' := KK23) kk23 ?_
        refine n_of (N' := NL16) nl16 ?_
        refine ⟨⟨i + 1, by omega⟩, ?_, [0, 1, 2, 3, 4], rfl, ?_, ?_⟩
        · (dsimp only; omega)
        · exact LEq.eq ⟨rfl, rfl, rfl, rfl, rfl, trivial⟩
        · exact ⟨.inr (congrArg (exi .i64) (wr64 (n := (i : Int) + 1) (by omega) (by omega))), .inr rfl, .inr rfl, .inr rfl, .inr rfl, trivial⟩
      · skip
        have q2 := of_decide_eq_false h2
        (try dsimp only at q2)
        (try simp only [Dat.len, bld_len, List.length_cons, List.length_nil] at q2)
        refine c_exit ?_
        refine x_here xx15 ?_
        refine n_of (N' := NN12) nn12 ?_
        refine c_seq fun NN24 nn24 => ?_
        refine c_region fun KK25 kk25 => ?_
        refine ⟨rfl, _, _, (s92 _ _ _), ?_⟩
        refine n_of (N' := KK25) kk25 ?_
        refine n_of (N' := NN24) nn24 ?_
        refine c_ret ?_
        refine n_of (N' := R0) hR ?_
        have e : i = xs.length := by omega
        subst e
        have ok : okscale w h xs z = isB w h (Rscale xs z) := by unfold okscale; rw [hb, not_f h1]; rfl
        exact ⟨[], rfl, by rw [ok]; rfl, by rw [ok]; rfl⟩

theorem s52 (o : Bool) (xs : List Nat) (w h : Int) (z : Nat) : SP 52 [ar o xs] [bas w h 0, f32 z] [ar o xs, ar true (gR (okscale w h xs z) (Rscale xs z))] (toldB (okscale w h xs z) w h 1) := by
  refine spec_of_codeR (fn := Try.f52) tyOK mixes Try.func52 rfl rfl rfl ⟨.inl rfl, rfl⟩ fun hg R0 hR => ?_
  refine c_seq fun NN1 nn1 => ?_
  refine c_region fun KK2 kk2 => ?_
  refine n_of (N' := KK2) kk2 ?_
  refine n_of (N' := NN1) nn1 ?_
  refine c_seq fun NN3 nn3 => ?_
  refine c_seq fun NN4 nn4 => ?_
  refine c_region fun KK5 kk5 => ?_
  refine ⟨rfl, _, _, (s111 _), ?_⟩
  refine n_of (N' := KK5) kk5 ?_
  refine n_of (N' := NN4) nn4 ?_
  refine c_cond rfl (fun h0 => ?_) (fun h0 => ?_)
  · skip
    refine c_seq fun NN6 nn6 => ?_
    refine c_region fun KK7 kk7 => ?_
    refine n_of (N' := KK7) kk7 ?_
    refine n_of (N' := NN6) nn6 ?_
    refine c_ret ?_
    refine n_of (N' := R0) hR ?_
    have ok : okscale w h xs z = false := by unfold okscale; rw [not_t h0]; rfl
    exact ⟨[.nil 32 (.f [])], rfl, rfl, by rw [ok]; rfl, by rw [ok]; rfl⟩
  · skip
    refine c_skip ?_
    refine n_of (N' := NN3) nn3 ?_
    refine c_seq fun NN8 nn8 => ?_
    refine c_region fun KK9 kk9 => ?_
    refine ⟨rfl, _, _, s101scale _ _ _ _ _, ?_⟩
    refine n_of (N' := KK9) kk9 ?_
    refine n_of (N' := NN8) nn8 ?_
    refine c_ret ?_
    refine n_of (N' := R0) hR ?_
    cases hb : isB w h xs
    · have ok : okscale w h xs z = false := by unfold okscale; rw [hb]; simp
      exact ⟨[], rfl, by rw [ok, Bool.false_and]; try rfl, by rw [ok, Bool.false_and]; try rfl⟩
    · obtain ⟨W, H, rfl, rfl, w1, w2, w3, w4, hl, hWH⟩ := isB_nat hb
      have ok : okscale W H xs z = isB W H (Rscale xs z) := by unfold okscale; rw [hb, not_f h0]; rfl
      exact ⟨[], rfl, by rw [ok, Bool.true_and, grid_scale z w1 hl], by rw [ok, Bool.true_and, grid_scale z w1 hl]⟩

theorem s120 (o : Bool) (xs : List Nat) (w h : Int) (hb : isB w h xs = true) : SP 120 [basV w h 1, ar o xs] [.one (.pv 0 0)] [basV w h 1, ar o xs, ar true (gR (oklap w h xs) (grid w h (fun x y => Flap xs w h x y)))] (toldB (oklap w h xs) w h 2) := by
  refine spec_of_codeR (fn := Try.f120) tyOK mixes Try.func120 rfl rfl rfl ⟨.inl rfl, ⟨.inl rfl, rfl⟩⟩ fun hg R0 hR => ?_
  obtain ⟨W, H, rfl, rfl, w1, w2, w3, w4, hl, hWH⟩ := isB_nat hb
  have hwr := wrWH hWH
  refine c_seq fun NN1 nn1 => ?_
  refine c_region fun KK2 kk2 => ?_
  refine n_of (N' := KK2) kk2 ?_
  refine n_of (N' := NN1) nn1 ?_
  refine c_seq fun NN3 nn3 => ?_
  refine c_draw2 10 9 4 [0, 1, 2, 3, 4, 5, 6, 7, 8] (by kernel_rfl) fun KK4 kk4 => ?_
  refine ⟨rfl, _, _, (s99 _ _), rfl, ?_⟩
  refine n_of (N' := KK4) kk4 ?_
  refine n_of (N' := NN3) nn3 ?_
  refine c_seq fun NN5 nn5 => ?_
  refine c_seq fun NN6 nn6 => ?_
  refine c_region fun KK7 kk7 => ?_
  refine n_of (N' := KK7) kk7 ?_
  refine n_of (N' := NN6) nn6 ?_
  refine c_block fun XX8 xx8 => ?_
  refine loop_keep [] [0, 2, 4] (ι := { i : Nat // i ≤ W * H }) (fun i => [(5, exi .i64 i.1)]) (fun i => [(3, ar true (bld (fun t => (fun x y => Flap xs W H x y) ((t % W : Nat) : Int) ((t / W : Nat) : Int)) i.1))]) (fun i => W * H - i.1) ⟨0, Nat.zero_le _⟩ trivial rfl ?_
  refine ⟨?_, ?_, ?_⟩
  · exact ⟨.inr rfl, trivial⟩
  · exact ⟨rfl, rfl, rfl, rfl, rfl, trivial⟩
  refine fun ⟨i, hi⟩ NL9 nl9 => ?_
  refine c_norm rfl rfl ?_
  obtain ⟨m0, m1, m2, m3⟩ := cellb i W (by omega) (by omega)
  refine c_seq fun NN10 nn10 => ?_
  refine c_seq fun NN11 nn11 => ?_
  refine c_draw 10 [0, 1, 2, 3, 4, 5, 6, 7, 8, 9] (by kernel_rfl) fun KK12 kk12 => ?_
  refine n_of (N' := KK12) kk12 ?_
  refine n_of (N' := NN11) nn11 ?_
  refine c_cond rfl (fun h0 => ?_) (fun h0 => ?_)
  · skip
    have q0 := of_decide_eq_true h0
    (try dsimp only at q0)
    (try simp only [Dat.len, hwr, bld_len, List.length_cons, List.length_nil] at q0)
    refine c_skip ?_
    refine n_of (N' := NN10) nn10 ?_
    refine c_seq fun NN13 nn13 => ?_
    refine c_block fun XX14 xx14 => ?_
    refine c_draw 26 [0, 1, 2, 3, 4, 5, 6, 7, 8, 9, 10, 11, 12, 13, 14, 16, 17, 18, 19, 20, 21, 22, 23, 15, 24, 25] (by kernel_rfl) fun KK15 kk15 => ?_
    refine And.intro ?_ ?_
    · omega   -- 0 div
    refine And.intro ?_ ?_
    · omega   -- 1 div
    refine And.intro ?_ ?_
    · ((try dsimp only); (try simp only [Dat.len, Int.toNat_natCast, hwr, bld_len, List.length_cons, List.length_nil]); omega)   -- 2 index
    refine And.intro ?_ ?_
    · ((try dsimp only); (try simp only [Dat.len, Int.toNat_natCast, hwr, bld_len, List.length_cons, List.length_nil]); omega)   -- 3 load
    refine ⟨rfl, _, _, s150 _ _ _ _ w1 w2 w3 w4 hl _ _ (by (try dsimp only); simp only [tdiv_nat, tmod_nat]; omega) (by (try dsimp only); simp only [tdiv_nat, tmod_nat]; omega) (by (try dsimp only); simp only [tdiv_nat, tmod_nat]; simp (disch := omega) only [wr64]; omega) (by (try dsimp only); simp only [tdiv_nat, tmod_nat]; simp (disch := omega) only [wr64]; exact Int.ofNat_lt.2 (by rw [Nat.div_lt_iff_lt_mul (by omega), Nat.mul_comm]; omega)), rfl, ?_⟩
    refine And.intro ?_ ?_
    · (refine ⟨?_, by decide⟩; (try dsimp only); (try simp only [Dat.len, Int.toNat_natCast, hwr, bld_len, List.length_cons, List.length_nil]); omega)   -- 4 append
    refine n_of (N' := KK15) kk15 ?_
    refine n_of (N' := NN13) nn13 ?_
    refine c_region fun KK16 kk16 => ?_
    refine n_of (N' := KK16) kk16 ?_
    refine n_of (N' := NL9) nl9 ?_
    refine ⟨⟨i + 1, by omega⟩, ?_, [0, 1, 2, 3, 4], rfl, ?_, ?_⟩
    · (dsimp only; omega)
    · exact LEq.eq ⟨rfl, rfl, rfl, congrArg (fun z => ar true (bld _ i ++ [z])) (by dsimp only; unfold Flap; simp only [tdiv_nat, tmod_nat]; simp (disch := omega) only [wr64]; rw [atV_in (by omega) (by omega)]; rfl), rfl, trivial⟩
    · exact ⟨.inr (congrArg (exi .i64) (wr64 (n := (i : Int) + 1) (by omega) (by omega))), .inr rfl, .inr rfl, .inr rfl, trivial⟩
  · skip
    have q0 := of_decide_eq_false h0
    (try dsimp only at q0)
    (try simp only [Dat.len, hwr, bld_len, List.length_cons, List.length_nil] at q0)
    refine c_exit ?_
    refine x_here xx8 ?_
    refine n_of (N' := NN5) nn5 ?_
    refine c_seq fun NN17 nn17 => ?_
    refine c_region fun KK18 kk18 => ?_
    refine ⟨rfl, _, _, (s92 _ _ _), ?_⟩
    refine n_of (N' := KK18) kk18 ?_
    refine n_of (N' := NN17) nn17 ?_
    refine c_ret ?_
    refine n_of (N' := R0) hR ?_
    have e : i = W * H := by omega
    subst e
    have ok : oklap W H xs = isB W H (grid W H (fun x y => Flap xs W H x y)) := by unfold oklap; rw [hb]; rfl
    exact ⟨[], rfl, by rw [ok, gridN], by rw [ok, gridN]⟩

theorem s62 (o : Bool) (xs : List Nat) (w h : Int) : SP 62 [ar o xs] [bas w h 0] [ar o xs, ar true (gR (oklap w h xs) (grid w h (fun x y => Flap xs w h x y)))] (toldB (oklap w h xs) w h 1) := by
  refine spec_of_codeR (fn := Try.f62) tyOK mixes Try.func62 rfl rfl rfl ⟨.inl rfl, rfl⟩ fun hg R0 hR => ?_
  refine c_seq fun NN1 nn1 => ?_
  refine c_region fun KK2 kk2 => ?_
  refine n_of (N' := KK2) kk2 ?_
  refine n_of (N' := NN1) nn1 ?_
  refine c_seq fun NN3 nn3 => ?_
  refine c_seq fun NN4 nn4 => ?_
  refine c_region fun KK5 kk5 => ?_
  refine ⟨rfl, _, _, (s79 _ _ _ _), ?_⟩
  refine n_of (N' := KK5) kk5 ?_
  refine n_of (N' := NN4) nn4 ?_
  refine c_cond rfl (fun h0 => ?_) (fun h0 => ?_)
  · skip
    refine c_seq fun NN6 nn6 => ?_
    refine c_region fun KK7 kk7 => ?_
    refine n_of (N' := KK7) kk7 ?_
    refine n_of (N' := NN6) nn6 ?_
    refine c_ret ?_
    refine n_of (N' := R0) hR ?_
    have ok : oklap w h xs = false := by unfold oklap; rw [not_t h0]; rfl
    exact ⟨[.nil 32 (.f [])], rfl, rfl, by rw [ok]; rfl, by rw [ok]; rfl⟩
  · skip
    have hb := not_f h0
    refine c_skip ?_
    refine n_of (N' := NN3) nn3 ?_
    refine c_seq fun NN8 nn8 => ?_
    refine c_region fun KK9 kk9 => ?_
    refine ⟨rfl, _, _, (s120 _ _ _ _ (by ((try dsimp only); first | assumption | omega | (simp (disch := omega) only [wr64]; omega)))), ?_⟩
    refine n_of (N' := KK9) kk9 ?_
    refine n_of (N' := NN8) nn8 ?_
    refine c_ret ?_
    refine n_of (N' := R0) hR ?_
    exact ⟨[], rfl, rfl, rfl⟩

theorem s63 (o : Bool) (xs : List Nat) (w h : Int) : SP 63 [ar o xs] [bas w h 0] [ar o xs, ar true (gR (oklap w h xs) (grid w h (fun x y => Flap xs w h x y)))] (toldB (oklap w h xs) w h 1) := by
  refine spec_of_codeR (fn := Try.f63) tyOK mixes Try.func63 rfl rfl rfl ⟨.inl rfl, rfl⟩ fun hg R0 hR => ?_
  refine c_seq fun NN1 nn1 => ?_
  refine c_region fun KK2 kk2 => ?_
  refine n_of (N' := KK2) kk2 ?_
  refine n_of (N' := NN1) nn1 ?_
  refine c_seq fun NN3 nn3 => ?_
  refine c_region fun KK4 kk4 => ?_
  refine ⟨rfl, _, _, s101lap _ _ _ _, ?_⟩
  refine n_of (N' := KK4) kk4 ?_
  refine n_of (N' := NN3) nn3 ?_
  refine c_ret ?_
  refine n_of (N' := R0) hR ?_
  exact ⟨[], rfl, rfl, rfl⟩

theorem s10 (o : Bool) (xs : List Nat) (w h : Int) : SP 10 [ar o xs] [bas w h 0] [ar o xs] (exb true) := by
  refine spec_of_codeR (fn := Try.f10) tyOK mixes Try.func10 rfl rfl rfl ⟨.inl rfl, rfl⟩ fun hg R0 hR => ?_
  have hR1 : (gR (isB w h xs) (grid w h (fun x y => Fmir xs w h x y))).length ≤ 256 := gR_len fun hb => grid_le hb
  refine c_seq fun NN1 nn1 => ?_
  refine c_region fun KK2 kk2 => ?_
  refine n_of (N' := KK2) kk2 ?_
  refine n_of (N' := NN1) nn1 ?_
  refine c_seq fun NN3 nn3 => ?_
  refine c_region fun KK4 kk4 => ?_
  refine n_of (N' := KK4) kk4 ?_
  refine n_of (N' := NN3) nn3 ?_
  refine c_seq fun NN5 nn5 => ?_
  refine c_region fun KK6 kk6 => ?_
  refine ⟨rfl, _, _, (s25 _ _ _ _ _), ?_⟩
  refine n_of (N' := KK6) kk6 ?_
  refine n_of (N' := NN5) nn5 ?_
  refine c_seq fun NN7 nn7 => ?_
  refine c_seq fun NN8 nn8 => ?_
  refine c_region fun KK9 kk9 => ?_
  refine n_of (N' := KK9) kk9 ?_
  refine n_of (N' := NN8) nn8 ?_
  refine c_cond rfl (fun h0 => ?_) (fun h0 => ?_)
  · skip
    have q0 := of_decide_eq_true h0
    (try dsimp only at q0)
    (try simp only [Dat.len] at q0)
    refine c_seq fun NN10 nn10 => ?_
    refine c_region fun KK11 kk11 => ?_
    refine n_of (N' := KK11) kk11 ?_
    refine n_of (N' := NN10) nn10 ?_
    refine c_ret ?_
    refine n_of (N' := R0) hR ?_
    exact ⟨[], rfl, rfl, rfl⟩
  · skip
    have q0 := of_decide_eq_false h0
    (try dsimp only at q0)
    (try simp only [Dat.len] at q0)
    have hn : xs.length ≤ 1048576 := sz_le h0 hg.1.1.1
    refine c_skip ?_
    refine n_of (N' := NN7) nn7 ?_
    refine c_seq fun NN12 nn12 => ?_
    refine c_region fun KK13 kk13 => ?_
    refine ⟨rfl, _, _, (s27 _ _ (by ((try dsimp only); first | assumption | omega | (simp (disch := omega) only [wr64]; omega))) _ _), ?_⟩
    refine ⟨rfl, _, _, (s45 _ _ _ _), ?_⟩
    refine n_of (N' := KK13) kk13 ?_
    refine n_of (N' := NN12) nn12 ?_
    refine c_seq fun NN14 nn14 => ?_
    refine c_region fun KK15 kk15 => ?_
    refine ⟨rfl, _, _, (s27 _ _ (by ((try dsimp only); first | assumption | omega | (simp (disch := omega) only [wr64]; omega))) _ _), ?_⟩
    refine n_of (N' := KK15) kk15 ?_
    refine n_of (N' := NN14) nn14 ?_
    refine c_seq fun NN16 nn16 => ?_
    refine c_region fun KK17 kk17 => ?_
    refine ⟨rfl, _, _, (s46 _ _ _ _), ?_⟩
    refine n_of (N' := KK17) kk17 ?_
    refine n_of (N' := NN16) nn16 ?_
    refine c_seq fun NN18 nn18 => ?_
    refine c_seq fun NN19 nn19 => ?_
    refine c_region fun KK20 kk20 => ?_
    refine ⟨rfl, _, _, (s29 _ _ _ _ _), ?_⟩
    refine And.intro (fun h1 => ?_) (fun h1 => ?_)
    · skip
      (first | (cases h1; done) | exact bnn h1 | (have q := of_decide_eq_true h1; exfalso; omega) | exact absurd rfl (ne_of_bneT h1))
    · skip
      refine n_of (N' := KK20) kk20 ?_
      refine n_of (N' := NN19) nn19 ?_
      refine c_cond rfl (fun h2 => ?_) (fun h2 => ?_)
      · skip
        (first | (cases h2; done) | exact bnn h2 | (have q := of_decide_eq_true h2; exfalso; omega) | exact absurd rfl (ne_of_bneT h2))
      · skip
        refine c_skip ?_
        refine n_of (N' := NN18) nn18 ?_
        refine c_seq fun NN21 nn21 => ?_
        refine c_seq fun NN22 nn22 => ?_
        refine c_draw 3 [0, 1, 2] (by kernel_rfl) fun KK23 kk23 => ?_
        refine ⟨rfl, _, _, (s27 _ _ (by ((try dsimp only); first | assumption | omega | (simp (disch := omega) only [wr64]; omega))) _ _), rfl, ?_⟩
        refine ⟨rfl, _, _, (s29 _ _ _ _ _), ?_⟩
        refine n_of (N' := KK23) kk23 ?_
        refine n_of (N' := NN22) nn22 ?_
        refine c_cond rfl (fun h3 => ?_) (fun h3 => ?_)
        · skip
          (first | (cases h3; done) | exact bnn h3 | (have q := of_decide_eq_true h3; exfalso; omega) | exact absurd rfl (ne_of_bneT h3))
        · skip
          refine c_skip ?_
          refine n_of (N' := NN21) nn21 ?_
          refine c_seq fun NN24 nn24 => ?_
          refine c_region fun KK25 kk25 => ?_
          refine n_of (N' := KK25) kk25 ?_
          refine n_of (N' := NN24) nn24 ?_
          refine c_seq fun NN26 nn26 => ?_
          refine c_region fun KK27 kk27 => ?_
          refine ⟨rfl, _, _, (s41 _ _ _ _ (by ((try dsimp only); first | assumption | omega | (simp (disch := omega) only [wr64]; omega))) (by ((try dsimp only); first | assumption | omega | (simp (disch := omega) only [wr64]; omega))) (by ((try dsimp only); first | assumption | omega | (simp (disch := omega) only [wr64]; omega)))), ?_⟩
          refine n_of (N' := KK27) kk27 ?_
          refine n_of (N' := NN26) nn26 ?_
          refine c_seq fun NN28 nn28 => ?_
          refine c_seq fun NN29 nn29 => ?_
          refine c_region fun KK30 kk30 => ?_
          refine And.intro (fun h4 => ?_) (fun h4 => ?_)
          · skip
            (first | (cases h4; done) | exact bnn h4 | (have q := of_decide_eq_true h4; exfalso; omega) | exact absurd rfl (ne_of_bneT h4))
          · skip
            have q4 := of_decide_eq_false h4
            (try dsimp only at q4)
            (try simp only [Dat.len] at q4)
            refine ⟨rfl, _, _, (s29 _ _ _ _ _), ?_⟩
            refine And.intro (fun h5 => ?_) (fun h5 => ?_)
            · skip
              (first | (cases h5; done) | exact bnn h5 | (have q := of_decide_eq_true h5; exfalso; omega) | exact absurd rfl (ne_of_bneT h5))
            · skip
              refine n_of (N' := KK30) kk30 ?_
              refine n_of (N' := NN29) nn29 ?_
              refine c_cond rfl (fun h6 => ?_) (fun h6 => ?_)
              · skip
                (first | (cases h6; done) | exact bnn h6 | (have q := of_decide_eq_true h6; exfalso; omega) | exact absurd rfl (ne_of_bneT h6))
              · skip
                refine c_skip ?_
                refine n_of (N' := NN28) nn28 ?_
                refine c_seq fun NN31 nn31 => ?_
                refine c_region fun KK32 kk32 => ?_
                refine n_of (N' := KK32) kk32 ?_
                refine n_of (N' := NN31) nn31 ?_
                refine c_seq fun NN33 nn33 => ?_
                refine c_region fun KK34 kk34 => ?_
                refine ⟨rfl, _, _, (s41 _ _ _ _ (by ((try dsimp only); first | assumption | omega | (simp (disch := omega) only [wr64]; omega))) (by ((try dsimp only); first | assumption | omega | (simp (disch := omega) only [wr64]; omega))) (by ((try dsimp only); first | assumption | omega | (simp (disch := omega) only [wr64]; omega)))), ?_⟩
                refine n_of (N' := KK34) kk34 ?_
                refine n_of (N' := NN33) nn33 ?_
                refine c_seq fun NN35 nn35 => ?_
                refine c_region fun KK36 kk36 => ?_
                refine n_of (N' := KK36) kk36 ?_
                refine n_of (N' := NN35) nn35 ?_
                refine c_seq fun NN37 nn37 => ?_
                refine c_region fun KK38 kk38 => ?_
                refine ⟨rfl, _, _, (s42 _ _ _ _ _ (by ((try dsimp only); first | assumption | omega | (simp (disch := omega) only [wr64]; omega))) (by ((try dsimp only); first | assumption | omega | (simp (disch := omega) only [wr64]; omega))) (by ((try dsimp only); first | assumption | omega | (simp (disch := omega) only [wr64]; omega)))), ?_⟩
                refine n_of (N' := KK38) kk38 ?_
                refine n_of (N' := NN37) nn37 ?_
                refine c_seq fun NN39 nn39 => ?_
                refine c_seq fun NN40 nn40 => ?_
                refine c_region fun KK41 kk41 => ?_
                refine n_of (N' := KK41) kk41 ?_
                refine n_of (N' := NN40) nn40 ?_
                refine c_cond rfl (fun h7 => ?_) (fun h7 => ?_)
                · skip
                  (first | (cases h7; done) | exact bnn h7 | (have q := of_decide_eq_true h7; exfalso; omega) | exact absurd rfl (ne_of_bneT h7))
                · skip
                  have q7 := of_decide_eq_false h7
                  (try dsimp only at q7)
                  (try simp only [Dat.len] at q7)
                  refine c_skip ?_
                  refine n_of (N' := NN39) nn39 ?_
                  refine c_seq fun NN42 nn42 => ?_
                  refine c_seq fun NN43 nn43 => ?_
                  refine c_region fun KK44 kk44 => ?_
                  refine n_of (N' := KK44) kk44 ?_
                  refine n_of (N' := NN43) nn43 ?_
                  refine c_cond rfl (fun h8 => ?_) (fun h8 => ?_)
                  · skip
                    (first | (cases h8; done) | exact bnn h8 | (have q := of_decide_eq_true h8; exfalso; omega) | exact absurd rfl (ne_of_bneT h8))
                  · skip
                    have q8 := eq_of_bneF h8
                    (try dsimp only at q8)
                    (try simp only [Dat.len] at q8)
                    refine c_skip ?_
                    refine n_of (N' := NN42) nn42 ?_
                    refine c_seq fun NN45 nn45 => ?_
                    refine c_region fun KK46 kk46 => ?_
                    refine ⟨rfl, _, _, (s27 _ _ (by ((try dsimp only); first | assumption | omega | (simp (disch := omega) only [wr64]; omega))) _ _), ?_⟩
                    refine ⟨rfl, _, _, (s46 _ _ _ _), ?_⟩
                    refine n_of (N' := KK46) kk46 ?_
                    refine n_of (N' := NN45) nn45 ?_
                    refine c_seq fun NN47 nn47 => ?_
                    refine c_seq fun NN48 nn48 => ?_
                    refine c_region fun KK49 kk49 => ?_
                    refine ⟨rfl, _, _, (s29 _ _ _ _ _), ?_⟩
                    refine And.intro (fun h9 => ?_) (fun h9 => ?_)
                    · skip
                      (first | (cases h9; done) | exact bnn h9 | (have q := of_decide_eq_true h9; exfalso; omega) | exact absurd rfl (ne_of_bneT h9))
                    · skip
                      refine n_of (N' := KK49) kk49 ?_
                      refine n_of (N' := NN48) nn48 ?_
                      refine c_cond rfl (fun h10 => ?_) (fun h10 => ?_)
                      · skip
                        (first | (cases h10; done) | exact bnn h10 | (have q := of_decide_eq_true h10; exfalso; omega) | exact absurd rfl (ne_of_bneT h10))
                      · skip
                        refine c_skip ?_
                        refine n_of (N' := NN47) nn47 ?_
                        refine c_seq fun NN50 nn50 => ?_
                        refine c_region fun KK51 kk51 => ?_
                        refine n_of (N' := KK51) kk51 ?_
                        refine n_of (N' := NN50) nn50 ?_
                        refine c_seq fun NN52 nn52 => ?_
                        refine c_region fun KK53 kk53 => ?_
                        refine ⟨rfl, _, _, (s42 _ _ _ _ _ (by ((try dsimp only); first | assumption | omega | (simp (disch := omega) only [wr64]; omega))) (by ((try dsimp only); first | assumption | omega | (simp (disch := omega) only [wr64]; omega))) (by ((try dsimp only); first | assumption | omega | (simp (disch := omega) only [wr64]; omega)))), ?_⟩
                        refine n_of (N' := KK53) kk53 ?_
                        refine n_of (N' := NN52) nn52 ?_
                        refine c_seq fun NN54 nn54 => ?_
                        refine c_seq fun NN55 nn55 => ?_
                        refine c_region fun KK56 kk56 => ?_
                        refine n_of (N' := KK56) kk56 ?_
                        refine n_of (N' := NN55) nn55 ?_
                        refine c_cond rfl (fun h11 => ?_) (fun h11 => ?_)
                        · skip
                          (first | (cases h11; done) | exact bnn h11 | (have q := of_decide_eq_true h11; exfalso; omega) | exact absurd rfl (ne_of_bneT h11))
                        · skip
                          have q11 := of_decide_eq_false h11
                          (try dsimp only at q11)
                          (try simp only [Dat.len] at q11)
                          refine c_skip ?_
                          refine n_of (N' := NN54) nn54 ?_
                          refine c_seq fun NN57 nn57 => ?_
                          refine c_seq fun NN58 nn58 => ?_
                          refine c_region fun KK59 kk59 => ?_
                          refine n_of (N' := KK59) kk59 ?_
                          refine n_of (N' := NN58) nn58 ?_
                          refine c_cond rfl (fun h12 => ?_) (fun h12 => ?_)
                          · skip
                            (first | (cases h12; done) | exact bnn h12 | (have q := of_decide_eq_true h12; exfalso; omega) | exact absurd rfl (ne_of_bneT h12))
                          · skip
                            have q12 := eq_of_bneF h12
                            (try dsimp only at q12)
                            (try simp only [Dat.len] at q12)
                            refine c_skip ?_
                            refine n_of (N' := NN57) nn57 ?_
                            refine c_seq fun NN60 nn60 => ?_
                            refine c_region fun KK61 kk61 => ?_
                            refine n_of (N' := KK61) kk61 ?_
                            refine n_of (N' := NN60) nn60 ?_
                            refine c_ret ?_
                            refine n_of (N' := R0) hR ?_
                            exact ⟨[], rfl, rfl, rfl⟩

theorem s11 (o : Bool) (xs : List Nat) (w h : Int) (a b : Int) : SP 11 [ar o xs] [bas w h 0, i64 a, i64 b] [ar o xs] (exb true) := by
  refine spec_of_codeR (fn := Try.f11) tyOK mixes Try.func11 rfl rfl rfl ⟨.inl rfl, rfl⟩ fun hg R0 hR => ?_
  have hR1 : (gR (okroll w h a b xs) (grid w h (fun x y => Froll xs a b w h x y))).length ≤ 256 := gR_len fun hb => grid_le (xs := xs) (by unfold okroll at hb; simp only [Bool.and_eq_true] at hb; exact hb.1)
  refine c_seq fun NN1 nn1 => ?_
  refine c_region fun KK2 kk2 => ?_
  refine n_of (N' := KK2) kk2 ?_
  refine n_of (N' := NN1) nn1 ?_
  refine c_seq fun NN3 nn3 => ?_
  refine c_region fun KK4 kk4 => ?_
  refine n_of (N' := KK4) kk4 ?_
  refine n_of (N' := NN3) nn3 ?_
  refine c_seq fun NN5 nn5 => ?_
  refine c_region fun KK6 kk6 => ?_
  refine ⟨rfl, _, _, (s25 _ _ _ _ _), ?_⟩
  refine n_of (N' := KK6) kk6 ?_
  refine n_of (N' := NN5) nn5 ?_
  refine c_seq fun NN7 nn7 => ?_
  refine c_seq fun NN8 nn8 => ?_
  refine c_region fun KK9 kk9 => ?_
  refine n_of (N' := KK9) kk9 ?_
  refine n_of (N' := NN8) nn8 ?_
  refine c_cond rfl (fun h0 => ?_) (fun h0 => ?_)
  · skip
    have q0 := of_decide_eq_true h0
    (try dsimp only at q0)
    (try simp only [Dat.len] at q0)
    refine c_seq fun NN10 nn10 => ?_
    refine c_region fun KK11 kk11 => ?_
    refine n_of (N' := KK11) kk11 ?_
    refine n_of (N' := NN10) nn10 ?_
    refine c_ret ?_
    refine n_of (N' := R0) hR ?_
    exact ⟨[], rfl, rfl, rfl⟩
  · skip
    have q0 := of_decide_eq_false h0
    (try dsimp only at q0)
    (try simp only [Dat.len] at q0)
    have hn : xs.length ≤ 1048576 := sz_le h0 hg.1.1.1
    refine c_skip ?_
    refine n_of (N' := NN7) nn7 ?_
    refine c_seq fun NN12 nn12 => ?_
    refine c_region fun KK13 kk13 => ?_
    refine ⟨rfl, _, _, (s27 _ _ (by ((try dsimp only); first | assumption | omega | (simp (disch := omega) only [wr64]; omega))) _ _), ?_⟩
    refine ⟨rfl, _, _, (s47 _ _ _ _ _ _), ?_⟩
    refine n_of (N' := KK13) kk13 ?_
    refine n_of (N' := NN12) nn12 ?_
    refine c_seq fun NN14 nn14 => ?_
    refine c_region fun KK15 kk15 => ?_
    refine ⟨rfl, _, _, (s27 _ _ (by ((try dsimp only); first | assumption | omega | (simp (disch := omega) only [wr64]; omega))) _ _), ?_⟩
    refine n_of (N' := KK15) kk15 ?_
    refine n_of (N' := NN14) nn14 ?_
    refine c_seq fun NN16 nn16 => ?_
    refine c_region fun KK17 kk17 => ?_
    refine ⟨rfl, _, _, (s48 _ _ _ _ _ _), ?_⟩
    refine n_of (N' := KK17) kk17 ?_
    refine n_of (N' := NN16) nn16 ?_
    refine c_seq fun NN18 nn18 => ?_
    refine c_seq fun NN19 nn19 => ?_
    refine c_region fun KK20 kk20 => ?_
    refine ⟨rfl, _, _, (s29 _ _ _ _ _), ?_⟩
    refine And.intro (fun h1 => ?_) (fun h1 => ?_)
    · skip
      (first | (cases h1; done) | exact bnn h1 | (have q := of_decide_eq_true h1; exfalso; omega) | exact absurd rfl (ne_of_bneT h1))
    · skip
      refine n_of (N' := KK20) kk20 ?_
      refine n_of (N' := NN19) nn19 ?_
      refine c_cond rfl (fun h2 => ?_) (fun h2 => ?_)
      · skip
        (first | (cases h2; done) | exact bnn h2 | (have q := of_decide_eq_true h2; exfalso; omega) | exact absurd rfl (ne_of_bneT h2))
      · skip
        refine c_skip ?_
        refine n_of (N' := NN18) nn18 ?_
        refine c_seq fun NN21 nn21 => ?_
        refine c_seq fun NN22 nn22 => ?_
        refine c_draw 3 [0, 1, 2] (by kernel_rfl) fun KK23 kk23 => ?_
        refine ⟨rfl, _, _, (s27 _ _ (by ((try dsimp only); first | assumption | omega | (simp (disch := omega) only [wr64]; omega))) _ _), rfl, ?_⟩
        refine ⟨rfl, _, _, (s29 _ _ _ _ _), ?_⟩
        refine n_of (N' := KK23) kk23 ?_
        refine n_of (N' := NN22) nn22 ?_
        refine c_cond rfl (fun h3 => ?_) (fun h3 => ?_)
        · skip
          (first | (cases h3; done) | exact bnn h3 | (have q := of_decide_eq_true h3; exfalso; omega) | exact absurd rfl (ne_of_bneT h3))
        · skip
          refine c_skip ?_
          refine n_of (N' := NN21) nn21 ?_
          refine c_seq fun NN24 nn24 => ?_
          refine c_region fun KK25 kk25 => ?_
          refine n_of (N' := KK25) kk25 ?_
          refine n_of (N' := NN24) nn24 ?_
          refine c_seq fun NN26 nn26 => ?_
          refine c_region fun KK27 kk27 => ?_
          refine ⟨rfl, _, _, (s41 _ _ _ _ (by ((try dsimp only); first | assumption | omega | (simp (disch := omega) only [wr64]; omega))) (by ((try dsimp only); first | assumption | omega | (simp (disch := omega) only [wr64]; omega))) (by ((try dsimp only); first | assumption | omega | (simp (disch := omega) only [wr64]; omega)))), ?_⟩
          refine n_of (N' := KK27) kk27 ?_
          refine n_of (N' := NN26) nn26 ?_
          refine c_seq fun NN28 nn28 => ?_
          refine c_seq fun NN29 nn29 => ?_
          refine c_region fun KK30 kk30 => ?_
          refine And.intro (fun h4 => ?_) (fun h4 => ?_)
          · skip
            (first | (cases h4; done) | exact bnn h4 | (have q := of_decide_eq_true h4; exfalso; omega) | exact absurd rfl (ne_of_bneT h4))
          · skip
            have q4 := of_decide_eq_false h4
            (try dsimp only at q4)
            (try simp only [Dat.len] at q4)
            refine ⟨rfl, _, _, (s29 _ _ _ _ _), ?_⟩
            refine And.intro (fun h5 => ?_) (fun h5 => ?_)
            · skip
              (first | (cases h5; done) | exact bnn h5 | (have q := of_decide_eq_true h5; exfalso; omega) | exact absurd rfl (ne_of_bneT h5))
            · skip
              refine n_of (N' := KK30) kk30 ?_
              refine n_of (N' := NN29) nn29 ?_
              refine c_cond rfl (fun h6 => ?_) (fun h6 => ?_)
              · skip
                (first | (cases h6; done) | exact bnn h6 | (have q := of_decide_eq_true h6; exfalso; omega) | exact absurd rfl (ne_of_bneT h6))
              · skip
                refine c_skip ?_
                refine n_of (N' := NN28) nn28 ?_
                refine c_seq fun NN31 nn31 => ?_
                refine c_region fun KK32 kk32 => ?_
                refine n_of (N' := KK32) kk32 ?_
                refine n_of (N' := NN31) nn31 ?_
                refine c_seq fun NN33 nn33 => ?_
                refine c_region fun KK34 kk34 => ?_
                refine ⟨rfl, _, _, (s41 _ _ _ _ (by ((try dsimp only); first | assumption | omega | (simp (disch := omega) only [wr64]; omega))) (by ((try dsimp only); first | assumption | omega | (simp (disch := omega) only [wr64]; omega))) (by ((try dsimp only); first | assumption | omega | (simp (disch := omega) only [wr64]; omega)))), ?_⟩
                refine n_of (N' := KK34) kk34 ?_
                refine n_of (N' := NN33) nn33 ?_
                refine c_seq fun NN35 nn35 => ?_
                refine c_region fun KK36 kk36 => ?_
                refine n_of (N' := KK36) kk36 ?_
                refine n_of (N' := NN35) nn35 ?_
                refine c_seq fun NN37 nn37 => ?_
                refine c_region fun KK38 kk38 => ?_
                refine ⟨rfl, _, _, (s42 _ _ _ _ _ (by ((try dsimp only); first | assumption | omega | (simp (disch := omega) only [wr64]; omega))) (by ((try dsimp only); first | assumption | omega | (simp (disch := omega) only [wr64]; omega))) (by ((try dsimp only); first | assumption | omega | (simp (disch := omega) only [wr64]; omega)))), ?_⟩
                refine n_of (N' := KK38) kk38 ?_
                refine n_of (N' := NN37) nn37 ?_
                refine c_seq fun NN39 nn39 => ?_
                refine c_seq fun NN40 nn40 => ?_
                refine c_region fun KK41 kk41 => ?_
                refine n_of (N' := KK41) kk41 ?_
                refine n_of (N' := NN40) nn40 ?_
                refine c_cond rfl (fun h7 => ?_) (fun h7 => ?_)
                · skip
                  (first | (cases h7; done) | exact bnn h7 | (have q := of_decide_eq_true h7; exfalso; omega) | exact absurd rfl (ne_of_bneT h7))
                · skip
                  have q7 := of_decide_eq_false h7
                  (try dsimp only at q7)
                  (try simp only [Dat.len] at q7)
                  refine c_skip ?_
                  refine n_of (N' := NN39) nn39 ?_
                  refine c_seq fun NN42 nn42 => ?_
                  refine c_seq fun NN43 nn43 => ?_
                  refine c_region fun KK44 kk44 => ?_
                  refine n_of (N' := KK44) kk44 ?_
                  refine n_of (N' := NN43) nn43 ?_
                  refine c_cond rfl (fun h8 => ?_) (fun h8 => ?_)
                  · skip
                    (first | (cases h8; done) | exact bnn h8 | (have q := of_decide_eq_true h8; exfalso; omega) | exact absurd rfl (ne_of_bneT h8))
                  · skip
                    have q8 := eq_of_bneF h8
                    (try dsimp only at q8)
                    (try simp only [Dat.len] at q8)
                    refine c_skip ?_
                    refine n_of (N' := NN42) nn42 ?_
                    refine c_seq fun NN45 nn45 => ?_
                    refine c_region fun KK46 kk46 => ?_
                    refine ⟨rfl, _, _, (s27 _ _ (by ((try dsimp only); first | assumption | omega | (simp (disch := omega) only [wr64]; omega))) _ _), ?_⟩
                    refine ⟨rfl, _, _, (s48 _ _ _ _ _ _), ?_⟩
                    refine n_of (N' := KK46) kk46 ?_
                    refine n_of (N' := NN45) nn45 ?_
                    refine c_seq fun NN47 nn47 => ?_
                    refine c_seq fun NN48 nn48 => ?_
                    refine c_region fun KK49 kk49 => ?_
                    refine ⟨rfl, _, _, (s29 _ _ _ _ _), ?_⟩
                    refine And.intro (fun h9 => ?_) (fun h9 => ?_)
                    · skip
                      (first | (cases h9; done) | exact bnn h9 | (have q := of_decide_eq_true h9; exfalso; omega) | exact absurd rfl (ne_of_bneT h9))
                    · skip
                      refine n_of (N' := KK49) kk49 ?_
                      refine n_of (N' := NN48) nn48 ?_
                      refine c_cond rfl (fun h10 => ?_) (fun h10 => ?_)
                      · skip
                        (first | (cases h10; done) | exact bnn h10 | (have q := of_decide_eq_true h10; exfalso; omega) | exact absurd rfl (ne_of_bneT h10))
                      · skip
                        refine c_skip ?_
                        refine n_of (N' := NN47) nn47 ?_
                        refine c_seq fun NN50 nn50 => ?_
                        refine c_region fun KK51 kk51 => ?_
                        refine n_of (N' := KK51) kk51 ?_
                        refine n_of (N' := NN50) nn50 ?_
                        refine c_seq fun NN52 nn52 => ?_
                        refine c_region fun KK53 kk53 => ?_
                        refine ⟨rfl, _, _, (s42 _ _ _ _ _ (by ((try dsimp only); first | assumption | omega | (simp (disch := omega) only [wr64]; omega))) (by ((try dsimp only); first | assumption | omega | (simp (disch := omega) only [wr64]; omega))) (by ((try dsimp only); first | assumption | omega | (simp (disch := omega) only [wr64]; omega)))), ?_⟩
                        refine n_of (N' := KK53) kk53 ?_
                        refine n_of (N' := NN52) nn52 ?_
                        refine c_seq fun NN54 nn54 => ?_
                        refine c_seq fun NN55 nn55 => ?_
                        refine c_region fun KK56 kk56 => ?_
                        refine n_of (N' := KK56) kk56 ?_
                        refine n_of (N' := NN55) nn55 ?_
                        refine c_cond rfl (fun h11 => ?_) (fun h11 => ?_)
                        · skip
                          (first | (cases h11; done) | exact bnn h11 | (have q := of_decide_eq_true h11; exfalso; omega) | exact absurd rfl (ne_of_bneT h11))
                        · skip
                          have q11 := of_decide_eq_false h11
                          (try dsimp only at q11)
                          (try simp only [Dat.len] at q11)
                          refine c_skip ?_
                          refine n_of (N' := NN54) nn54 ?_
                          refine c_seq fun NN57 nn57 => ?_
                          refine c_seq fun NN58 nn58 => ?_
                          refine c_region fun KK59 kk59 => ?_
                          refine n_of (N' := KK59) kk59 ?_
                          refine n_of (N' := NN58) nn58 ?_
                          refine c_cond rfl (fun h12 => ?_) (fun h12 => ?_)
                          · skip
                            (first | (cases h12; done) | exact bnn h12 | (have q := of_decide_eq_true h12; exfalso; omega) | exact absurd rfl (ne_of_bneT h12))
                          · skip
                            have q12 := eq_of_bneF h12
                            (try dsimp only at q12)
                            (try simp only [Dat.len] at q12)
                            refine c_skip ?_
                            refine n_of (N' := NN57) nn57 ?_
                            refine c_seq fun NN60 nn60 => ?_
                            refine c_region fun KK61 kk61 => ?_
                            refine n_of (N' := KK61) kk61 ?_
                            refine n_of (N' := NN60) nn60 ?_
                            refine c_ret ?_
                            refine n_of (N' := R0) hR ?_
                            exact ⟨[], rfl, rfl, rfl⟩

theorem s13 (o : Bool) (xs : List Nat) (w h : Int) (z : Nat) : SP 13 [ar o xs] [bas w h 0, f32 z] [ar o xs] (exb true) := by
  refine spec_of_codeR (fn := Try.f13) tyOK mixes Try.func13 rfl rfl rfl ⟨.inl rfl, rfl⟩ fun hg R0 hR => ?_
  have hR1 : (gR (okscale w h xs z) (Rscale xs z)).length ≤ 256 := gR_len fun hb => isB_len256 (w := w) (h := h) (by unfold okscale at hb; simp only [Bool.and_eq_true] at hb; exact hb.2.2)
  refine c_seq fun NN1 nn1 => ?_
  refine c_region fun KK2 kk2 => ?_
  refine n_of (N' := KK2) kk2 ?_
  refine n_of (N' := NN1) nn1 ?_
  refine c_seq fun NN3 nn3 => ?_
  refine c_region fun KK4 kk4 => ?_
  refine n_of (N' := KK4) kk4 ?_
  refine n_of (N' := NN3) nn3 ?_
  refine c_seq fun NN5 nn5 => ?_
  refine c_region fun KK6 kk6 => ?_
  refine ⟨rfl, _, _, (s25 _ _ _ _ _), ?_⟩
  refine n_of (N' := KK6) kk6 ?_
  refine n_of (N' := NN5) nn5 ?_
  refine c_seq fun NN7 nn7 => ?_
  refine c_seq fun NN8 nn8 => ?_
  refine c_region fun KK9 kk9 => ?_
  refine n_of (N' := KK9) kk9 ?_
  refine n_of (N' := NN8) nn8 ?_
  refine c_cond rfl (fun h0 => ?_) (fun h0 => ?_)
  · skip
    have q0 := of_decide_eq_true h0
    (try dsimp only at q0)
    (try simp only [Dat.len] at q0)
    refine c_seq fun NN10 nn10 => ?_
    refine c_region fun KK11 kk11 => ?_
    refine n_of (N' := KK11) kk11 ?_
    refine n_of (N' := NN10) nn10 ?_
    refine c_ret ?_
    refine n_of (N' := R0) hR ?_
    exact ⟨[], rfl, rfl, rfl⟩
  · skip
    have q0 := of_decide_eq_false h0
    (try dsimp only at q0)
    (try simp only [Dat.len] at q0)
    have hn : xs.length ≤ 1048576 := sz_le h0 hg.1.1.1
    refine c_skip ?_
    refine n_of (N' := NN7) nn7 ?_
    refine c_seq fun NN12 nn12 => ?_
    refine c_region fun KK13 kk13 => ?_
    refine ⟨rfl, _, _, (s27 _ _ (by ((try dsimp only); first | assumption | omega | (simp (disch := omega) only [wr64]; omega))) _ _), ?_⟩
    refine ⟨rfl, _, _, (s51 _ _ _ _ _), ?_⟩
    refine n_of (N' := KK13) kk13 ?_
    refine n_of (N' := NN12) nn12 ?_
    refine c_seq fun NN14 nn14 => ?_
    refine c_region fun KK15 kk15 => ?_
    refine ⟨rfl, _, _, (s27 _ _ (by ((try dsimp only); first | assumption | omega | (simp (disch := omega) only [wr64]; omega))) _ _), ?_⟩
    refine n_of (N' := KK15) kk15 ?_
    refine n_of (N' := NN14) nn14 ?_
    refine c_seq fun NN16 nn16 => ?_
    refine c_region fun KK17 kk17 => ?_
    refine ⟨rfl, _, _, (s52 _ _ _ _ _), ?_⟩
    refine n_of (N' := KK17) kk17 ?_
    refine n_of (N' := NN16) nn16 ?_
    refine c_seq fun NN18 nn18 => ?_
    refine c_seq fun NN19 nn19 => ?_
    refine c_region fun KK20 kk20 => ?_
    refine ⟨rfl, _, _, (s29 _ _ _ _ _), ?_⟩
    refine And.intro (fun h1 => ?_) (fun h1 => ?_)
    · skip
      (first | (cases h1; done) | exact bnn h1 | (have q := of_decide_eq_true h1; exfalso; omega) | exact absurd rfl (ne_of_bneT h1))
    · skip
      refine n_of (N' := KK20) kk20 ?_
      refine n_of (N' := NN19) nn19 ?_
      refine c_cond rfl (fun h2 => ?_) (fun h2 => ?_)
      · skip
        (first | (cases h2; done) | exact bnn h2 | (have q := of_decide_eq_true h2; exfalso; omega) | exact absurd rfl (ne_of_bneT h2))
      · skip
        refine c_skip ?_
        refine n_of (N' := NN18) nn18 ?_
        refine c_seq fun NN21 nn21 => ?_
        refine c_seq fun NN22 nn22 => ?_
        refine c_draw 3 [0, 1, 2] (by kernel_rfl) fun KK23 kk23 => ?_
        refine ⟨rfl, _, _, (s27 _ _ (by ((try dsimp only); first | assumption | omega | (simp (disch := omega) only [wr64]; omega))) _ _), rfl, ?_⟩
        refine ⟨rfl, _, _, (s29 _ _ _ _ _), ?_⟩
        refine n_of (N' := KK23) kk23 ?_
        refine n_of (N' := NN22) nn22 ?_
        refine c_cond rfl (fun h3 => ?_) (fun h3 => ?_)
        · skip
          (first | (cases h3; done) | exact bnn h3 | (have q := of_decide_eq_true h3; exfalso; omega) | exact absurd rfl (ne_of_bneT h3))
        · skip
          refine c_skip ?_
          refine n_of (N' := NN21) nn21 ?_
          refine c_seq fun NN24 nn24 => ?_
          refine c_region fun KK25 kk25 => ?_
          refine n_of (N' := KK25) kk25 ?_
          refine n_of (N' := NN24) nn24 ?_
          refine c_seq fun NN26 nn26 => ?_
          refine c_region fun KK27 kk27 => ?_
          refine ⟨rfl, _, _, (s41 _ _ _ _ (by ((try dsimp only); first | assumption | omega | (simp (disch := omega) only [wr64]; omega))) (by ((try dsimp only); first | assumption | omega | (simp (disch := omega) only [wr64]; omega))) (by ((try dsimp only); first | assumption | omega | (simp (disch := omega) only [wr64]; omega)))), ?_⟩
          refine n_of (N' := KK27) kk27 ?_
          refine n_of (N' := NN26) nn26 ?_
          refine c_seq fun NN28 nn28 => ?_
          refine c_seq fun NN29 nn29 => ?_
          refine c_region fun KK30 kk30 => ?_
          refine And.intro (fun h4 => ?_) (fun h4 => ?_)
          · skip
            (first | (cases h4; done) | exact bnn h4 | (have q := of_decide_eq_true h4; exfalso; omega) | exact absurd rfl (ne_of_bneT h4))
          · skip
            have q4 := of_decide_eq_false h4
            (try dsimp only at q4)
            (try simp only [Dat.len] at q4)
            refine ⟨rfl, _, _, (s29 _ _ _ _ _), ?_⟩
            refine And.intro (fun h5 => ?_) (fun h5 => ?_)
            · skip
              (first | (cases h5; done) | exact bnn h5 | (have q := of_decide_eq_true h5; exfalso; omega) | exact absurd rfl (ne_of_bneT h5))
            · skip
              refine n_of (N' := KK30) kk30 ?_
              refine n_of (N' := NN29) nn29 ?_
              refine c_cond rfl (fun h6 => ?_) (fun h6 => ?_)
              · skip
                (first | (cases h6; done) | exact bnn h6 | (have q := of_decide_eq_true h6; exfalso; omega) | exact absurd rfl (ne_of_bneT h6))
              · skip
                refine c_skip ?_
                refine n_of (N' := NN28) nn28 ?_
                refine c_seq fun NN31 nn31 => ?_
                refine c_region fun KK32 kk32 => ?_
                refine n_of (N' := KK32) kk32 ?_
                refine n_of (N' := NN31) nn31 ?_
                refine c_seq fun NN33 nn33 => ?_
                refine c_region fun KK34 kk34 => ?_
                refine ⟨rfl, _, _, (s41 _ _ _ _ (by ((try dsimp only); first | assumption | omega | (simp (disch := omega) only [wr64]; omega))) (by ((try dsimp only); first | assumption | omega | (simp (disch := omega) only [wr64]; omega))) (by ((try dsimp only); first | assumption | omega | (simp (disch := omega) only [wr64]; omega)))), ?_⟩
                refine n_of (N' := KK34) kk34 ?_
                refine n_of (N' := NN33) nn33 ?_
                refine c_seq fun NN35 nn35 => ?_
                refine c_region fun KK36 kk36 => ?_
                refine n_of (N' := KK36) kk36 ?_
                refine n_of (N' := NN35) nn35 ?_
                refine c_seq fun NN37 nn37 => ?_
                refine c_region fun KK38 kk38 => ?_
                refine ⟨rfl, _, _, (s42 _ _ _ _ _ (by ((try dsimp only); first | assumption | omega | (simp (disch := omega) only [wr64]; omega))) (by ((try dsimp only); first | assumption | omega | (simp (disch := omega) only [wr64]; omega))) (by ((try dsimp only); first | assumption | omega | (simp (disch := omega) only [wr64]; omega)))), ?_⟩
                refine n_of (N' := KK38) kk38 ?_
                refine n_of (N' := NN37) nn37 ?_
                refine c_seq fun NN39 nn39 => ?_
                refine c_seq fun NN40 nn40 => ?_
                refine c_region fun KK41 kk41 => ?_
                refine n_of (N' := KK41) kk41 ?_
                refine n_of (N' := NN40) nn40 ?_
                refine c_cond rfl (fun h7 => ?_) (fun h7 => ?_)
                · skip
                  (first | (cases h7; done) | exact bnn h7 | (have q := of_decide_eq_true h7; exfalso; omega) | exact absurd rfl (ne_of_bneT h7))
                · skip
                  have q7 := of_decide_eq_false h7
                  (try dsimp only at q7)
                  (try simp only [Dat.len] at q7)
                  refine c_skip ?_
                  refine n_of (N' := NN39) nn39 ?_
                  refine c_seq fun NN42 nn42 => ?_
                  refine c_seq fun NN43 nn43 => ?_
                  refine c_region fun KK44 kk44 => ?_
                  refine n_of (N' := KK44) kk44 ?_
                  refine n_of (N' := NN43) nn43 ?_
                  refine c_cond rfl (fun h8 => ?_) (fun h8 => ?_)
                  · skip
                    (first | (cases h8; done) | exact bnn h8 | (have q := of_decide_eq_true h8; exfalso; omega) | exact absurd rfl (ne_of_bneT h8))
                  · skip
                    have q8 := eq_of_bneF h8
                    (try dsimp only at q8)
                    (try simp only [Dat.len] at q8)
                    refine c_skip ?_
                    refine n_of (N' := NN42) nn42 ?_
                    refine c_seq fun NN45 nn45 => ?_
                    refine c_region fun KK46 kk46 => ?_
                    refine ⟨rfl, _, _, (s27 _ _ (by ((try dsimp only); first | assumption | omega | (simp (disch := omega) only [wr64]; omega))) _ _), ?_⟩
                    refine ⟨rfl, _, _, (s52 _ _ _ _ _), ?_⟩
                    refine n_of (N' := KK46) kk46 ?_
                    refine n_of (N' := NN45) nn45 ?_
                    refine c_seq fun NN47 nn47 => ?_
                    refine c_seq fun NN48 nn48 => ?_
                    refine c_region fun KK49 kk49 => ?_
                    refine ⟨rfl, _, _, (s29 _ _ _ _ _), ?_⟩
                    refine And.intro (fun h9 => ?_) (fun h9 => ?_)
                    · skip
                      (first | (cases h9; done) | exact bnn h9 | (have q := of_decide_eq_true h9; exfalso; omega) | exact absurd rfl (ne_of_bneT h9))
                    · skip
                      refine n_of (N' := KK49) kk49 ?_
                      refine n_of (N' := NN48) nn48 ?_
                      refine c_cond rfl (fun h10 => ?_) (fun h10 => ?_)
                      · skip
                        (first | (cases h10; done) | exact bnn h10 | (have q := of_decide_eq_true h10; exfalso; omega) | exact absurd rfl (ne_of_bneT h10))
                      · skip
                        refine c_skip ?_
                        refine n_of (N' := NN47) nn47 ?_
                        refine c_seq fun NN50 nn50 => ?_
                        refine c_region fun KK51 kk51 => ?_
                        refine n_of (N' := KK51) kk51 ?_
                        refine n_of (N' := NN50) nn50 ?_
                        refine c_seq fun NN52 nn52 => ?_
                        refine c_region fun KK53 kk53 => ?_
                        refine ⟨rfl, _, _, (s42 _ _ _ _ _ (by ((try dsimp only); first | assumption | omega | (simp (disch := omega) only [wr64]; omega))) (by ((try dsimp only); first | assumption | omega | (simp (disch := omega) only [wr64]; omega))) (by ((try dsimp only); first | assumption | omega | (simp (disch := omega) only [wr64]; omega)))), ?_⟩
                        refine n_of (N' := KK53) kk53 ?_
                        refine n_of (N' := NN52) nn52 ?_
                        refine c_seq fun NN54 nn54 => ?_
                        refine c_seq fun NN55 nn55 => ?_
                        refine c_region fun KK56 kk56 => ?_
                        refine n_of (N' := KK56) kk56 ?_
                        refine n_of (N' := NN55) nn55 ?_
                        refine c_cond rfl (fun h11 => ?_) (fun h11 => ?_)
                        · skip
                          (first | (cases h11; done) | exact bnn h11 | (have q := of_decide_eq_true h11; exfalso; omega) | exact absurd rfl (ne_of_bneT h11))
                        · skip
                          have q11 := of_decide_eq_false h11
                          (try dsimp only at q11)
                          (try simp only [Dat.len] at q11)
                          refine c_skip ?_
                          refine n_of (N' := NN54) nn54 ?_
                          refine c_seq fun NN57 nn57 => ?_
                          refine c_seq fun NN58 nn58 => ?_
                          refine c_region fun KK59 kk59 => ?_
                          refine n_of (N' := KK59) kk59 ?_
                          refine n_of (N' := NN58) nn58 ?_
                          refine c_cond rfl (fun h12 => ?_) (fun h12 => ?_)
                          · skip
                            (first | (cases h12; done) | exact bnn h12 | (have q := of_decide_eq_true h12; exfalso; omega) | exact absurd rfl (ne_of_bneT h12))
                          · skip
                            have q12 := eq_of_bneF h12
                            (try dsimp only at q12)
                            (try simp only [Dat.len] at q12)
                            refine c_skip ?_
                            refine n_of (N' := NN57) nn57 ?_
                            refine c_seq fun NN60 nn60 => ?_
                            refine c_region fun KK61 kk61 => ?_
                            refine n_of (N' := KK61) kk61 ?_
                            refine n_of (N' := NN60) nn60 ?_
                            refine c_ret ?_
                            refine n_of (N' := R0) hR ?_
                            exact ⟨[], rfl, rfl, rfl⟩

theorem s17 (o : Bool) (xs : List Nat) (w h : Int) : SP 17 [ar o xs] [bas w h 0] [ar o xs] (exb true) := by
  refine spec_of_codeR (fn := Try.f17) tyOK mixes Try.func17 rfl rfl rfl ⟨.inl rfl, rfl⟩ fun hg R0 hR => ?_
  have hR1 : (gR (oklap w h xs) (grid w h (fun x y => Flap xs w h x y))).length ≤ 256 := gR_len fun hb => isB_len256 (w := w) (h := h) (by unfold oklap at hb; simp only [Bool.and_eq_true] at hb; exact hb.2)
  refine c_seq fun NN1 nn1 => ?_
  refine c_region fun KK2 kk2 => ?_
  refine n_of (N' := KK2) kk2 ?_
  refine n_of (N' := NN1) nn1 ?_
  refine c_seq fun NN3 nn3 => ?_
  refine c_region fun KK4 kk4 => ?_
  refine n_of (N' := KK4) kk4 ?_
  refine n_of (N' := NN3) nn3 ?_
  refine c_seq fun NN5 nn5 => ?_
  refine c_region fun KK6 kk6 => ?_
  refine ⟨rfl, _, _, (s25 _ _ _ _ _), ?_⟩
  refine n_of (N' := KK6) kk6 ?_
  refine n_of (N' := NN5) nn5 ?_
  refine c_seq fun NN7 nn7 => ?_
  refine c_seq fun NN8 nn8 => ?_
  refine c_region fun KK9 kk9 => ?_
  refine n_of (N' := KK9) kk9 ?_
  refine n_of (N' := NN8) nn8 ?_
  refine c_cond rfl (fun h0 => ?_) (fun h0 => ?_)
  · skip
    have q0 := of_decide_eq_true h0
    (try dsimp only at q0)
    (try simp only [Dat.len] at q0)
    refine c_seq fun NN10 nn10 => ?_
    refine c_region fun KK11 kk11 => ?_
    refine n_of (N' := KK11) kk11 ?_
    refine n_of (N' := NN10) nn10 ?_
    refine c_ret ?_
    refine n_of (N' := R0) hR ?_
    exact ⟨[], rfl, rfl, rfl⟩
  · skip
    have q0 := of_decide_eq_false h0
    (try dsimp only at q0)
    (try simp only [Dat.len] at q0)
    have hn : xs.length ≤ 1048576 := sz_le h0 hg.1.1.1
    refine c_skip ?_
    refine n_of (N' := NN7) nn7 ?_
    refine c_seq fun NN12 nn12 => ?_
    refine c_region fun KK13 kk13 => ?_
    refine ⟨rfl, _, _, (s27 _ _ (by ((try dsimp only); first | assumption | omega | (simp (disch := omega) only [wr64]; omega))) _ _), ?_⟩
    refine ⟨rfl, _, _, (s62 _ _ _ _), ?_⟩
    refine n_of (N' := KK13) kk13 ?_
    refine n_of (N' := NN12) nn12 ?_
    refine c_seq fun NN14 nn14 => ?_
    refine c_region fun KK15 kk15 => ?_
    refine ⟨rfl, _, _, (s27 _ _ (by ((try dsimp only); first | assumption | omega | (simp (disch := omega) only [wr64]; omega))) _ _), ?_⟩
    refine n_of (N' := KK15) kk15 ?_
    refine n_of (N' := NN14) nn14 ?_
    refine c_seq fun NN16 nn16 => ?_
    refine c_region fun KK17 kk17 => ?_
    refine ⟨rfl, _, _, (s63 _ _ _ _), ?_⟩
    refine n_of (N' := KK17) kk17 ?_
    refine n_of (N' := NN16) nn16 ?_
    refine c_seq fun NN18 nn18 => ?_
    refine c_seq fun NN19 nn19 => ?_
    refine c_region fun KK20 kk20 => ?_
    refine ⟨rfl, _, _, (s29 _ _ _ _ _), ?_⟩
    refine And.intro (fun h1 => ?_) (fun h1 => ?_)
    · skip
      (first | (cases h1; done) | exact bnn h1 | (have q := of_decide_eq_true h1; exfalso; omega) | exact absurd rfl (ne_of_bneT h1))
    · skip
      refine n_of (N' := KK20) kk20 ?_
      refine n_of (N' := NN19) nn19 ?_
      refine c_cond rfl (fun h2 => ?_) (fun h2 => ?_)
      · skip
        (first | (cases h2; done) | exact bnn h2 | (have q := of_decide_eq_true h2; exfalso; omega) | exact absurd rfl (ne_of_bneT h2))
      · skip
        refine c_skip ?_
        refine n_of (N' := NN18) nn18 ?_
        refine c_seq fun NN21 nn21 => ?_
        refine c_seq fun NN22 nn22 => ?_
        refine c_draw 3 [0, 1, 2] (by kernel_rfl) fun KK23 kk23 => ?_
        refine ⟨rfl, _, _, (s27 _ _ (by ((try dsimp only); first | assumption | omega | (simp (disch := omega) only [wr64]; omega))) _ _), rfl, ?_⟩
        refine ⟨rfl, _, _, (s29 _ _ _ _ _), ?_⟩
        refine n_of (N' := KK23) kk23 ?_
        refine n_of (N' := NN22) nn22 ?_
        refine c_cond rfl (fun h3 => ?_) (fun h3 => ?_)
        · skip
          (first | (cases h3; done) | exact bnn h3 | (have q := of_decide_eq_true h3; exfalso; omega) | exact absurd rfl (ne_of_bneT h3))
        · skip
          refine c_skip ?_
          refine n_of (N' := NN21) nn21 ?_
          refine c_seq fun NN24 nn24 => ?_
          refine c_region fun KK25 kk25 => ?_
          refine n_of (N' := KK25) kk25 ?_
          refine n_of (N' := NN24) nn24 ?_
          refine c_seq fun NN26 nn26 => ?_
          refine c_region fun KK27 kk27 => ?_
          refine ⟨rfl, _, _, (s41 _ _ _ _ (by ((try dsimp only); first | assumption | omega | (simp (disch := omega) only [wr64]; omega))) (by ((try dsimp only); first | assumption | omega | (simp (disch := omega) only [wr64]; omega))) (by ((try dsimp only); first | assumption | omega | (simp (disch := omega) only [wr64]; omega)))), ?_⟩
          refine n_of (N' := KK27) kk27 ?_
          refine n_of (N' := NN26) nn26 ?_
          refine c_seq fun NN28 nn28 => ?_
          refine c_seq fun NN29 nn29 => ?_
          refine c_region fun KK30 kk30 => ?_
          refine And.intro (fun h4 => ?_) (fun h4 => ?_)
          · skip
            (first | (cases h4; done) | exact bnn h4 | (have q := of_decide_eq_true h4; exfalso; omega) | exact absurd rfl (ne_of_bneT h4))
          · skip
            have q4 := of_decide_eq_false h4
            (try dsimp only at q4)
            (try simp only [Dat.len] at q4)
            refine ⟨rfl, _, _, (s29 _ _ _ _ _), ?_⟩
            refine And.intro (fun h5 => ?_) (fun h5 => ?_)
            · skip
              (first | (cases h5; done) | exact bnn h5 | (have q := of_decide_eq_true h5; exfalso; omega) | exact absurd rfl (ne_of_bneT h5))
            · skip
              refine n_of (N' := KK30) kk30 ?_
              refine n_of (N' := NN29) nn29 ?_
              refine c_cond rfl (fun h6 => ?_) (fun h6 => ?_)
              · skip
                (first | (cases h6; done) | exact bnn h6 | (have q := of_decide_eq_true h6; exfalso; omega) | exact absurd rfl (ne_of_bneT h6))
              · skip
                refine c_skip ?_
                refine n_of (N' := NN28) nn28 ?_
                refine c_seq fun NN31 nn31 => ?_
                refine c_region fun KK32 kk32 => ?_
                refine n_of (N' := KK32) kk32 ?_
                refine n_of (N' := NN31) nn31 ?_
                refine c_seq fun NN33 nn33 => ?_
                refine c_region fun KK34 kk34 => ?_
                refine ⟨rfl, _, _, (s41 _ _ _ _ (by ((try dsimp only); first | assumption | omega | (simp (disch := omega) only [wr64]; omega))) (by ((try dsimp only); first | assumption | omega | (simp (disch := omega) only [wr64]; omega))) (by ((try dsimp only); first | assumption | omega | (simp (disch := omega) only [wr64]; omega)))), ?_⟩
                refine n_of (N' := KK34) kk34 ?_
                refine n_of (N' := NN33) nn33 ?_
                refine c_seq fun NN35 nn35 => ?_
                refine c_region fun KK36 kk36 => ?_
                refine n_of (N' := KK36) kk36 ?_
                refine n_of (N' := NN35) nn35 ?_
                refine c_seq fun NN37 nn37 => ?_
                refine c_region fun KK38 kk38 => ?_
                refine ⟨rfl, _, _, (s42 _ _ _ _ _ (by ((try dsimp only); first | assumption | omega | (simp (disch := omega) only [wr64]; omega))) (by ((try dsimp only); first | assumption | omega | (simp (disch := omega) only [wr64]; omega))) (by ((try dsimp only); first | assumption | omega | (simp (disch := omega) only [wr64]; omega)))), ?_⟩
                refine n_of (N' := KK38) kk38 ?_
                refine n_of (N' := NN37) nn37 ?_
                refine c_seq fun NN39 nn39 => ?_
                refine c_seq fun NN40 nn40 => ?_
                refine c_region fun KK41 kk41 => ?_
                refine n_of (N' := KK41) kk41 ?_
                refine n_of (N' := NN40) nn40 ?_
                refine c_cond rfl (fun h7 => ?_) (fun h7 => ?_)
                · skip
                  (first | (cases h7; done) | exact bnn h7 | (have q := of_decide_eq_true h7; exfalso; omega) | exact absurd rfl (ne_of_bneT h7))
                · skip
                  have q7 := of_decide_eq_false h7
                  (try dsimp only at q7)
                  (try simp only [Dat.len] at q7)
                  refine c_skip ?_
                  refine n_of (N' := NN39) nn39 ?_
                  refine c_seq fun NN42 nn42 => ?_
                  refine c_seq fun NN43 nn43 => ?_
                  refine c_region fun KK44 kk44 => ?_
                  refine n_of (N' := KK44) kk44 ?_
                  refine n_of (N' := NN43) nn43 ?_
                  refine c_cond rfl (fun h8 => ?_) (fun h8 => ?_)
                  · skip
                    (first | (cases h8; done) | exact bnn h8 | (have q := of_decide_eq_true h8; exfalso; omega) | exact absurd rfl (ne_of_bneT h8))
                  · skip
                    have q8 := eq_of_bneF h8
                    (try dsimp only at q8)
                    (try simp only [Dat.len] at q8)
                    refine c_skip ?_
                    refine n_of (N' := NN42) nn42 ?_
                    refine c_seq fun NN45 nn45 => ?_
                    refine c_region fun KK46 kk46 => ?_
                    refine ⟨rfl, _, _, (s27 _ _ (by ((try dsimp only); first | assumption | omega | (simp (disch := omega) only [wr64]; omega))) _ _), ?_⟩
                    refine ⟨rfl, _, _, (s63 _ _ _ _), ?_⟩
                    refine n_of (N' := KK46) kk46 ?_
                    refine n_of (N' := NN45) nn45 ?_
                    refine c_seq fun NN47 nn47 => ?_
                    refine c_seq fun NN48 nn48 => ?_
                    refine c_region fun KK49 kk49 => ?_
                    refine ⟨rfl, _, _, (s29 _ _ _ _ _), ?_⟩
                    refine And.intro (fun h9 => ?_) (fun h9 => ?_)
                    · skip
                      (first | (cases h9; done) | exact bnn h9 | (have q := of_decide_eq_true h9; exfalso; omega) | exact absurd rfl (ne_of_bneT h9))
                    · skip
                      refine n_of (N' := KK49) kk49 ?_
                      refine n_of (N' := NN48) nn48 ?_
                      refine c_cond rfl (fun h10 => ?_) (fun h10 => ?_)
                      · skip
                        (first | (cases h10; done) | exact bnn h10 | (have q := of_decide_eq_true h10; exfalso; omega) | exact absurd rfl (ne_of_bneT h10))
                      · skip
                        refine c_skip ?_
                        refine n_of (N' := NN47) nn47 ?_
                        refine c_seq fun NN50 nn50 => ?_
                        refine c_region fun KK51 kk51 => ?_
                        refine n_of (N' := KK51) kk51 ?_
                        refine n_of (N' := NN50) nn50 ?_
                        refine c_seq fun NN52 nn52 => ?_
                        refine c_region fun KK53 kk53 => ?_
                        refine ⟨rfl, _, _, (s42 _ _ _ _ _ (by ((try dsimp only); first | assumption | omega | (simp (disch := omega) only [wr64]; omega))) (by ((try dsimp only); first | assumption | omega | (simp (disch := omega) only [wr64]; omega))) (by ((try dsimp only); first | assumption | omega | (simp (disch := omega) only [wr64]; omega)))), ?_⟩
                        refine n_of (N' := KK53) kk53 ?_
                        refine n_of (N' := NN52) nn52 ?_
                        refine c_seq fun NN54 nn54 => ?_
                        refine c_seq fun NN55 nn55 => ?_
                        refine c_region fun KK56 kk56 => ?_
                        refine n_of (N' := KK56) kk56 ?_
                        refine n_of (N' := NN55) nn55 ?_
                        refine c_cond rfl (fun h11 => ?_) (fun h11 => ?_)
                        · skip
                          (first | (cases h11; done) | exact bnn h11 | (have q := of_decide_eq_true h11; exfalso; omega) | exact absurd rfl (ne_of_bneT h11))
                        · skip
                          have q11 := of_decide_eq_false h11
                          (try dsimp only at q11)
                          (try simp only [Dat.len] at q11)
                          refine c_skip ?_
                          refine n_of (N' := NN54) nn54 ?_
                          refine c_seq fun NN57 nn57 => ?_
                          refine c_seq fun NN58 nn58 => ?_
                          refine c_region fun KK59 kk59 => ?_
                          refine n_of (N' := KK59) kk59 ?_
                          refine n_of (N' := NN58) nn58 ?_
                          refine c_cond rfl (fun h12 => ?_) (fun h12 => ?_)
                          · skip
                            (first | (cases h12; done) | exact bnn h12 | (have q := of_decide_eq_true h12; exfalso; omega) | exact absurd rfl (ne_of_bneT h12))
                          · skip
                            have q12 := eq_of_bneF h12
                            (try dsimp only at q12)
                            (try simp only [Dat.len] at q12)
                            refine c_skip ?_
                            refine n_of (N' := NN57) nn57 ?_
                            refine c_seq fun NN60 nn60 => ?_
                            refine c_region fun KK61 kk61 => ?_
                            refine n_of (N' := KK61) kk61 ?_
                            refine n_of (N' := NN60) nn60 ?_
                            refine c_ret ?_
                            refine n_of (N' := R0) hR ?_
                            exact ⟨[], rfl, rfl, rfl⟩

end
end Go.AX