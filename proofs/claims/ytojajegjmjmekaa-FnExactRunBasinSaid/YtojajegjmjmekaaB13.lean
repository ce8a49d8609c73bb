/- What the functions of this program do, one contract a function, by that walk: each under what its own statement says. -/
import Derived.Test.YtojajegjmjmekaaB12
set_option linter.unusedVariables false
set_option linter.unusedSimpArgs false
namespace Go.AX
noncomputable section
open Go.RowKit Go.Proofs
set_option maxRecDepth 100000
set_option maxHeartbeats 4000000

/-! EvenOut -/
def mean (xs : List Nat) : Nat := fop .quo .f32 (acc gT xs xs.length) (fint .f32 xs.length)
def Fev (xs : List Nat) (z : Nat) (w h x y : Int) : Nat := fop .sub .f32 (atV xs w h x y) z
def Reven (xs : List Nat) : List Nat := bld (fun i => fop .sub .f32 (xs.getD i 0) (mean xs)) xs.length
def okeven (w h : Int) (xs : List Nat) : Bool := isB w h xs && isB w h (Reven xs)
theorem grid_even {W H : Nat} {xs : List Nat} (z : Nat) (w1 : 3 ≤ W) (hl : xs.length = W * H) : grid W H (fun x y => Fev xs z W H x y) = bld (fun i => fop .sub .f32 (xs.getD i 0) z) xs.length := by
  rw [hl, grid_own (xs := xs) (fun _ v => fop .sub .f32 v z) w1 _ fun i _ => rfl]
theorem even_not {w h : Int} {xs : List Nat} (hb : isB w h xs = true) (ht : finB (acc gT xs xs.length) = false) : isB w h (Reven xs) = false := by
  refine isB_not (bld_not 0 (by have := isB_pos hb; omega) ?_)
  rw [finB_num]
  rw [finB_num] at ht
  exact num_sub_r (num_quo_l ht)

/-! BlobBasin -/
def gap (a b : Nat) (n : Int) : Nat := bif fcmp .gtr .f32 (fop .sub .f32 a b) (fop .quo .f32 (fint .f32 n) (cn .f32 1073741824)) then fop .sub .f32 (fop .sub .f32 a b) (fint .f32 n)
  else bif fcmp .lss .f32 (fop .sub .f32 a b) (fneg .f32 (fop .quo .f32 (fint .f32 n) (cn .f32 1073741824))) then fop .add .f32 (fop .sub .f32 a b) (fint .f32 n) else fop .sub .f32 a b
def Fblob (x y r s : Nat) (w h i j : Int) : Nat := bif fcmp .leq .f32 (fop .add .f32 (fop .mul .f32 (gap (fint .f32 i) x w) (gap (fint .f32 i) x w)) (fop .mul .f32 (gap (fint .f32 j) y h) (gap (fint .f32 j) y h))) (fop .mul .f32 r r) then s else cn .f32 0
def okblob (w h : Int) (x y r s : Nat) : Bool := sizeB w h && ((finB x && (finB y && (finB r && finB s))) && isB w h (grid w h (fun i j => Fblob x y r s w h i j)))

/-! Basins of one size -/
def al (w h : Int) (xs : List Nat) (w2 k2 : Int) : Bool := isB w h xs && ((w == w2) && (h == k2))
def fi2 (a b : Bool) : Int := bif a then (bif b then -1 else 1) else 0
theorem fi2_ge (a b : Bool) : (!(decide (fi2 a b ≥ 0))) = (a && b) := by cases a <;> cases b <;> rfl
theorem al_self (w h : Int) (xs : List Nat) : al w h xs w h = isB w h xs := by unfold al; simp
theorem al_two (w h : Int) (xs : List Nat) (w2 k2 : Int) (ys : List Nat) : (al w h xs w h && al w2 k2 ys w h) = two w h xs w2 k2 ys := by
  rw [al_self]; unfold al two
  have e1 : (w2 == w) = (w == w2) := by rw [Bool.eq_iff_iff, beq_iff_eq, beq_iff_eq]; exact ⟨Eq.symm, Eq.symm⟩
  have e2 : (k2 == h) = (h == k2) := by rw [Bool.eq_iff_iff, beq_iff_eq, beq_iff_eq]; exact ⟨Eq.symm, Eq.symm⟩
  rw [e1, e2]
theorem bneq {a b : Int} (h : (a != b) = true) : (a == b) = false := by simpa [bne] using h
theorem bneqF {a b : Int} (h : (a != b) = false) : (a == b) = true := by simpa [bne] using h

theorem s123 (o : Bool) (xs : List Nat) (W H : Nat) (w1 : 3 ≤ W) (w2 : W ≤ 16) (w3 : 3 ≤ H) (w4 : H ≤ 16) (hl : xs.length = W * H) (z : Nat) (x y : Int) : SP 123 [basV W H 2, .var 32 [.fl .f32 z], ar o xs] [i64 x, i64 y, .one (.pv 0 0), .one (.pv 1 0)] [basV W H 2, .var 32 [.fl .f32 z], ar o xs] (fl32 (Fev xs z W H x y)) := by
  refine spec_of_codeR (fn := Try.f123) tyOK mixes Try.func123 rfl rfl rfl ⟨.inl rfl, ⟨.inl rfl, ⟨.inl rfl, rfl⟩⟩⟩ fun hg R0 hR => ?_
  refine c_seq fun NN1 nn1 => ?_
  refine c_region fun KK2 kk2 => ?_
  refine n_of (N' := KK2) kk2 ?_
  refine n_of (N' := NN1) nn1 ?_
  refine c_seq fun NN3 nn3 => ?_
  refine c_draw 4 [0, 1, 3, 2] (by kernel_rfl) fun KK4 kk4 => ?_
  refine ⟨rfl, _, _, (s103 _ _ _ _ (by ((try dsimp only); first | assumption | omega | (simp (disch := omega) only [wr64]; omega))) (by ((try dsimp only); first | assumption | omega | (simp (disch := omega) only [wr64]; omega))) (by ((try dsimp only); first | assumption | omega | (simp (disch := omega) only [wr64]; omega))) (by ((try dsimp only); first | assumption | omega | (simp (disch := omega) only [wr64]; omega))) (by ((try dsimp only); first | assumption | omega | (simp (disch := omega) only [wr64]; omega))) _ _), rfl, ?_⟩
  refine n_of (N' := KK4) kk4 ?_
  refine n_of (N' := NN3) nn3 ?_
  refine c_ret ?_
  refine n_of (N' := R0) hR ?_
  exact ⟨[], rfl, rfl, rfl⟩

theorem s95even (o : Bool) (xs : List Nat) (W H : Nat) (w1 : 3 ≤ W) (w2 : W ≤ 16) (w3 : 3 ≤ H) (w4 : H ≤ 16) (hl : xs.length = W * H) (z : Nat) : SP 95 [basV W H 2, .var 32 [.fl .f32 z], ar o xs] [i64 W, i64 H, .one (.fn 123 [] [0, 1])] [basV W H 2, .var 32 [.fl .f32 z], ar o xs, ar true (grid W H (fun x y => Fev xs z W H x y))] (.v (bas W H 3)) := by
  refine spec_of_codeR (fn := Try.f95) tyOK mixes Try.func95 rfl rfl rfl ⟨.inl rfl, ⟨.inl rfl, ⟨.inl rfl, rfl⟩⟩⟩ fun hg R0 hR => ?_
  have hWH : W * H ≤ 256 := (by have := Nat.mul_le_mul w2 w4; omega)
  have hwr := wrWH hWH
  rw [gridN] at hR
  refine c_seq fun NN1 nn1 => ?_
  refine c_region fun KK2 kk2 => ?_
  refine n_of (N' := KK2) kk2 ?_
  refine n_of (N' := NN1) nn1 ?_
  refine c_seq fun NN3 nn3 => ?_
  refine c_region fun KK4 kk4 => ?_
  refine n_of (N' := KK4) kk4 ?_
  refine n_of (N' := NN3) nn3 ?_
  refine c_seq fun NN5 nn5 => ?_
  refine c_seq fun NN6 nn6 => ?_
  refine c_region fun KK7 kk7 => ?_
  refine n_of (N' := KK7) kk7 ?_
  refine n_of (N' := NN6) nn6 ?_
  refine c_block fun XX8 xx8 => ?_
  refine loop_keep [.c 4 2 32 (.f [])] [0, 2, 6, 7, 13] (ι := { i : Nat // i ≤ H }) (fun i => [(14, exi .i64 i.1)]) (fun i => [(5, ar true (bld (fun t => (fun x y => Fev xs z W H x y) ((t % W : Nat) : Int) ((t / W : Nat) : Int)) (i.1 * W)))]) (fun i => H - i.1) ⟨0, Nat.zero_le _⟩ ⟨rfl, trivial⟩ rfl ?_
  refine ⟨?_, ?_, ?_⟩
  · exact ⟨.inr rfl, trivial⟩
  · exact ⟨rfl, rfl, rfl, rfl, rfl, congrArg (ar true) (by simp [bld]), trivial⟩
  refine fun ⟨y, hy⟩ NL9 nl9 => ?_
  refine c_norm rfl rfl ?_
  refine c_seq fun NN10 nn10 => ?_
  refine c_region fun KK11 kk11 => ?_
  refine n_of (N' := KK11) kk11 ?_
  refine n_of (N' := NN10) nn10 ?_
  refine c_seq fun NN12 nn12 => ?_
  refine c_cond rfl (fun h0 => ?_) (fun h0 => ?_)
  · skip
    have q0 := of_decide_eq_true h0
    (try dsimp only at q0)
    (try simp only [Dat.len, bld_len, List.length_cons, List.length_nil] at q0)
    refine c_skip ?_
    refine n_of (N' := NN12) nn12 ?_
    refine c_seq fun NN13 nn13 => ?_
    refine c_block fun XX14 xx14 => ?_
    refine c_seq fun NN15 nn15 => ?_
    refine c_region fun KK16 kk16 => ?_
    refine n_of (N' := KK16) kk16 ?_
    refine n_of (N' := NN15) nn15 ?_
    refine c_seq fun NN17 nn17 => ?_
    refine c_region fun KK18 kk18 => ?_
    refine n_of (N' := KK18) kk18 ?_
    refine n_of (N' := NN17) nn17 ?_
    refine c_block fun XX19 xx19 => ?_
    refine loop_keep [] [0, 2, 6, 7, 8, 13, 14, 17] (ι := { i : Nat // i ≤ W }) (fun i => [(18, exi .i64 i.1)]) (fun i => [(5, ar true (bld (fun t => (fun x y => Fev xs z W H x y) ((t % W : Nat) : Int) ((t / W : Nat) : Int)) (y * W + i.1)))]) (fun i => W - i.1) ⟨0, Nat.zero_le _⟩ trivial rfl ?_
    refine ⟨?_, ?_, ?_⟩
    · exact ⟨.inr rfl, trivial⟩
    · exact ⟨rfl, rfl, rfl, rfl, rfl, rfl, trivial⟩
    refine fun ⟨x, hx⟩ NL20 nl20 => ?_
    refine c_norm rfl rfl ?_
    have hyx : y * W + x ≤ 256 := Nat.le_trans (Nat.add_le_add (Nat.mul_le_mul_right W (show y ≤ 15 by omega)) hx) (by omega)
    refine c_seq fun NN21 nn21 => ?_
    refine c_region fun KK22 kk22 => ?_
    refine n_of (N' := KK22) kk22 ?_
    refine n_of (N' := NN21) nn21 ?_
    refine c_seq fun NN23 nn23 => ?_
    refine c_cond rfl (fun h1 => ?_) (fun h1 => ?_)
    · skip
      have q1 := of_decide_eq_true h1
      (try dsimp only at q1)
      (try simp only [Dat.len, bld_len, List.length_cons, List.length_nil] at q1)
      refine c_skip ?_
      refine n_of (N' := NN23) nn23 ?_
      refine c_seq fun NN24 nn24 => ?_
      refine c_block fun XX25 xx25 => ?_
      refine c_seq fun NN26 nn26 => ?_
      refine c_region fun KK27 kk27 => ?_
      refine n_of (N' := KK27) kk27 ?_
      refine n_of (N' := NN26) nn26 ?_
      refine c_draw 7 [0, 1, 2, 3, 4, 5, 6] (by kernel_rfl) fun KK28 kk28 => ?_
      refine ⟨rfl, _, _, s123 _ _ _ _ w1 w2 w3 w4 hl _ _ _, rfl, ?_⟩
      refine And.intro ?_ ?_
      · (refine ⟨?_, by decide⟩; (try dsimp only); (try simp only [Dat.len, bld_len, List.length_append, List.length_cons, List.length_nil]); omega)   -- 0 append
      refine n_of (N' := KK28) kk28 ?_
      refine n_of (N' := NN24) nn24 ?_
      refine c_region fun KK29 kk29 => ?_
      refine n_of (N' := KK29) kk29 ?_
      refine n_of (N' := NL20) nl20 ?_
      refine ⟨⟨x + 1, by omega⟩, ?_, [0, 1, 2, 3, 4, 5], rfl, ?_, ?_⟩
      · (dsimp only; omega)
      · exact LEq.eq ⟨rfl, rfl, rfl, rfl, rfl, congrArg (fun z => ar true (bld _ (y * W + x) ++ [z])) (grid_row (fun x y => Fev xs z W H x y) (W := W) (x := x) (y := y) (by omega)).symm, trivial⟩
      · exact ⟨.inr (congrArg (exi .i64) (wr64 (n := (x : Int) + 1) (by omega) (by omega))), .inr rfl, .inr rfl, .inr rfl, .inr rfl, .inr rfl, .inr rfl, .inr rfl, .inr rfl, trivial⟩
    · skip
      have q1 := of_decide_eq_false h1
      (try dsimp only at q1)
      (try simp only [Dat.len, bld_len, List.length_cons, List.length_nil] at q1)
      refine c_exit ?_
      refine x_here xx19 ?_
      refine n_of (N' := NN13) nn13 ?_
      refine c_region fun KK30 kk30 => ?_
      refine n_of (N' := KK30) kk30 ?_
      refine n_of (N' := NL9) nl9 ?_
      refine ⟨⟨y + 1, by omega⟩, ?_, [0, 1, 2, 3, 4, 5], rfl, ?_, ?_⟩
      · (dsimp only; omega)
      · exact LEq.eq ⟨rfl, rfl, rfl, rfl, rfl, congrArg (ar true) (congrArg (bld _) (by (try dsimp only); rw [Nat.add_mul]; omega)), trivial⟩
      · exact ⟨.inr (congrArg (exi .i64) (wr64 (n := (y : Int) + 1) (by omega) (by omega))), .inr rfl, .inr rfl, .inr rfl, .inr rfl, .inr rfl, trivial⟩
  · skip
    have q0 := of_decide_eq_false h0
    (try dsimp only at q0)
    (try simp only [Dat.len, bld_len, List.length_cons, List.length_nil] at q0)
    refine c_exit ?_
    refine x_here xx8 ?_
    refine n_of (N' := NN5) nn5 ?_
    refine c_seq fun NN31 nn31 => ?_
    refine c_region fun KK32 kk32 => ?_
    refine n_of (N' := KK32) kk32 ?_
    refine n_of (N' := NN31) nn31 ?_
    refine c_ret ?_
    refine n_of (N' := R0) hR ?_
    have e : y = H := by omega
    subst e
    exact ⟨[], rfl, by rw [Nat.mul_comm], rfl⟩

theorem s101even (o : Bool) (xs : List Nat) (z : Nat) (w h : Int) : SP 101 [ar o xs, basV w h 0, .var 32 [.fl .f32 z]] [bas w h 0, .one (.fn 123 [] [1, 2])] [ar o xs, basV w h 0, .var 32 [.fl .f32 z], ar true (gR (isB w h xs && isB w h (grid w h (fun x y => Fev xs z w h x y))) (grid w h (fun x y => Fev xs z w h x y)))] (toldB (isB w h xs && isB w h (grid w h (fun x y => Fev xs z w h x y))) w h 3) := by
  refine spec_of_codeR (fn := Try.f101) tyOK mixes Try.func101 rfl rfl rfl ⟨.inl rfl, ⟨.inl rfl, ⟨.inl rfl, rfl⟩⟩⟩ fun hg R0 hR => ?_
  refine c_seq fun NN1 nn1 => ?_
  refine c_region fun KK2 kk2 => ?_
  refine n_of (N' := KK2) kk2 ?_
  refine n_of (N' := NN1) nn1 ?_
  refine c_seq fun NN3 nn3 => ?_
  refine c_seq fun NN4 nn4 => ?_
  refine c_region fun KK5 kk5 => ?_
  refine ⟨rfl, _, _, (s28 _ _ _ _), ?_⟩
  refine n_of (N' := KK5) kk5 ?_
  refine n_of (N' := NN4) nn4 ?_
  refine c_cond rfl (fun h0 => ?_) (fun h0 => ?_)
  · skip
    refine c_seq fun NN6 nn6 => ?_
    refine c_region fun KK7 kk7 => ?_
    refine n_of (N' := KK7) kk7 ?_
    refine n_of (N' := NN6) nn6 ?_
    refine c_ret ?_
    refine n_of (N' := R0) hR ?_
    have ok : (isB w h xs && isB w h (grid w h (fun x y => Fev xs z w h x y))) = false := by rw [not_t h0]; rfl
    exact ⟨[.nil 32 (.f [])], rfl, rfl, by rw [ok]; rfl, by rw [ok]; rfl⟩
  · skip
    have hb := not_f h0
    obtain ⟨W, H, rfl, rfl, w1, w2, w3, w4, hl, hWH⟩ := isB_nat hb
    
    refine c_skip ?_
    refine n_of (N' := NN3) nn3 ?_
    refine c_seq fun NN8 nn8 => ?_
    refine c_region fun KK9 kk9 => ?_
    refine ⟨rfl, _, _, s95even _ _ _ _ w1 w2 w3 w4 hl _, ?_⟩
    refine ⟨rfl, _, _, (s94 _ _ _), ?_⟩
    refine n_of (N' := KK9) kk9 ?_
    refine n_of (N' := NN8) nn8 ?_
    refine c_ret ?_
    refine n_of (N' := R0) hR ?_
    have ok : (isB W H xs && isB W H (grid W H (fun x y => Fev xs z W H x y))) = isB W H (grid W H (fun x y => Fev xs z W H x y)) := by rw [hb]; rfl
    exact ⟨[], rfl, by rw [ok], by rw [ok]⟩

theorem s122 (o : Bool) (xs : List Nat) (w h : Int) (hb : isB w h xs = true) : SP 122 [basV w h 1, ar o xs] [.one (.pv 0 0)] [basV w h 1, ar o xs, ar true (gR (okeven w h xs) (Reven xs))] (toldB (okeven w h xs) w h 2) := by
  refine spec_of_codeR (fn := Try.f122) tyOK mixes Try.func122 rfl rfl rfl ⟨.inl rfl, ⟨.inl rfl, rfl⟩⟩ fun hg R0 hR => ?_
  have hlx := isB_pos hb
  refine c_seq fun NN1 nn1 => ?_
  refine c_region fun KK2 kk2 => ?_
  refine n_of (N' := KK2) kk2 ?_
  refine n_of (N' := NN1) nn1 ?_
  refine c_seq fun NN3 nn3 => ?_
  refine c_region fun KK4 kk4 => ?_
  refine ⟨rfl, _, _, (s89 _ _ _ _), ?_⟩
  refine n_of (N' := KK4) kk4 ?_
  refine n_of (N' := NN3) nn3 ?_
  refine c_seq fun NN5 nn5 => ?_
  refine c_seq fun NN6 nn6 => ?_
  refine c_region fun KK7 kk7 => ?_
  refine ⟨rfl, _, _, (s107 _), ?_⟩
  refine n_of (N' := KK7) kk7 ?_
  refine n_of (N' := NN6) nn6 ?_
  refine c_cond rfl (fun h0 => ?_) (fun h0 => ?_)
  · skip
    refine c_seq fun NN8 nn8 => ?_
    refine c_region fun KK9 kk9 => ?_
    refine n_of (N' := KK9) kk9 ?_
    refine n_of (N' := NN8) nn8 ?_
    refine c_ret ?_
    refine n_of (N' := R0) hR ?_
    have ok : okeven w h xs = false := by unfold okeven; rw [even_not hb (not_t h0)]; simp
    exact ⟨[.nil 32 (.f [])], rfl, rfl, by rw [ok]; rfl, by rw [ok]; rfl⟩
  · skip
    refine c_skip ?_
    refine n_of (N' := NN5) nn5 ?_
    refine c_seq fun NN10 nn10 => ?_
    refine c_region fun KK11 kk11 => ?_
    refine n_of (N' := KK11) kk11 ?_
    refine n_of (N' := NN10) nn10 ?_
    refine c_seq fun NN12 nn12 => ?_
    refine c_draw2 10 9 6 [0, 1, 2, 3, 4, 5, 6, 7, 8] (by kernel_rfl) fun KK13 kk13 => ?_
    refine ⟨rfl, _, _, (s99 _ _), rfl, ?_⟩
    refine n_of (N' := KK13) kk13 ?_
    refine n_of (N' := NN12) nn12 ?_
    refine c_seq fun NN14 nn14 => ?_
    refine c_seq fun NN15 nn15 => ?_
    refine c_region fun KK16 kk16 => ?_
    refine n_of (N' := KK16) kk16 ?_
    refine n_of (N' := NN15) nn15 ?_
    refine c_block fun XX17 xx17 => ?_
    refine loop_keep [] [0, 2, 5, 6] (ι := { i : Nat // i ≤ xs.length }) (fun i => [(7, exi .i64 i.1)]) (fun i => [(3, ar true (bld (fun i => fop .sub .f32 (xs.getD i 0) (mean xs)) i.1))]) (fun i => xs.length - i.1) ⟨0, Nat.zero_le _⟩ trivial rfl ?_
    refine ⟨?_, ?_, ?_⟩
    · exact ⟨.inr rfl, trivial⟩
    · exact ⟨rfl, rfl, rfl, rfl, rfl, trivial⟩
    refine fun ⟨i, hi⟩ NL18 nl18 => ?_
    refine c_norm rfl rfl ?_
    refine c_seq fun NN19 nn19 => ?_
    refine c_seq fun NN20 nn20 => ?_
    refine c_region fun KK21 kk21 => ?_
    refine n_of (N' := KK21) kk21 ?_
    refine n_of (N' := NN20) nn20 ?_
    refine c_cond rfl (fun h1 => ?_) (fun h1 => ?_)
    · skip
      have q1 := of_decide_eq_true h1
      (try dsimp only at q1)
      (try simp only [Dat.len, bld_len, List.length_cons, List.length_nil] at q1)
      refine c_skip ?_
      refine n_of (N' := NN19) nn19 ?_
      refine c_seq fun NN22 nn22 => ?_
      refine c_block fun XX23 xx23 => ?_
      refine c_draw 12 [0, 1, 2, 3, 4, 5, 6, 7, 8, 9, 10, 11] (by kernel_rfl) fun KK24 kk24 => ?_
      refine And.intro ?_ ?_
      · ((try dsimp only); (try simp only [Dat.len, Int.toNat_natCast, bld_len, List.length_cons, List.length_nil]); omega)   -- 0 index
      refine And.intro ?_ ?_
      · ((try dsimp only); (try simp only [Dat.len, Int.toNat_natCast, bld_len, List.length_cons, List.length_nil]); omega)   -- 1 load
      refine And.intro ?_ ?_
      · (refine ⟨?_, by decide⟩; (try dsimp only); (try simp only [Dat.len, Int.toNat_natCast, bld_len, List.length_cons, List.length_nil]); omega)   -- 2 append
      refine n_of (N' := KK24) kk24 ?_
      refine n_of (N' := NN22) nn22 ?_
      refine c_region fun KK25 kk25 => ?_
      refine n_of (N' := KK25) kk25 ?_
      refine n_of (N' := NL18) nl18 ?_
      refine ⟨⟨i + 1, by omega⟩, ?_, [0, 1, 2, 3, 4], rfl, ?_, ?_⟩
      · (dsimp only; omega)
      · exact LEq.eq ⟨rfl, rfl, rfl, rfl, rfl, trivial⟩
      · exact ⟨.inr (congrArg (exi .i64) (wr64 (n := (i : Int) + 1) (by omega) (by omega))), .inr rfl, .inr rfl, .inr rfl, .inr rfl, trivial⟩
    · skip
      have q1 := of_decide_eq_false h1
      (try dsimp only at q1)
      (try simp only [Dat.len, bld_len, List.length_cons, List.length_nil] at q1)
      refine c_exit ?_
      refine x_here xx17 ?_
      refine n_of (N' := NN14) nn14 ?_
      refine c_seq fun NN26 nn26 => ?_
      refine c_region fun KK27 kk27 => ?_
      refine ⟨rfl, _, _, (s92 _ _ _), ?_⟩
      refine n_of (N' := KK27) kk27 ?_
      refine n_of (N' := NN26) nn26 ?_
      refine c_ret ?_
      refine n_of (N' := R0) hR ?_
      have e : i = xs.length := by omega
      subst e
      have ok : okeven w h xs = isB w h (Reven xs) := by unfold okeven; rw [hb]; rfl
      exact ⟨[], rfl, by rw [ok]; rfl, by rw [ok]; rfl⟩

theorem s64 (o : Bool) (xs : List Nat) (w h : Int) : SP 64 [ar o xs] [bas w h 0] [ar o xs, ar true (gR (okeven w h xs) (Reven xs))] (toldB (okeven w h xs) w h 1) := by
  refine spec_of_codeR (fn := Try.f64) tyOK mixes Try.func64 rfl rfl rfl ⟨.inl rfl, rfl⟩ fun hg R0 hR => ?_
  refine c_seq fun NN1 nn1 => ?_
  refine c_region fun KK2 kk2 => ?_
  refine n_of (N' := KK2) kk2 ?_
  refine n_of (N' := NN1) nn1 ?_
  refine c_seq fun NN3 nn3 => ?_
  refine c_seq fun NN4 nn4 => ?_
  refine c_region fun KK5 kk5 => ?_
  refine ⟨rfl, _, _, (s79 _ _ _ _), ?_⟩
  refine n_of (N' := KK5) kk5 ?_
  refine n_of (N' := NN4) nn4 ?_
  refine c_cond rfl (fun h0 => ?_) (fun h0 => ?_)
  · skip
    refine c_seq fun NN6 nn6 => ?_
    refine c_region fun KK7 kk7 => ?_
    refine n_of (N' := KK7) kk7 ?_
    refine n_of (N' := NN6) nn6 ?_
    refine c_ret ?_
    refine n_of (N' := R0) hR ?_
    have ok : okeven w h xs = false := by unfold okeven; rw [not_t h0]; rfl
    exact ⟨[.nil 32 (.f [])], rfl, rfl, by rw [ok]; rfl, by rw [ok]; rfl⟩
  · skip
    have hb := not_f h0
    refine c_skip ?_
    refine n_of (N' := NN3) nn3 ?_
    refine c_seq fun NN8 nn8 => ?_
    refine c_region fun KK9 kk9 => ?_
    refine ⟨rfl, _, _, (s122 _ _ _ _ (by ((try dsimp only); first | assumption | omega | (simp (disch := omega) only [wr64]; omega)))), ?_⟩
    refine n_of (N' := KK9) kk9 ?_
    refine n_of (N' := NN8) nn8 ?_
    refine c_ret ?_
    refine n_of (N' := R0) hR ?_
    exact ⟨[], rfl, rfl, rfl⟩

theorem s65 (o : Bool) (xs : List Nat) (w h : Int) : SP 65 [ar o xs] [bas w h 0] [ar o xs, ar true (gR (okeven w h xs) (Reven xs))] (toldB (okeven w h xs) w h 1) := by
  refine spec_of_codeR (fn := Try.f65) tyOK mixes Try.func65 rfl rfl rfl ⟨.inl rfl, rfl⟩ fun hg R0 hR => ?_
  refine c_seq fun NN1 nn1 => ?_
  refine c_region fun KK2 kk2 => ?_
  refine n_of (N' := KK2) kk2 ?_
  refine n_of (N' := NN1) nn1 ?_
  refine c_seq fun NN3 nn3 => ?_
  refine c_seq fun NN4 nn4 => ?_
  refine c_region fun KK5 kk5 => ?_
  refine ⟨rfl, _, _, (s28 _ _ _ _), ?_⟩
  refine n_of (N' := KK5) kk5 ?_
  refine n_of (N' := NN4) nn4 ?_
  refine c_cond rfl (fun h0 => ?_) (fun h0 => ?_)
  · skip
    refine c_seq fun NN6 nn6 => ?_
    refine c_region fun KK7 kk7 => ?_
    refine n_of (N' := KK7) kk7 ?_
    refine n_of (N' := NN6) nn6 ?_
    refine c_ret ?_
    refine n_of (N' := R0) hR ?_
    have ok : okeven w h xs = false := by unfold okeven; rw [not_t h0]; rfl
    exact ⟨[.nil 32 (.f [])], rfl, rfl, by rw [ok]; rfl, by rw [ok]; rfl⟩
  · skip
    have hb := not_f h0
    obtain ⟨W, H, rfl, rfl, w1, w2, w3, w4, hl, hWH⟩ := isB_nat hb
    refine c_skip ?_
    refine n_of (N' := NN3) nn3 ?_
    refine c_seq fun NN8 nn8 => ?_
    refine c_draw2 9 8 4 [0, 1, 3, 4, 5, 6, 2, 7] (by kernel_rfl) fun KK9 kk9 => ?_
    refine ⟨rfl, _, _, s90 _ _, rfl, ?_⟩
    refine n_of (N' := KK9) kk9 ?_
    refine n_of (N' := NN8) nn8 ?_
    refine c_seq fun NN10 nn10 => ?_
    refine c_region fun KK11 kk11 => ?_
    refine ⟨rfl, _, _, s101even _ _ _ _ _, ?_⟩
    refine n_of (N' := KK11) kk11 ?_
    refine n_of (N' := NN10) nn10 ?_
    refine c_ret ?_
    refine n_of (N' := R0) hR ?_
    have e := grid_even (W := W) (H := H) (mean xs) w1 hl
    exact ⟨[], rfl, by show _ = [_, ar true (gR (okeven W H xs) (Reven xs))]; unfold okeven Reven; rw [← e]; rfl, by unfold okeven Reven; rw [← e]; rfl⟩

theorem s18 (o : Bool) (xs : List Nat) (w h : Int) : SP 18 [ar o xs] [bas w h 0] [ar o xs] (exb true) := by
  refine spec_of_codeR (fn := Try.f18) tyOK mixes Try.func18 rfl rfl rfl ⟨.inl rfl, rfl⟩ fun hg R0 hR => ?_
  have hR1 : (gR (okeven w h xs) (Reven xs)).length ≤ 256 := gR_len fun hb => isB_len256 (w := w) (h := h) (by unfold okeven at hb; simp only [Bool.and_eq_true] at hb; exact hb.2)
  refine c_seq fun NN1 nn1 => ?_
  refine c_region fun KK2 kk2 => ?_
  refine n_of (N' := KK2) kk2 ?_
  refine n_of (N' := NN1) nn1 ?_
  refine c_seq fun NN3 nn3 => ?_
  refine c_region fun KK4 kk4 => ?_
  refine n_of (N' := KK4) kk4 ?_
  refine n_of (N' := NN3) nn3 ?_
  refine c_seq fun NN5 nn5 => ?_
  refine c_region fun KK6 kk6 => ?_
  refine ⟨rfl, _, _, (s25 _ _ _ _ _), ?_⟩
  refine n_of (N' := KK6) kk6 ?_
  refine n_of (N' := NN5) nn5 ?_
  refine c_seq fun NN7 nn7 => ?_
  refine c_seq fun NN8 nn8 => ?_
  refine c_region fun KK9 kk9 => ?_
  refine n_of (N' := KK9) kk9 ?_
  refine n_of (N' := NN8) nn8 ?_
  refine c_cond rfl (fun h0 => ?_) (fun h0 => ?_)
  · skip
    have q0 := of_decide_eq_true h0
    (try dsimp only at q0)
    (try simp only [Dat.len] at q0)
    refine c_seq fun NN10 nn10 => ?_
    refine c_region fun KK11 kk11 => ?_
    refine n_of (N' := KK11) kk11 ?_
    refine n_of (N' := NN10) nn10 ?_
    refine c_ret ?_
    refine n_of (N' := R0) hR ?_
    exact ⟨[], rfl, rfl, rfl⟩
  · skip
    have q0 := of_decide_eq_false h0
    (try dsimp only at q0)
    (try simp only [Dat.len] at q0)
    have hn : xs.length ≤ 1048576 := sz_le h0 hg.1.1.1
    refine c_skip ?_
    refine n_of (N' := NN7) nn7 ?_
    refine c_seq fun NN12 nn12 => ?_
    refine c_region fun KK13 kk13 => ?_
    refine ⟨rfl, _, _, (s27 _ _ (by ((try dsimp only); first | assumption | omega | (simp (disch := omega) only [wr64]; omega))) _ _), ?_⟩
    refine ⟨rfl, _, _, (s64 _ _ _ _), ?_⟩
    refine n_of (N' := KK13) kk13 ?_
    refine n_of (N' := NN12) nn12 ?_
    refine c_seq fun NN14 nn14 => ?_
    refine c_region fun KK15 kk15 => ?_
    refine ⟨rfl, _, _, (s27 _ _ (by ((try dsimp only); first | assumption | omega | (simp (disch := omega) only [wr64]; omega))) _ _), ?_⟩
    refine n_of (N' := KK15) kk15 ?_
    refine n_of (N' := NN14) nn14 ?_
    refine c_seq fun NN16 nn16 => ?_
    refine c_region fun KK17 kk17 => ?_
    refine ⟨rfl, _, _, (s65 _ _ _ _), ?_⟩
    refine n_of (N' := KK17) kk17 ?_
    refine n_of (N' := NN16) nn16 ?_
    refine c_seq fun NN18 nn18 => ?_
    refine c_seq fun NN19 nn19 => ?_
    refine c_region fun KK20 kk20 => ?_
    refine ⟨rfl, _, _, (s29 _ _ _ _ _), ?_⟩
    refine And.intro (fun h1 => ?_) (fun h1 => ?_)
    · skip
      (first | (cases h1; done) | exact bnn h1 | (have q := of_decide_eq_true h1; exfalso; omega) | exact absurd rfl (ne_of_bneT h1))
    · skip
      refine n_of (N' := KK20) kk20 ?_
      refine n_of (N' := NN19) nn19 ?_
      refine c_cond rfl (fun h2 => ?_) (fun h2 => ?_)
      · skip
        (first | (cases h2; done) | exact bnn h2 | (have q := of_decide_eq_true h2; exfalso; omega) | exact absurd rfl (ne_of_bneT h2))
      · skip
        refine c_skip ?_
        refine n_of (N' := NN18) nn18 ?_
        refine c_seq fun NN21 nn21 => ?_
        refine c_seq fun NN22 nn22 => ?_
        refine c_draw 3 [0, 1, 2] (by kernel_rfl) fun KK23 kk23 => ?_
        refine ⟨rfl, _, _, (s27 _ _ (by ((try dsimp only); first | assumption | omega | (simp (disch := omega) only [wr64]; omega))) _ _), rfl, ?_⟩
        refine ⟨rfl, _, _, (s29 _ _ _ _ _), ?_⟩
        refine n_of (N' := KK23) kk23 ?_
        refine n_of (N' := NN22) nn22 ?_
        refine c_cond rfl (fun h3 => ?_) (fun h3 => ?_)
        · skip
          (first | (cases h3; done) | exact bnn h3 | (have q := of_decide_eq_true h3; exfalso; omega) | exact absurd rfl (ne_of_bneT h3))
        · skip
          refine c_skip ?_
          refine n_of (N' := NN21) nn21 ?_
          refine c_seq fun NN24 nn24 => ?_
          refine c_region fun KK25 kk25 => ?_
          refine n_of (N' := KK25) kk25 ?_
          refine n_of (N' := NN24) nn24 ?_
          refine c_seq fun NN26 nn26 => ?_
          refine c_region fun KK27 kk27 => ?_
          refine ⟨rfl, _, _, (s41 _ _ _ _ (by ((try dsimp only); first | assumption | omega | (simp (disch := omega) only [wr64]; omega))) (by ((try dsimp only); first | assumption | omega | (simp (disch := omega) only [wr64]; omega))) (by ((try dsimp only); first | assumption | omega | (simp (disch := omega) only [wr64]; omega)))), ?_⟩
          refine n_of (N' := KK27) kk27 ?_
          refine n_of (N' := NN26) nn26 ?_
          refine c_seq fun NN28 nn28 => ?_
          refine c_seq fun NN29 nn29 => ?_
          refine c_region fun KK30 kk30 => ?_
          refine And.intro (fun h4 => ?_) (fun h4 => ?_)
          · skip
            (first | (cases h4; done) | exact bnn h4 | (have q := of_decide_eq_true h4; exfalso; omega) | exact absurd rfl (ne_of_bneT h4))
          · skip
            have q4 := of_decide_eq_false h4
            (try dsimp only at q4)
            (try simp only [Dat.len] at q4)
            refine ⟨rfl, _, _, (s29 _ _ _ _ _), ?_⟩
            refine And.intro (fun h5 => ?_) (fun h5 => ?_)
            · skip
              (first | (cases h5; done) | exact bnn h5 | (have q := of_decide_eq_true h5; exfalso; omega) | exact absurd rfl (ne_of_bneT h5))
            · skip
              refine n_of (N' := KK30) kk30 ?_
              refine n_of (N' := NN29) nn29 ?_
              refine c_cond rfl (fun h6 => ?_) (fun h6 => ?_)
              · skip
                (first | (cases h6; done) | exact bnn h6 | (have q := of_decide_eq_true h6; exfalso; omega) | exact absurd rfl (ne_of_bneT h6))
              · skip
                refine c_skip ?_
                refine n_of (N' := NN28) nn28 ?_
                refine c_seq fun NN31 nn31 => ?_
                refine c_region fun KK32 kk32 => ?_
                refine n_of (N' := KK32) kk32 ?_
                refine n_of (N' := NN31) nn31 ?_
                refine c_seq fun NN33 nn33 => ?_
                refine c_region fun KK34 kk34 => ?_
                refine ⟨rfl, _, _, (s41 _ _ _ _ (by ((try dsimp only); first | assumption | omega | (simp (disch := omega) only [wr64]; omega))) (by ((try dsimp only); first | assumption | omega | (simp (disch := omega) only [wr64]; omega))) (by ((try dsimp only); first | assumption | omega | (simp (disch := omega) only [wr64]; omega)))), ?_⟩
                refine n_of (N' := KK34) kk34 ?_
                refine n_of (N' := NN33) nn33 ?_
                refine c_seq fun NN35 nn35 => ?_
                refine c_region fun KK36 kk36 => ?_
                refine n_of (N' := KK36) kk36 ?_
                refine n_of (N' := NN35) nn35 ?_
                refine c_seq fun NN37 nn37 => ?_
                refine c_region fun KK38 kk38 => ?_
                refine ⟨rfl, _, _, (s42 _ _ _ _ _ (by ((try dsimp only); first | assumption | omega | (simp (disch := omega) only [wr64]; omega))) (by ((try dsimp only); first | assumption | omega | (simp (disch := omega) only [wr64]; omega))) (by ((try dsimp only); first | assumption | omega | (simp (disch := omega) only [wr64]; omega)))), ?_⟩
                refine n_of (N' := KK38) kk38 ?_
                refine n_of (N' := NN37) nn37 ?_
                refine c_seq fun NN39 nn39 => ?_
                refine c_seq fun NN40 nn40 => ?_
                refine c_region fun KK41 kk41 => ?_
                refine n_of (N' := KK41) kk41 ?_
                refine n_of (N' := NN40) nn40 ?_
                refine c_cond rfl (fun h7 => ?_) (fun h7 => ?_)
                · skip
                  (first | (cases h7; done) | exact bnn h7 | (have q := of_decide_eq_true h7; exfalso; omega) | exact absurd rfl (ne_of_bneT h7))
                · skip
                  have q7 := of_decide_eq_false h7
                  (try dsimp only at q7)
                  (try simp only [Dat.len] at q7)
                  refine c_skip ?_
                  refine n_of (N' := NN39) nn39 ?_
                  refine c_seq fun NN42 nn42 => ?_
                  refine c_seq fun NN43 nn43 => ?_
                  refine c_region fun KK44 kk44 => ?_
                  refine n_of (N' := KK44) kk44 ?_
                  refine n_of (N' := NN43) nn43 ?_
                  refine c_cond rfl (fun h8 => ?_) (fun h8 => ?_)
                  · skip
                    (first | (cases h8; done) | exact bnn h8 | (have q := of_decide_eq_true h8; exfalso; omega) | exact absurd rfl (ne_of_bneT h8))
                  · skip
                    have q8 := eq_of_bneF h8
                    (try dsimp only at q8)
                    (try simp only [Dat.len] at q8)
                    refine c_skip ?_
                    refine n_of (N' := NN42) nn42 ?_
                    refine c_seq fun NN45 nn45 => ?_
                    refine c_region fun KK46 kk46 => ?_
                    refine ⟨rfl, _, _, (s27 _ _ (by ((try dsimp only); first | assumption | omega | (simp (disch := omega) only [wr64]; omega))) _ _), ?_⟩
                    refine ⟨rfl, _, _, (s65 _ _ _ _), ?_⟩
                    refine n_of (N' := KK46) kk46 ?_
                    refine n_of (N' := NN45) nn45 ?_
                    refine c_seq fun NN47 nn47 => ?_
                    refine c_seq fun NN48 nn48 => ?_
                    refine c_region fun KK49 kk49 => ?_
                    refine ⟨rfl, _, _, (s29 _ _ _ _ _), ?_⟩
                    refine And.intro (fun h9 => ?_) (fun h9 => ?_)
                    · skip
                      (first | (cases h9; done) | exact bnn h9 | (have q := of_decide_eq_true h9; exfalso; omega) | exact absurd rfl (ne_of_bneT h9))
                    · skip
                      refine n_of (N' := KK49) kk49 ?_
                      refine n_of (N' := NN48) nn48 ?_
                      refine c_cond rfl (fun h10 => ?_) (fun h10 => ?_)
                      · skip
                        (first | (cases h10; done) | exact bnn h10 | (have q := of_decide_eq_true h10; exfalso; omega) | exact absurd rfl (ne_of_bneT h10))
                      · skip
                        refine c_skip ?_
                        refine n_of (N' := NN47) nn47 ?_
                        refine c_seq fun NN50 nn50 => ?_
                        refine c_region fun KK51 kk51 => ?_
                        refine n_of (N' := KK51) kk51 ?_
                        refine n_of (N' := NN50) nn50 ?_
                        refine c_seq fun NN52 nn52 => ?_
                        refine c_region fun KK53 kk53 => ?_
                        refine ⟨rfl, _, _, (s42 _ _ _ _ _ (by ((try dsimp only); first | assumption | omega | (simp (disch := omega) only [wr64]; omega))) (by ((try dsimp only); first | assumption | omega | (simp (disch := omega) only [wr64]; omega))) (by ((try dsimp only); first | assumption | omega | (simp (disch := omega) only [wr64]; omega)))), ?_⟩
                        refine n_of (N' := KK53) kk53 ?_
                        refine n_of (N' := NN52) nn52 ?_
                        refine c_seq fun NN54 nn54 => ?_
                        refine c_seq fun NN55 nn55 => ?_
                        refine c_region fun KK56 kk56 => ?_
                        refine n_of (N' := KK56) kk56 ?_
                        refine n_of (N' := NN55) nn55 ?_
                        refine c_cond rfl (fun h11 => ?_) (fun h11 => ?_)
                        · skip
                          (first | (cases h11; done) | exact bnn h11 | (have q := of_decide_eq_true h11; exfalso; omega) | exact absurd rfl (ne_of_bneT h11))
                        · skip
                          have q11 := of_decide_eq_false h11
                          (try dsimp only at q11)
                          (try simp only [Dat.len] at q11)
                          refine c_skip ?_
                          refine n_of (N' := NN54) nn54 ?_
                          refine c_seq fun NN57 nn57 => ?_
                          refine c_seq fun NN58 nn58 => ?_
                          refine c_region fun KK59 kk59 => ?_
                          refine n_of (N' := KK59) kk59 ?_
                          refine n_of (N' := NN58) nn58 ?_
                          refine c_cond rfl (fun h12 => ?_) (fun h12 => ?_)
                          · skip
                            (first | (cases h12; done) | exact bnn h12 | (have q := of_decide_eq_true h12; exfalso; omega) | exact absurd rfl (ne_of_bneT h12))
                          · skip
                            have q12 := eq_of_bneF h12
                            (try dsimp only at q12)
                            (try simp only [Dat.len] at q12)
                            refine c_skip ?_
                            refine n_of (N' := NN57) nn57 ?_
                            refine c_seq fun NN60 nn60 => ?_
                            refine c_region fun KK61 kk61 => ?_
                            refine n_of (N' := KK61) kk61 ?_
                            refine n_of (N' := NN60) nn60 ?_
                            refine c_ret ?_
                            refine n_of (N' := R0) hR ?_
                            exact ⟨[], rfl, rfl, rfl⟩

theorem s108 (a b : Nat) (n : Int) : SP 108 [] [f32 a, f32 b, i64 n] [] (fl32 (gap a b n)) := by
  refine spec_of_codeR (fn := Try.f108) tyOK mixes Try.func108 rfl rfl rfl rfl fun hg R0 hR => ?_
  refine c_seq fun NN1 nn1 => ?_
  refine c_region fun KK2 kk2 => ?_
  refine n_of (N' := KK2) kk2 ?_
  refine n_of (N' := NN1) nn1 ?_
  refine c_seq fun NN3 nn3 => ?_
  refine c_region fun KK4 kk4 => ?_
  refine n_of (N' := KK4) kk4 ?_
  refine n_of (N' := NN3) nn3 ?_
  refine c_seq fun NN5 nn5 => ?_
  refine c_region fun KK6 kk6 => ?_
  refine n_of (N' := KK6) kk6 ?_
  refine n_of (N' := NN5) nn5 ?_
  refine c_seq fun NN7 nn7 => ?_
  refine c_seq fun NN8 nn8 => ?_
  refine c_region fun KK9 kk9 => ?_
  refine n_of (N' := KK9) kk9 ?_
  refine n_of (N' := NN8) nn8 ?_
  refine c_cond rfl (fun h0 => ?_) (fun h0 => ?_)
  · skip
    refine c_seq fun NN10 nn10 => ?_
    refine c_region fun KK11 kk11 => ?_
    refine n_of (N' := KK11) kk11 ?_
    refine n_of (N' := NN10) nn10 ?_
    refine c_ret ?_
    refine n_of (N' := R0) hR ?_
    exact ⟨[], rfl, rfl, congrArg fl32 (by unfold gap; rw [h0]; rfl)⟩
  · skip
    refine c_skip ?_
    refine n_of (N' := NN7) nn7 ?_
    refine c_seq fun NN12 nn12 => ?_
    refine c_seq fun NN13 nn13 => ?_
    refine c_region fun KK14 kk14 => ?_
    refine n_of (N' := KK14) kk14 ?_
    refine n_of (N' := NN13) nn13 ?_
    refine c_cond rfl (fun h1 => ?_) (fun h1 => ?_)
    · skip
      refine c_seq fun NN15 nn15 => ?_
      refine c_region fun KK16 kk16 => ?_
      refine n_of (N' := KK16) kk16 ?_
      refine n_of (N' := NN15) nn15 ?_
      refine c_ret ?_
      refine n_of (N' := R0) hR ?_
      exact ⟨[], rfl, rfl, congrArg fl32 (by unfold gap; rw [h0, h1]; rfl)⟩
    · skip
      refine c_skip ?_
      refine n_of (N' := NN12) nn12 ?_
      refine c_seq fun NN17 nn17 => ?_
      refine c_region fun KK18 kk18 => ?_
      refine n_of (N' := KK18) kk18 ?_
      refine n_of (N' := NN17) nn17 ?_
      refine c_ret ?_
      refine n_of (N' := R0) hR ?_
      exact ⟨[], rfl, rfl, congrArg fl32 (by unfold gap; rw [h0, h1]; rfl)⟩

theorem s110 (c : Int) (b : Nat) (n : Int) : SP 110 [] [i64 c, f32 b, i64 n] [] (fl32 (gap (fint .f32 c) b n)) := by
  refine spec_of_codeR (fn := Try.f110) tyOK mixes Try.func110 rfl rfl rfl rfl fun hg R0 hR => ?_
  refine c_seq fun NN1 nn1 => ?_
  refine c_region fun KK2 kk2 => ?_
  refine n_of (N' := KK2) kk2 ?_
  refine n_of (N' := NN1) nn1 ?_
  refine c_seq fun NN3 nn3 => ?_
  refine c_region fun KK4 kk4 => ?_
  refine n_of (N' := KK4) kk4 ?_
  refine n_of (N' := NN3) nn3 ?_
  refine c_seq fun NN5 nn5 => ?_
  refine c_block fun XX6 xx6 => ?_
  refine c_seq fun NN7 nn7 => ?_
  refine c_region fun KK8 kk8 => ?_
  refine n_of (N' := KK8) kk8 ?_
  refine n_of (N' := NN7) nn7 ?_
  refine c_cond rfl (fun h0 => ?_) (fun h0 => ?_)
  · skip
    refine c_seq fun NN9 nn9 => ?_
    refine c_region fun KK10 kk10 => ?_
    refine n_of (N' := KK10) kk10 ?_
    refine n_of (N' := NN9) nn9 ?_
    refine c_ret ?_
    refine n_of (N' := R0) hR ?_
    exact ⟨[], rfl, rfl, congrArg fl32 (by unfold gap; rw [h0]; rfl)⟩
  · skip
    refine c_seq fun NN11 nn11 => ?_
    refine c_region fun KK12 kk12 => ?_
    refine n_of (N' := KK12) kk12 ?_
    refine n_of (N' := NN11) nn11 ?_
    refine c_cond rfl (fun h1 => ?_) (fun h1 => ?_)
    · skip
      refine c_seq fun NN13 nn13 => ?_
      refine c_region fun KK14 kk14 => ?_
      refine n_of (N' := KK14) kk14 ?_
      refine n_of (N' := NN13) nn13 ?_
      refine c_ret ?_
      refine n_of (N' := R0) hR ?_
      exact ⟨[], rfl, rfl, congrArg fl32 (by unfold gap; rw [h0, h1]; rfl)⟩
    · skip
      refine c_skip ?_
      refine n_of (N' := NN5) nn5 ?_
      refine c_seq fun NN15 nn15 => ?_
      refine c_region fun KK16 kk16 => ?_
      refine n_of (N' := KK16) kk16 ?_
      refine n_of (N' := NN15) nn15 ?_
      refine c_ret ?_
      refine n_of (N' := R0) hR ?_
      exact ⟨[], rfl, rfl, congrArg fl32 (by unfold gap; rw [h0, h1]; rfl)⟩

theorem s109 (x y r s : Nat) (w h i j : Int) : SP 109 [.var 32 [.fl .f32 x], .var 2 [.ex (.int .i64 w)], .var 32 [.fl .f32 y], .var 2 [.ex (.int .i64 h)], .var 32 [.fl .f32 r], .var 32 [.fl .f32 s]] [i64 i, i64 j, .one (.pv 0 0), .one (.pv 1 0), .one (.pv 2 0), .one (.pv 3 0), .one (.pv 4 0), .one (.pv 5 0)] [.var 32 [.fl .f32 x], .var 2 [.ex (.int .i64 w)], .var 32 [.fl .f32 y], .var 2 [.ex (.int .i64 h)], .var 32 [.fl .f32 r], .var 32 [.fl .f32 s]] (fl32 (Fblob x y r s w h i j)) := by
  refine spec_of_codeR (fn := Try.f109) tyOK mixes Try.func109 rfl rfl rfl ⟨.inl rfl, ⟨.inl rfl, ⟨.inl rfl, ⟨.inl rfl, ⟨.inl rfl, ⟨.inl rfl, rfl⟩⟩⟩⟩⟩⟩ fun hg R0 hR => ?_
  refine c_seq fun NN1 nn1 => ?_
  refine c_region fun KK2 kk2 => ?_
  refine n_of (N' := KK2) kk2 ?_
  refine n_of (N' := NN1) nn1 ?_
  refine c_seq fun NN3 nn3 => ?_
  refine c_draw 7 [0, 1, 2, 4, 5, 6, 3] (by kernel_rfl) fun KK4 kk4 => ?_
  refine ⟨rfl, _, _, (s110 _ _ _), rfl, ?_⟩
  refine ⟨rfl, _, _, (s110 _ _ _), ?_⟩
  refine n_of (N' := KK4) kk4 ?_
  refine n_of (N' := NN3) nn3 ?_
  refine c_seq fun NN5 nn5 => ?_
  refine c_seq fun NN6 nn6 => ?_
  refine c_region fun KK7 kk7 => ?_
  refine n_of (N' := KK7) kk7 ?_
  refine n_of (N' := NN6) nn6 ?_
  refine c_cond rfl (fun h0 => ?_) (fun h0 => ?_)
  · skip
    refine c_seq fun NN8 nn8 => ?_
    refine c_region fun KK9 kk9 => ?_
    refine n_of (N' := KK9) kk9 ?_
    refine n_of (N' := NN8) nn8 ?_
    refine c_ret ?_
    refine n_of (N' := R0) hR ?_
    exact ⟨[], rfl, rfl, congrArg fl32 (by unfold Fblob; rw [h0]; rfl)⟩
  · skip
    refine c_skip ?_
    refine n_of (N' := NN5) nn5 ?_
    refine c_seq fun NN10 nn10 => ?_
    refine c_region fun KK11 kk11 => ?_
    refine n_of (N' := KK11) kk11 ?_
    refine n_of (N' := NN10) nn10 ?_
    refine c_ret ?_
    refine n_of (N' := R0) hR ?_
    exact ⟨[], rfl, rfl, congrArg fl32 (by unfold Fblob; rw [h0]; rfl)⟩

theorem s95blob (px py r s : Nat) (W H : Nat) (w1 : 3 ≤ W) (w2 : W ≤ 16) (w3 : 3 ≤ H) (w4 : H ≤ 16) : SP 95 [.var 32 [.fl .f32 px], .var 2 [.ex (.int .i64 W)], .var 32 [.fl .f32 py], .var 2 [.ex (.int .i64 H)], .var 32 [.fl .f32 r], .var 32 [.fl .f32 s]] [i64 W, i64 H, .one (.fn 109 [] [0, 1, 2, 3, 4, 5])] [.var 32 [.fl .f32 px], .var 2 [.ex (.int .i64 W)], .var 32 [.fl .f32 py], .var 2 [.ex (.int .i64 H)], .var 32 [.fl .f32 r], .var 32 [.fl .f32 s], ar true (grid W H (fun x y => Fblob px py r s W H x y))] (.v (bas W H 6)) := by
  refine spec_of_codeR (fn := Try.f95) tyOK mixes Try.func95 rfl rfl rfl ⟨.inl rfl, ⟨.inl rfl, ⟨.inl rfl, ⟨.inl rfl, ⟨.inl rfl, ⟨.inl rfl, rfl⟩⟩⟩⟩⟩⟩ fun hg R0 hR => ?_
  have hWH : W * H ≤ 256 := (by have := Nat.mul_le_mul w2 w4; omega)
  have hwr := wrWH hWH
  rw [gridN] at hR
  refine c_seq fun NN1 nn1 => ?_
  refine c_region fun KK2 kk2 => ?_
  refine n_of (N' := KK2) kk2 ?_
  refine n_of (N' := NN1) nn1 ?_
  refine c_seq fun NN3 nn3 => ?_
  refine c_region fun KK4 kk4 => ?_
  refine n_of (N' := KK4) kk4 ?_
  refine n_of (N' := NN3) nn3 ?_
  refine c_seq fun NN5 nn5 => ?_
  refine c_seq fun NN6 nn6 => ?_
  refine c_region fun KK7 kk7 => ?_
  refine n_of (N' := KK7) kk7 ?_
  refine n_of (N' := NN6) nn6 ?_
  refine c_block fun XX8 xx8 => ?_
  refine loop_keep [.c 7 2 32 (.f [])] [0, 2, 6, 7, 13] (ι := { i : Nat // i ≤ H }) (fun i => [(14, exi .i64 i.1)]) (fun i => [(8, ar true (bld (fun t => (fun x y => Fblob px py r s W H x y) ((t % W : Nat) : Int) ((t / W : Nat) : Int)) (i.1 * W)))]) (fun i => H - i.1) ⟨0, Nat.zero_le _⟩ ⟨rfl, trivial⟩ rfl ?_
  refine ⟨?_, ?_, ?_⟩
  · exact ⟨.inr rfl, trivial⟩
  · exact ⟨rfl, rfl, rfl, rfl, rfl, rfl, rfl, rfl, congrArg (ar true) (by simp [bld]), trivial⟩
  refine fun ⟨y, hy⟩ NL9 nl9 => ?_
  refine c_norm rfl rfl ?_
  refine c_seq fun NN10 nn10 => ?_
  refine c_region fun KK11 kk11 => ?_
  refine n_of (N' := KK11) kk11 ?_
  refine n_of (N' := NN10) nn10 ?_
  refine c_seq fun NN12 nn12 => ?_
  refine c_cond rfl (fun h0 => ?_) (fun h0 => ?_)
  · skip
    have q0 := of_decide_eq_true h0
    (try dsimp only at q0)
    (try simp only [Dat.len, bld_len, List.length_cons, List.length_nil] at q0)
    refine c_skip ?_
    refine n_of (N' := NN12) nn12 ?_
    refine c_seq fun NN13 nn13 => ?_
    refine c_block fun XX14 xx14 => ?_
    refine c_seq fun NN15 nn15 => ?_
    refine c_region fun KK16 kk16 => ?_
    refine n_of (N' := KK16) kk16 ?_
    refine n_of (N' := NN15) nn15 ?_
    refine c_seq fun NN17 nn17 => ?_
    refine c_region fun KK18 kk18 => ?_
    refine n_of (N' := KK18) kk18 ?_
    refine n_of (N' := NN17) nn17 ?_
    refine c_block fun XX19 xx19 => ?_
    refine loop_keep [] [0, 2, 6, 7, 8, 13, 14, 17] (ι := { i : Nat // i ≤ W }) (fun i => [(18, exi .i64 i.1)]) (fun i => [(8, ar true (bld (fun t => (fun x y => Fblob px py r s W H x y) ((t % W : Nat) : Int) ((t / W : Nat) : Int)) (y * W + i.1)))]) (fun i => W - i.1) ⟨0, Nat.zero_le _⟩ trivial rfl ?_
    refine ⟨?_, ?_, ?_⟩
    · exact ⟨.inr rfl, trivial⟩
    · exact ⟨rfl, rfl, rfl, rfl, rfl, rfl, rfl, rfl, rfl, trivial⟩
    refine fun ⟨x, hx⟩ NL20 nl20 => ?_
    refine c_norm rfl rfl ?_
    have hyx : y * W + x ≤ 256 := Nat.le_trans (Nat.add_le_add (Nat.mul_le_mul_right W (show y ≤ 15 by omega)) hx) (by omega)
    refine c_seq fun NN21 nn21 => ?_
    refine c_region fun KK22 kk22 => ?_
    refine n_of (N' := KK22) kk22 ?_
    refine n_of (N' := NN21) nn21 ?_
    refine c_seq fun NN23 nn23 => ?_
    refine c_cond rfl (fun h1 => ?_) (fun h1 => ?_)
    · skip
      have q1 := of_decide_eq_true h1
      (try dsimp only at q1)
      (try simp only [Dat.len, bld_len, List.length_cons, List.length_nil] at q1)
      refine c_skip ?_
      refine n_of (N' := NN23) nn23 ?_
      refine c_seq fun NN24 nn24 => ?_
      refine c_block fun XX25 xx25 => ?_
      refine c_seq fun NN26 nn26 => ?_
      refine c_region fun KK27 kk27 => ?_
      refine n_of (N' := KK27) kk27 ?_
      refine n_of (N' := NN26) nn26 ?_
      refine c_draw 7 [0, 1, 2, 3, 4, 5, 6] (by kernel_rfl) fun KK28 kk28 => ?_
      refine ⟨rfl, _, _, s109 _ _ _ _ _ _ _ _, rfl, ?_⟩
      refine And.intro ?_ ?_
      · (refine ⟨?_, by decide⟩; (try dsimp only); (try simp only [Dat.len, bld_len, List.length_append, List.length_cons, List.length_nil]); omega)   -- 0 append
      refine n_of (N' := KK28) kk28 ?_
      refine n_of (N' := NN24) nn24 ?_
      refine c_region fun KK29 kk29 => ?_
      refine n_of (N' := KK29) kk29 ?_
      refine n_of (N' := NL20) nl20 ?_
      refine ⟨⟨x + 1, by omega⟩, ?_, [0, 1, 2, 3, 4, 5, 6, 7, 8], rfl, ?_, ?_⟩
      · (dsimp only; omega)
      · exact LEq.eq ⟨rfl, rfl, rfl, rfl, rfl, rfl, rfl, rfl, congrArg (fun z => ar true (bld _ (y * W + x) ++ [z])) (grid_row (fun x y => Fblob px py r s W H x y) (W := W) (x := x) (y := y) (by omega)).symm, trivial⟩
      · exact ⟨.inr (congrArg (exi .i64) (wr64 (n := (x : Int) + 1) (by omega) (by omega))), .inr rfl, .inr rfl, .inr rfl, .inr rfl, .inr rfl, .inr rfl, .inr rfl, .inr rfl, trivial⟩
    · skip
      have q1 := of_decide_eq_false h1
      (try dsimp only at q1)
      (try simp only [Dat.len, bld_len, List.length_cons, List.length_nil] at q1)
      refine c_exit ?_
      refine x_here xx19 ?_
      refine n_of (N' := NN13) nn13 ?_
      refine c_region fun KK30 kk30 => ?_
      refine n_of (N' := KK30) kk30 ?_
      refine n_of (N' := NL9) nl9 ?_
      refine ⟨⟨y + 1, by omega⟩, ?_, [0, 1, 2, 3, 4, 5, 6, 7, 8], rfl, ?_, ?_⟩
      · (dsimp only; omega)
      · exact LEq.eq ⟨rfl, rfl, rfl, rfl, rfl, rfl, rfl, rfl, congrArg (ar true) (congrArg (bld _) (by (try dsimp only); rw [Nat.add_mul]; omega)), trivial⟩
      · exact ⟨.inr (congrArg (exi .i64) (wr64 (n := (y : Int) + 1) (by omega) (by omega))), .inr rfl, .inr rfl, .inr rfl, .inr rfl, .inr rfl, trivial⟩
  · skip
    have q0 := of_decide_eq_false h0
    (try dsimp only at q0)
    (try simp only [Dat.len, bld_len, List.length_cons, List.length_nil] at q0)
    refine c_exit ?_
    refine x_here xx8 ?_
    refine n_of (N' := NN5) nn5 ?_
    refine c_seq fun NN31 nn31 => ?_
    refine c_region fun KK32 kk32 => ?_
    refine n_of (N' := KK32) kk32 ?_
    refine n_of (N' := NN31) nn31 ?_
    refine c_ret ?_
    refine n_of (N' := R0) hR ?_
    have e : y = H := by omega
    subst e
    exact ⟨[], rfl, by rw [Nat.mul_comm], rfl⟩

theorem s49 (w h : Int) (x y r s : Nat) : SP 49 [] [i64 w, i64 h, f32 x, f32 y, f32 r, f32 s] [ar true (gR (okblob w h x y r s) (grid w h (fun i j => Fblob x y r s w h i j)))] (toldB (okblob w h x y r s) w h 0) := by
  refine spec_of_codeR (fn := Try.f49) tyOK mixes Try.func49 rfl rfl rfl rfl fun hg R0 hR => ?_
  refine c_seq fun NN1 nn1 => ?_
  refine c_region fun KK2 kk2 => ?_
  refine n_of (N' := KK2) kk2 ?_
  refine n_of (N' := NN1) nn1 ?_
  refine c_seq fun NN3 nn3 => ?_
  refine c_seq fun NN4 nn4 => ?_
  refine c_region fun KK5 kk5 => ?_
  refine ⟨rfl, _, _, (s91 _ _), ?_⟩
  refine And.intro (fun h0 => ?_) (fun h0 => ?_)
  · skip
    refine And.intro (fun _ => ?_) (fun h => nomatch h)
    refine And.intro (fun _ => ?_) (fun h => nomatch h)
    refine n_of (N' := KK5) kk5 ?_
    refine n_of (N' := NN4) nn4 ?_
    refine c_cond rfl (fun _ => ?_) (fun h => nomatch h)
    refine c_seq fun NN6 nn6 => ?_
    refine c_region fun KK7 kk7 => ?_
    refine n_of (N' := KK7) kk7 ?_
    refine n_of (N' := NN6) nn6 ?_
    refine c_ret ?_
    refine n_of (N' := R0) hR ?_
    have ok : okblob w h x y r s = false := by unfold okblob; rw [not_t h0]; simp
    exact ⟨[.nil 32 (.f [])], rfl, rfl, by rw [ok]; rfl, by rw [ok]; rfl⟩
  · skip
    have hz := not_f h0
    obtain ⟨W, H, rfl, rfl, w1, w2, w3, w4, hWH⟩ := size_nat (hz)
    have hwr := wrWH hWH
    refine ⟨rfl, _, _, (s107 _), ?_⟩
    refine And.intro (fun h1 => ?_) (fun h1 => ?_)
    · skip
      refine And.intro (fun _ => ?_) (fun h => nomatch h)
      refine n_of (N' := KK5) kk5 ?_
      refine n_of (N' := NN4) nn4 ?_
      refine c_cond rfl (fun _ => ?_) (fun h => nomatch h)
      refine c_seq fun NN8 nn8 => ?_
      refine c_region fun KK9 kk9 => ?_
      refine n_of (N' := KK9) kk9 ?_
      refine n_of (N' := NN8) nn8 ?_
      refine c_ret ?_
      refine n_of (N' := R0) hR ?_
      have ok : okblob W H x y r s = false := by unfold okblob; rw [not_t h1]; simp
      exact ⟨[.nil 32 (.f [])], rfl, rfl, by rw [ok]; rfl, by rw [ok]; rfl⟩
    · skip
      refine ⟨rfl, _, _, (s107 _), ?_⟩
      refine And.intro (fun h2 => ?_) (fun h2 => ?_)
      · skip
        refine n_of (N' := KK5) kk5 ?_
        refine n_of (N' := NN4) nn4 ?_
        refine c_cond rfl (fun _ => ?_) (fun h => nomatch h)
        refine c_seq fun NN10 nn10 => ?_
        refine c_region fun KK11 kk11 => ?_
        refine n_of (N' := KK11) kk11 ?_
        refine n_of (N' := NN10) nn10 ?_
        refine c_ret ?_
        refine n_of (N' := R0) hR ?_
        have ok : okblob W H x y r s = false := by unfold okblob; rw [not_t h2]; simp
        exact ⟨[.nil 32 (.f [])], rfl, rfl, by rw [ok]; rfl, by rw [ok]; rfl⟩
      · skip
        refine ⟨rfl, _, _, (s107 _), ?_⟩
        refine n_of (N' := KK5) kk5 ?_
        refine n_of (N' := NN4) nn4 ?_
        refine c_cond rfl (fun h3 => ?_) (fun h3 => ?_)
        · skip
          refine c_seq fun NN12 nn12 => ?_
          refine c_region fun KK13 kk13 => ?_
          refine n_of (N' := KK13) kk13 ?_
          refine n_of (N' := NN12) nn12 ?_
          refine c_ret ?_
          refine n_of (N' := R0) hR ?_
          have ok : okblob W H x y r s = false := by unfold okblob; rw [not_t h3]; simp
          exact ⟨[.nil 32 (.f [])], rfl, rfl, by rw [ok]; rfl, by rw [ok]; rfl⟩
        · skip
          refine c_skip ?_
          refine n_of (N' := NN3) nn3 ?_
          refine c_seq fun NN14 nn14 => ?_
          refine c_region fun KK15 kk15 => ?_
          refine ⟨rfl, _, _, (s99 _ _), ?_⟩
          refine n_of (N' := KK15) kk15 ?_
          refine n_of (N' := NN14) nn14 ?_
          refine c_seq fun NN16 nn16 => ?_
          refine c_region fun KK17 kk17 => ?_
          refine n_of (N' := KK17) kk17 ?_
          refine n_of (N' := NN16) nn16 ?_
          refine c_seq fun NN18 nn18 => ?_
          refine c_seq fun NN19 nn19 => ?_
          refine c_region fun KK20 kk20 => ?_
          refine n_of (N' := KK20) kk20 ?_
          refine n_of (N' := NN19) nn19 ?_
          refine c_block fun XX21 xx21 => ?_
          refine loop_keep [] [0, 1, 2, 3, 5, 12, 14, 15] (ι := { i : Nat // i ≤ W * H }) (fun i => [(16, exi .i64 i.1)]) (fun i => [(1, ar true (bld (fun t => (fun i j => Fblob x y r s W H i j) ((t % W : Nat) : Int) ((t / W : Nat) : Int)) i.1))]) (fun i => W * H - i.1) ⟨0, Nat.zero_le _⟩ trivial rfl ?_
          refine ⟨?_, ?_, ?_⟩
          · exact ⟨.inr rfl, trivial⟩
          · exact ⟨rfl, rfl, rfl, trivial⟩
          refine fun ⟨i, hi⟩ NL22 nl22 => ?_
          refine c_norm rfl rfl ?_
          obtain ⟨m0, m1, m2, m3⟩ := cellb i W (by omega) (by omega)
          refine c_seq fun NN23 nn23 => ?_
          refine c_seq fun NN24 nn24 => ?_
          refine c_region fun KK25 kk25 => ?_
          refine n_of (N' := KK25) kk25 ?_
          refine n_of (N' := NN24) nn24 ?_
          refine c_cond rfl (fun h4 => ?_) (fun h4 => ?_)
          · skip
            have q4 := of_decide_eq_true h4
            (try dsimp only at q4)
            (try simp only [Dat.len, hwr, bld_len, List.length_cons, List.length_nil] at q4)
            refine c_skip ?_
            refine n_of (N' := NN23) nn23 ?_
            refine c_seq fun NN26 nn26 => ?_
            refine c_block fun XX27 xx27 => ?_
            refine c_seq fun NN28 nn28 => ?_
            refine c_region fun KK29 kk29 => ?_
            refine And.intro ?_ ?_
            · omega   -- 0 div
            refine ⟨rfl, _, _, (s108 _ _ _), ?_⟩
            refine n_of (N' := KK29) kk29 ?_
            refine n_of (N' := NN28) nn28 ?_
            refine c_seq fun NN30 nn30 => ?_
            refine c_region fun KK31 kk31 => ?_
            refine And.intro ?_ ?_
            · omega   -- 1 div
            refine ⟨rfl, _, _, (s108 _ _ _), ?_⟩
            refine n_of (N' := KK31) kk31 ?_
            refine n_of (N' := NN30) nn30 ?_
            refine c_seq fun NN32 nn32 => ?_
            refine c_region fun KK33 kk33 => ?_
            refine n_of (N' := KK33) kk33 ?_
            refine n_of (N' := NN32) nn32 ?_
            refine c_seq fun NN34 nn34 => ?_
            refine c_seq fun NN35 nn35 => ?_
            refine c_region fun KK36 kk36 => ?_
            refine n_of (N' := KK36) kk36 ?_
            refine n_of (N' := NN35) nn35 ?_
            refine c_cond rfl (fun h5 => ?_) (fun h5 => ?_)
            · skip
              refine c_region fun KK37 kk37 => ?_
              refine n_of (N' := KK37) kk37 ?_
              refine n_of (N' := NN34) nn34 ?_
              refine c_region fun KK38 kk38 => ?_
              refine And.intro ?_ ?_
              · (refine ⟨?_, by decide⟩; (try dsimp only); (try simp only [Dat.len, Int.toNat_natCast, hwr, bld_len, List.length_cons, List.length_nil]); omega)   -- 2 append
              refine n_of (N' := KK38) kk38 ?_
              refine n_of (N' := NN26) nn26 ?_
              refine c_region fun KK39 kk39 => ?_
              refine n_of (N' := KK39) kk39 ?_
              refine n_of (N' := NL22) nl22 ?_
              refine ⟨⟨i + 1, by omega⟩, ?_, [0, 1, 2], rfl, ?_, ?_⟩
              · (dsimp only; omega)
              · exact LEq.eq ⟨rfl, congrArg (fun z => ar true (bld _ i ++ [z])) (by (try dsimp only at h5); simp only [tdiv_nat, tmod_nat] at h5; simp (disch := omega) only [wr64] at h5; (try dsimp only); unfold Fblob; rw [h5]; rfl), rfl, trivial⟩
              · exact ⟨.inr (congrArg (exi .i64) (wr64 (n := (i : Int) + 1) (by omega) (by omega))), .inr rfl, .inr rfl, .inr rfl, .inr rfl, .inr rfl, .inr rfl, .inr rfl, .inr rfl, trivial⟩
            · skip
              refine c_skip ?_
              refine n_of (N' := NN34) nn34 ?_
              refine c_region fun KK40 kk40 => ?_
              refine And.intro ?_ ?_
              · (refine ⟨?_, by decide⟩; (try dsimp only); (try simp only [Dat.len, Int.toNat_natCast, hwr, bld_len, List.length_cons, List.length_nil]); omega)   -- 3 append
              refine n_of (N' := KK40) kk40 ?_
              refine n_of (N' := NN26) nn26 ?_
              refine c_region fun KK41 kk41 => ?_
              refine n_of (N' := KK41) kk41 ?_
              refine n_of (N' := NL22) nl22 ?_
              refine ⟨⟨i + 1, by omega⟩, ?_, [0, 1, 2], rfl, ?_, ?_⟩
              · (dsimp only; omega)
              · exact LEq.eq ⟨rfl, congrArg (fun z => ar true (bld _ i ++ [z])) (by (try dsimp only at h5); simp only [tdiv_nat, tmod_nat] at h5; simp (disch := omega) only [wr64] at h5; (try dsimp only); unfold Fblob; rw [h5]; rfl), rfl, trivial⟩
              · exact ⟨.inr (congrArg (exi .i64) (wr64 (n := (i : Int) + 1) (by omega) (by omega))), .inr rfl, .inr rfl, .inr rfl, .inr rfl, .inr rfl, .inr rfl, .inr rfl, .inr rfl, trivial⟩
          · skip
            have q4 := of_decide_eq_false h4
            (try dsimp only at q4)
            (try simp only [Dat.len, hwr, bld_len, List.length_cons, List.length_nil] at q4)
            refine c_exit ?_
            refine x_here xx21 ?_
            refine n_of (N' := NN18) nn18 ?_
            refine c_seq fun NN42 nn42 => ?_
            refine c_seq fun NN43 nn43 => ?_
            refine c_region fun KK44 kk44 => ?_
            refine ⟨rfl, _, _, (s107 _), ?_⟩
            refine n_of (N' := KK44) kk44 ?_
            refine n_of (N' := NN43) nn43 ?_
            refine c_cond rfl (fun h5 => ?_) (fun h5 => ?_)
            · skip
              refine c_seq fun NN45 nn45 => ?_
              refine c_region fun KK46 kk46 => ?_
              refine n_of (N' := KK46) kk46 ?_
              refine n_of (N' := NN45) nn45 ?_
              refine c_ret ?_
              refine n_of (N' := R0) hR ?_
              have ok : okblob W H x y r s = false := by unfold okblob; rw [not_t h5]; simp
              exact ⟨[.nil 32 (.f [])], rfl, rfl, by rw [ok]; rfl, by rw [ok]; rfl⟩
            · skip
              refine c_skip ?_
              refine n_of (N' := NN42) nn42 ?_
              refine c_seq fun NN47 nn47 => ?_
              refine c_region fun KK48 kk48 => ?_
              refine ⟨rfl, _, _, (s92 _ _ _), ?_⟩
              refine n_of (N' := KK48) kk48 ?_
              refine n_of (N' := NN47) nn47 ?_
              refine c_ret ?_
              refine n_of (N' := R0) hR ?_
              have e : i = W * H := by omega
              subst e
              have ok : okblob W H x y r s = isB W H (grid W H (fun i j => Fblob x y r s W H i j)) := by unfold okblob; rw [hz, not_f h1, not_f h2, not_f h3, not_f h5]; rfl
              exact ⟨[], rfl, by rw [ok, gridN], by rw [ok, gridN]⟩

theorem s50 (w h : Int) (x y r s : Nat) : SP 50 [] [i64 w, i64 h, f32 x, f32 y, f32 r, f32 s] [ar true (gR (okblob w h x y r s) (grid w h (fun i j => Fblob x y r s w h i j)))] (toldB (okblob w h x y r s) w h 0) := by
  refine spec_of_codeR (fn := Try.f50) tyOK mixes Try.func50 rfl rfl rfl rfl fun hg R0 hR => ?_
  refine c_seq fun NN1 nn1 => ?_
  refine c_region fun KK2 kk2 => ?_
  refine n_of (N' := KK2) kk2 ?_
  refine n_of (N' := NN1) nn1 ?_
  refine c_seq fun NN3 nn3 => ?_
  refine c_seq fun NN4 nn4 => ?_
  refine c_region fun KK5 kk5 => ?_
  refine ⟨rfl, _, _, (s81 _), ?_⟩
  refine And.intro (fun h0 => ?_) (fun h0 => ?_)
  · skip
    refine And.intro (fun _ => ?_) (fun h => nomatch h)
    refine n_of (N' := KK5) kk5 ?_
    refine n_of (N' := NN4) nn4 ?_
    refine c_cond rfl (fun _ => ?_) (fun h => nomatch h)
    refine c_seq fun NN6 nn6 => ?_
    refine c_region fun KK7 kk7 => ?_
    refine n_of (N' := KK7) kk7 ?_
    refine n_of (N' := NN6) nn6 ?_
    refine c_ret ?_
    refine n_of (N' := R0) hR ?_
    have ok : okblob w h x y r s = false := by unfold okblob sizeB; rw [not_t h0]; simp
    exact ⟨[.nil 32 (.f [])], rfl, rfl, by rw [ok]; rfl, by rw [ok]; rfl⟩
  · skip
    refine ⟨rfl, _, _, (s81 _), ?_⟩
    refine And.intro (fun h1 => ?_) (fun h1 => ?_)
    · skip
      refine n_of (N' := KK5) kk5 ?_
      refine n_of (N' := NN4) nn4 ?_
      refine c_cond rfl (fun _ => ?_) (fun h => nomatch h)
      refine c_seq fun NN8 nn8 => ?_
      refine c_region fun KK9 kk9 => ?_
      refine n_of (N' := KK9) kk9 ?_
      refine n_of (N' := NN8) nn8 ?_
      refine c_ret ?_
      refine n_of (N' := R0) hR ?_
      have ok : okblob w h x y r s = false := by unfold okblob sizeB; rw [not_t h1]; simp
      exact ⟨[.nil 32 (.f [])], rfl, rfl, by rw [ok]; rfl, by rw [ok]; rfl⟩
    · skip
      refine ⟨rfl, _, _, s82 _ _, ?_⟩
      refine n_of (N' := KK5) kk5 ?_
      refine n_of (N' := NN4) nn4 ?_
      refine c_cond rfl (fun h2 => ?_) (fun h2 => ?_)
      · skip
        refine c_seq fun NN10 nn10 => ?_
        refine c_region fun KK11 kk11 => ?_
        refine n_of (N' := KK11) kk11 ?_
        refine n_of (N' := NN10) nn10 ?_
        refine c_ret ?_
        refine n_of (N' := R0) hR ?_
        have ok : okblob w h x y r s = false := by
          have q := not_t h2
          simp only [List.all_cons, List.all_nil, Bool.and_true] at q
          unfold okblob; rw [q]; simp
        exact ⟨[.nil 32 (.f [])], rfl, rfl, by rw [ok]; rfl, by rw [ok]; rfl⟩
      · skip
        have hz : sizeB w h = true := by unfold sizeB; rw [not_f h0, not_f h1]; rfl
        obtain ⟨W, H, rfl, rfl, w1, w2, w3, w4, hWH⟩ := size_nat (hz)
        refine c_skip ?_
        refine n_of (N' := NN3) nn3 ?_
        refine c_seq fun NN12 nn12 => ?_
        refine c_region fun KK13 kk13 => ?_
        refine ⟨rfl, _, _, s95blob _ _ _ _ _ _ w1 w2 w3 w4, ?_⟩
        refine ⟨rfl, _, _, (s94 _ _ _), ?_⟩
        refine n_of (N' := KK13) kk13 ?_
        refine n_of (N' := NN12) nn12 ?_
        refine c_ret ?_
        refine n_of (N' := R0) hR ?_
        have ok : okblob W H x y r s = isB W H (grid W H (fun i j => Fblob x y r s W H i j)) := by
          have q := not_f h2
          simp only [List.all_cons, List.all_nil, Bool.and_true] at q
          unfold okblob; rw [hz, q]; rfl
        exact ⟨[], rfl, by rw [ok], by rw [ok]⟩

theorem s12 (w h : Int) (x y r s : Nat) : SP 12 [] [i64 w, i64 h, f32 x, f32 y, f32 r, f32 s] [] (exb true) := by
  refine spec_of_codeR (fn := Try.f12) tyOK mixes Try.func12 rfl rfl rfl rfl fun hg R0 hR => ?_
  have hR1 : (gR (okblob w h x y r s) (grid w h (fun i j => Fblob x y r s w h i j))).length ≤ 256 := gR_len fun hb => isB_len256 (w := w) (h := h) (by unfold okblob at hb; simp only [Bool.and_eq_true] at hb; exact hb.2.2)
  refine c_seq fun NN1 nn1 => ?_
  refine c_region fun KK2 kk2 => ?_
  refine n_of (N' := KK2) kk2 ?_
  refine n_of (N' := NN1) nn1 ?_
  refine c_seq fun NN3 nn3 => ?_
  refine c_region fun KK4 kk4 => ?_
  refine ⟨rfl, _, _, (s49 _ _ _ _ _ _), ?_⟩
  refine n_of (N' := KK4) kk4 ?_
  refine n_of (N' := NN3) nn3 ?_
  refine c_seq fun NN5 nn5 => ?_
  refine c_region fun KK6 kk6 => ?_
  refine ⟨rfl, _, _, (s50 _ _ _ _ _ _), ?_⟩
  refine n_of (N' := KK6) kk6 ?_
  refine n_of (N' := NN5) nn5 ?_
  refine c_seq fun NN7 nn7 => ?_
  refine c_seq fun NN8 nn8 => ?_
  refine c_region fun KK9 kk9 => ?_
  refine ⟨rfl, _, _, (s29 _ _ _ _ _), ?_⟩
  refine And.intro (fun h0 => ?_) (fun h0 => ?_)
  · skip
    (first | (cases h0; done) | exact bnn h0 | (have q := of_decide_eq_true h0; exfalso; omega) | exact absurd rfl (ne_of_bneT h0))
  · skip
    refine n_of (N' := KK9) kk9 ?_
    refine n_of (N' := NN8) nn8 ?_
    refine c_cond rfl (fun h1 => ?_) (fun h1 => ?_)
    · skip
      (first | (cases h1; done) | exact bnn h1 | (have q := of_decide_eq_true h1; exfalso; omega) | exact absurd rfl (ne_of_bneT h1))
    · skip
      refine c_skip ?_
      refine n_of (N' := NN7) nn7 ?_
      refine c_seq fun NN10 nn10 => ?_
      refine c_region fun KK11 kk11 => ?_
      refine n_of (N' := KK11) kk11 ?_
      refine n_of (N' := NN10) nn10 ?_
      refine c_seq fun NN12 nn12 => ?_
      refine c_region fun KK13 kk13 => ?_
      refine ⟨rfl, _, _, (s41 _ _ _ _ (by ((try dsimp only); first | assumption | omega | (simp (disch := omega) only [wr64]; omega))) (by ((try dsimp only); first | assumption | omega | (simp (disch := omega) only [wr64]; omega))) (by ((try dsimp only); first | assumption | omega | (simp (disch := omega) only [wr64]; omega)))), ?_⟩
      refine n_of (N' := KK13) kk13 ?_
      refine n_of (N' := NN12) nn12 ?_
      refine c_seq fun NN14 nn14 => ?_
      refine c_region fun KK15 kk15 => ?_
      refine n_of (N' := KK15) kk15 ?_
      refine n_of (N' := NN14) nn14 ?_
      refine c_seq fun NN16 nn16 => ?_
      refine c_region fun KK17 kk17 => ?_
      refine ⟨rfl, _, _, (s42 _ _ _ _ _ (by ((try dsimp only); first | assumption | omega | (simp (disch := omega) only [wr64]; omega))) (by ((try dsimp only); first | assumption | omega | (simp (disch := omega) only [wr64]; omega))) (by ((try dsimp only); first | assumption | omega | (simp (disch := omega) only [wr64]; omega)))), ?_⟩
      refine n_of (N' := KK17) kk17 ?_
      refine n_of (N' := NN16) nn16 ?_
      refine c_seq fun NN18 nn18 => ?_
      refine c_seq fun NN19 nn19 => ?_
      refine c_region fun KK20 kk20 => ?_
      refine n_of (N' := KK20) kk20 ?_
      refine n_of (N' := NN19) nn19 ?_
      refine c_cond rfl (fun h2 => ?_) (fun h2 => ?_)
      · skip
        (first | (cases h2; done) | exact bnn h2 | (have q := of_decide_eq_true h2; exfalso; omega) | exact absurd rfl (ne_of_bneT h2))
      · skip
        have q2 := of_decide_eq_false h2
        (try dsimp only at q2)
        (try simp only [Dat.len] at q2)
        refine c_skip ?_
        refine n_of (N' := NN18) nn18 ?_
        refine c_seq fun NN21 nn21 => ?_
        refine c_seq fun NN22 nn22 => ?_
        refine c_region fun KK23 kk23 => ?_
        refine n_of (N' := KK23) kk23 ?_
        refine n_of (N' := NN22) nn22 ?_
        refine c_cond rfl (fun h3 => ?_) (fun h3 => ?_)
        · skip
          (first | (cases h3; done) | exact bnn h3 | (have q := of_decide_eq_true h3; exfalso; omega) | exact absurd rfl (ne_of_bneT h3))
        · skip
          have q3 := eq_of_bneF h3
          (try dsimp only at q3)
          (try simp only [Dat.len] at q3)
          refine c_skip ?_
          refine n_of (N' := NN21) nn21 ?_
          refine c_seq fun NN24 nn24 => ?_
          refine c_region fun KK25 kk25 => ?_
          refine ⟨rfl, _, _, (s50 _ _ _ _ _ _), ?_⟩
          refine n_of (N' := KK25) kk25 ?_
          refine n_of (N' := NN24) nn24 ?_
          refine c_seq fun NN26 nn26 => ?_
          refine c_seq fun NN27 nn27 => ?_
          refine c_region fun KK28 kk28 => ?_
          refine ⟨rfl, _, _, (s29 _ _ _ _ _), ?_⟩
          refine And.intro (fun h4 => ?_) (fun h4 => ?_)
          · skip
            (first | (cases h4; done) | exact bnn h4 | (have q := of_decide_eq_true h4; exfalso; omega) | exact absurd rfl (ne_of_bneT h4))
          · skip
            refine n_of (N' := KK28) kk28 ?_
            refine n_of (N' := NN27) nn27 ?_
            refine c_cond rfl (fun h5 => ?_) (fun h5 => ?_)
            · skip
              (first | (cases h5; done) | exact bnn h5 | (have q := of_decide_eq_true h5; exfalso; omega) | exact absurd rfl (ne_of_bneT h5))
            · skip
              refine c_skip ?_
              refine n_of (N' := NN26) nn26 ?_
              refine c_seq fun NN29 nn29 => ?_
              refine c_region fun KK30 kk30 => ?_
              refine n_of (N' := KK30) kk30 ?_
              refine n_of (N' := NN29) nn29 ?_
              refine c_seq fun NN31 nn31 => ?_
              refine c_region fun KK32 kk32 => ?_
              refine ⟨rfl, _, _, (s42 _ _ _ _ _ (by ((try dsimp only); first | assumption | omega | (simp (disch := omega) only [wr64]; omega))) (by ((try dsimp only); first | assumption | omega | (simp (disch := omega) only [wr64]; omega))) (by ((try dsimp only); first | assumption | omega | (simp (disch := omega) only [wr64]; omega)))), ?_⟩
              refine n_of (N' := KK32) kk32 ?_
              refine n_of (N' := NN31) nn31 ?_
              refine c_seq fun NN33 nn33 => ?_
              refine c_seq fun NN34 nn34 => ?_
              refine c_region fun KK35 kk35 => ?_
              refine n_of (N' := KK35) kk35 ?_
              refine n_of (N' := NN34) nn34 ?_
              refine c_cond rfl (fun h6 => ?_) (fun h6 => ?_)
              · skip
                (first | (cases h6; done) | exact bnn h6 | (have q := of_decide_eq_true h6; exfalso; omega) | exact absurd rfl (ne_of_bneT h6))
              · skip
                have q6 := of_decide_eq_false h6
                (try dsimp only at q6)
                (try simp only [Dat.len] at q6)
                refine c_skip ?_
                refine n_of (N' := NN33) nn33 ?_
                refine c_seq fun NN36 nn36 => ?_
                refine c_seq fun NN37 nn37 => ?_
                refine c_region fun KK38 kk38 => ?_
                refine n_of (N' := KK38) kk38 ?_
                refine n_of (N' := NN37) nn37 ?_
                refine c_cond rfl (fun h7 => ?_) (fun h7 => ?_)
                · skip
                  (first | (cases h7; done) | exact bnn h7 | (have q := of_decide_eq_true h7; exfalso; omega) | exact absurd rfl (ne_of_bneT h7))
                · skip
                  have q7 := eq_of_bneF h7
                  (try dsimp only at q7)
                  (try simp only [Dat.len] at q7)
                  refine c_skip ?_
                  refine n_of (N' := NN36) nn36 ?_
                  refine c_seq fun NN39 nn39 => ?_
                  refine c_region fun KK40 kk40 => ?_
                  refine n_of (N' := KK40) kk40 ?_
                  refine n_of (N' := NN39) nn39 ?_
                  refine c_ret ?_
                  refine n_of (N' := R0) hR ?_
                  exact ⟨[], rfl, rfl, rfl⟩

theorem s149a (o o2 : Bool) (xs ys : List Nat) (w h w2 k2 : Int) : SP 149 [ar o xs, .var 117 [.sv 2 2], .var 27 [.ex (.int .i64 w), .ex (.int .i64 h), .sl 0, .ex (.int .i64 w2), .ex (.int .i64 k2), .sl 3], ar o2 ys] [bas w h 0, .one (.pv 1 0)] [ar o xs, .var 117 [.sv 2 2], .var 27 [.ex (.int .i64 w), .ex (.int .i64 h), .sl 0, .ex (.int .i64 w2), .ex (.int .i64 k2), .sl 3], ar o2 ys] (exb (!(al w h xs w h))) := by
  refine spec_of_codeR (fn := Try.f149) tyOK mixes Try.func149 rfl rfl rfl ⟨.inl rfl, ⟨.inl rfl, ⟨.inl rfl, ⟨.inl rfl, rfl⟩⟩⟩⟩ fun hg R0 hR => ?_
  refine c_seq fun NN1 nn1 => ?_
  refine c_region fun KK2 kk2 => ?_
  refine n_of (N' := KK2) kk2 ?_
  refine n_of (N' := NN1) nn1 ?_
  refine c_seq fun NN3 nn3 => ?_
  refine c_draw 19 [0, 1, 2, 3, 4, 5, 6, 7, 8, 9, 10, 11, 12, 13, 14, 15, 16, 17, 18] (by kernel_rfl) fun KK4 kk4 => ?_
  refine ⟨rfl, _, _, (s28 _ _ _ _), rfl, ?_⟩
  refine And.intro (fun h0 => ?_) (fun h0 => ?_)
  · skip
    refine And.intro (fun _ => ?_) (fun h => nomatch h)
    refine n_of (N' := KK4) kk4 ?_
    refine n_of (N' := NN3) nn3 ?_
    refine c_ret ?_
    refine n_of (N' := R0) hR ?_
    exact ⟨[], rfl, rfl, congrArg exb (by unfold al; rw [not_t h0]; rfl)⟩
  · skip
    refine And.intro ?_ ?_
    · ((try dsimp only); (try simp only [Dat.len, Int.toNat_natCast]); omega)   -- 0 index
    refine And.intro (fun h1 => ?_) (fun h1 => ?_)
    · skip
      refine n_of (N' := KK4) kk4 ?_
      refine n_of (N' := NN3) nn3 ?_
      refine c_ret ?_
      refine n_of (N' := R0) hR ?_
      exact ⟨[], rfl, rfl, congrArg exb (by unfold al; rw [bneq h1]; simp)⟩
    · skip
      refine And.intro ?_ ?_
      · ((try dsimp only); (try simp only [Dat.len, Int.toNat_natCast]); omega)   -- 1 index
      refine n_of (N' := KK4) kk4 ?_
      refine n_of (N' := NN3) nn3 ?_
      refine c_ret ?_
      refine n_of (N' := R0) hR ?_
      exact ⟨[], rfl, rfl, congrArg exb (by unfold al; rw [not_f h0, bneqF h1]; rfl)⟩

theorem s149b (o o2 : Bool) (xs ys : List Nat) (w h w2 k2 : Int) : SP 149 [ar o2 ys, .var 117 [.sv 2 2], .var 27 [.ex (.int .i64 w), .ex (.int .i64 h), .sl 3, .ex (.int .i64 w2), .ex (.int .i64 k2), .sl 0], ar o xs] [bas w2 k2 0, .one (.pv 1 0)] [ar o2 ys, .var 117 [.sv 2 2], .var 27 [.ex (.int .i64 w), .ex (.int .i64 h), .sl 3, .ex (.int .i64 w2), .ex (.int .i64 k2), .sl 0], ar o xs] (exb (!(al w2 k2 ys w h))) := by
  refine spec_of_codeR (fn := Try.f149) tyOK mixes Try.func149 rfl rfl rfl ⟨.inl rfl, ⟨.inl rfl, ⟨.inl rfl, ⟨.inl rfl, rfl⟩⟩⟩⟩ fun hg R0 hR => ?_
  refine c_seq fun NN1 nn1 => ?_
  refine c_region fun KK2 kk2 => ?_
  refine n_of (N' := KK2) kk2 ?_
  refine n_of (N' := NN1) nn1 ?_
  refine c_seq fun NN3 nn3 => ?_
  refine c_draw 19 [0, 1, 2, 3, 4, 5, 6, 7, 8, 9, 10, 11, 12, 13, 14, 15, 16, 17, 18] (by kernel_rfl) fun KK4 kk4 => ?_
  refine ⟨rfl, _, _, (s28 _ _ _ _), rfl, ?_⟩
  refine And.intro (fun h0 => ?_) (fun h0 => ?_)
  · skip
    refine And.intro (fun _ => ?_) (fun h => nomatch h)
    refine n_of (N' := KK4) kk4 ?_
    refine n_of (N' := NN3) nn3 ?_
    refine c_ret ?_
    refine n_of (N' := R0) hR ?_
    exact ⟨[], rfl, rfl, congrArg exb (by unfold al; rw [not_t h0]; rfl)⟩
  · skip
    refine And.intro ?_ ?_
    · ((try dsimp only); (try simp only [Dat.len, Int.toNat_natCast]); omega)   -- 0 index
    refine And.intro (fun h1 => ?_) (fun h1 => ?_)
    · skip
      refine n_of (N' := KK4) kk4 ?_
      refine n_of (N' := NN3) nn3 ?_
      refine c_ret ?_
      refine n_of (N' := R0) hR ?_
      exact ⟨[], rfl, rfl, congrArg exb (by unfold al; rw [bneq h1]; simp)⟩
    · skip
      refine And.intro ?_ ?_
      · ((try dsimp only); (try simp only [Dat.len, Int.toNat_natCast]); omega)   -- 1 index
      refine n_of (N' := KK4) kk4 ?_
      refine n_of (N' := NN3) nn3 ?_
      refine c_ret ?_
      refine n_of (N' := R0) hR ?_
      exact ⟨[], rfl, rfl, congrArg exb (by unfold al; rw [not_f h0, bneqF h1]; rfl)⟩

end
end Go.AX