/- What the functions of this program do, one contract a function, by that walk: each under what its own statement says. -/
import Derived.Test.YtojajegjmjmekaaB16
set_option linter.unusedVariables false
set_option linter.unusedSimpArgs false
namespace Go.AX
noncomputable section
open Go.RowKit Go.Proofs
set_option maxRecDepth 100000
set_option maxHeartbeats 4000000

/-! FlowsInBasin -/
def Ffx (xs : List Nat) (w h x y : Int) : Nat := fop .quo .f32 (fop .sub .f32 (atV xs w h x (y + 1)) (atV xs w h x (y - 1))) (cn .f32 1073741824)
def Ffy (xs : List Nat) (w h x y : Int) : Nat := fop .quo .f32 (fop .sub .f32 (atV xs w h (x - 1) y) (atV xs w h (x + 1) y)) (cn .f32 1073741824)
theorem halfc (x : Nat) : fop .mul .f32 (cn .f32 1056964608) x = fop .quo .f32 x (cn .f32 1073741824) := by
  rw [cn_of_not (k := .f32) (b := 1056964608) (by decide), cn_of_not (k := .f32) (b := 1073741824) (by decide)]
  exact half_eq x
abbrev Rfx (w h : Int) (xs : List Nat) : List Nat := grid w h (fun x y => Ffx xs w h x y)
abbrev Rfy (w h : Int) (xs : List Nat) : List Nat := grid w h (fun x y => Ffy xs w h x y)
def okflow (w h : Int) (xs : List Nat) : Bool := isB w h xs && (isB w h (Rfx w h xs) && isB w h (Rfy w h xs))
abbrev told2 (b : Bool) (w h : Int) (k k2 : Nat) : AV := .tup [bas (gI b w) (gI b h) k, bas (gI b w) (gI b h) k2, .one (.ex (.bool b))]

theorem s118 (o : Bool) (xs : List Nat) (W H : Nat) (w1 : 3 ≤ W) (w2 : W ≤ 16) (w3 : 3 ≤ H) (w4 : H ≤ 16) (hl : xs.length = W * H) (x y : Int) (hx : 0 ≤ x) (hx2 : x < W) (hy : 0 ≤ y) (hy2 : y < H) : SP 118 [basV W H 1, ar o xs] [i64 x, i64 y, .one (.pv 0 0)] [basV W H 1, ar o xs] (fl32 (Ffx xs W H x y)) := by
  refine spec_of_codeR (fn := Try.f118) tyOK mixes Try.func118 rfl rfl rfl ⟨.inl rfl, ⟨.inl rfl, rfl⟩⟩ fun hg R0 hR => ?_
  refine c_seq fun NN1 nn1 => ?_
  refine c_region fun KK2 kk2 => ?_
  refine n_of (N' := KK2) kk2 ?_
  refine n_of (N' := NN1) nn1 ?_
  refine c_seq fun NN3 nn3 => ?_
  refine c_region fun KK4 kk4 => ?_
  refine ⟨rfl, _, _, (s103 _ _ _ _ (by ((try dsimp only); first | assumption | omega | (simp (disch := omega) only [wr64]; omega))) (by ((try dsimp only); first | assumption | omega | (simp (disch := omega) only [wr64]; omega))) (by ((try dsimp only); first | assumption | omega | (simp (disch := omega) only [wr64]; omega))) (by ((try dsimp only); first | assumption | omega | (simp (disch := omega) only [wr64]; omega))) (by ((try dsimp only); first | assumption | omega | (simp (disch := omega) only [wr64]; omega))) _ _), ?_⟩
  refine ⟨rfl, _, _, (s103 _ _ _ _ (by ((try dsimp only); first | assumption | omega | (simp (disch := omega) only [wr64]; omega))) (by ((try dsimp only); first | assumption | omega | (simp (disch := omega) only [wr64]; omega))) (by ((try dsimp only); first | assumption | omega | (simp (disch := omega) only [wr64]; omega))) (by ((try dsimp only); first | assumption | omega | (simp (disch := omega) only [wr64]; omega))) (by ((try dsimp only); first | assumption | omega | (simp (disch := omega) only [wr64]; omega))) _ _), ?_⟩
  refine n_of (N' := KK4) kk4 ?_
  refine n_of (N' := NN3) nn3 ?_
  refine c_ret ?_
  refine n_of (N' := R0) hR ?_
  exact ⟨[], rfl, rfl, congrArg fl32 (by unfold Ffx; simp (disch := omega) only [wr64])⟩

theorem s95Ffx (o : Bool) (xs : List Nat) (W H : Nat) (w1 : 3 ≤ W) (w2 : W ≤ 16) (w3 : 3 ≤ H) (w4 : H ≤ 16) (hl : xs.length = W * H) : SP 95 [basV W H 1, ar o xs] [i64 W, i64 H, .one (.fn 118 [] [0])] [basV W H 1, ar o xs, ar true (grid W H (fun x y => Ffx xs W H x y))] (.v (bas W H 2)) := by
  refine spec_of_codeR (fn := Try.f95) tyOK mixes Try.func95 rfl rfl rfl ⟨.inl rfl, ⟨.inl rfl, rfl⟩⟩ fun hg R0 hR => ?_
  have hWH : W * H ≤ 256 := (by have := Nat.mul_le_mul w2 w4; omega)
  have hwr := wrWH hWH
  rw [gridN] at hR
  refine c_seq fun NN1 nn1 => ?_
  refine c_region fun KK2 kk2 => ?_
  refine n_of (N' := KK2) kk2 ?_
  refine n_of (N' := NN1) nn1 ?_
  refine c_seq fun NN3 nn3 => ?_
  refine c_region fun KK4 kk4 => ?_
  refine n_of (N' := KK4) kk4 ?_
  refine n_of (N' := NN3) nn3 ?_
  refine c_seq fun NN5 nn5 => ?_
  refine c_seq fun NN6 nn6 => ?_
  refine c_region fun KK7 kk7 => ?_
  refine n_of (N' := KK7) kk7 ?_
  refine n_of (N' := NN6) nn6 ?_
  refine c_block fun XX8 xx8 => ?_
  refine loop_keep [.c 3 2 32 (.f [])] [0, 2, 6, 7, 13] (ι := { i : Nat // i ≤ H }) (fun i => [(14, exi .i64 i.1)]) (fun i => [(4, ar true (bld (fun t => (fun x y => Ffx xs W H x y) ((t % W : Nat) : Int) ((t / W : Nat) : Int)) (i.1 * W)))]) (fun i => H - i.1) ⟨0, Nat.zero_le _⟩ ⟨rfl, trivial⟩ rfl ?_
  refine ⟨?_, ?_, ?_⟩
  · exact ⟨.inr rfl, trivial⟩
  · exact ⟨rfl, rfl, rfl, rfl, congrArg (ar true) (by simp [bld]), trivial⟩
  refine fun ⟨y, hy⟩ NL9 nl9 => ?_
  refine c_norm rfl rfl ?_
  refine c_seq fun NN10 nn10 => ?_
  refine c_region fun KK11 kk11 => ?_
  refine n_of (N' := KK11) kk11 ?_
  refine n_of (N' := NN10) nn10 ?_
  refine c_seq fun NN12 nn12 => ?_
  refine c_cond rfl (fun h0 => ?_) (fun h0 => ?_)
  · skip
    have q0 := of_decide_eq_true h0
    (try dsimp only at q0)
    (try simp only [Dat.len, bld_len, List.length_cons, List.length_nil] at q0)
    refine c_skip ?_
    refine n_of (N' := NN12) nn12 ?_
    refine c_seq fun NN13 nn13 => ?_
    refine c_block fun XX14 xx14 => ?_
    refine c_seq fun NN15 nn15 => ?_
    refine c_region fun KK16 kk16 => ?_
    refine n_of (N' := KK16) kk16 ?_
    refine n_of (N' := NN15) nn15 ?_
    refine c_seq fun NN17 nn17 => ?_
    refine c_region fun KK18 kk18 => ?_
    refine n_of (N' := KK18) kk18 ?_
    refine n_of (N' := NN17) nn17 ?_
    refine c_block fun XX19 xx19 => ?_
    refine loop_keep [] [0, 2, 6, 7, 8, 13, 14, 17] (ι := { i : Nat // i ≤ W }) (fun i => [(18, exi .i64 i.1)]) (fun i => [(4, ar true (bld (fun t => (fun x y => Ffx xs W H x y) ((t % W : Nat) : Int) ((t / W : Nat) : Int)) (y * W + i.1)))]) (fun i => W - i.1) ⟨0, Nat.zero_le _⟩ trivial rfl ?_
    refine ⟨?_, ?_, ?_⟩
    · exact ⟨.inr rfl, trivial⟩
    · exact ⟨rfl, rfl, rfl, rfl, rfl, trivial⟩
    refine fun ⟨x, hx⟩ NL20 nl20 => ?_
    refine c_norm rfl rfl ?_
    have hyx : y * W + x ≤ 256 := Nat.le_trans (Nat.add_le_add (Nat.mul_le_mul_right W (show y ≤ 15 by omega)) hx) (by omega)
    refine c_seq fun NN21 nn21 => ?_
    refine c_region fun KK22 kk22 => ?_
    refine n_of (N' := KK22) kk22 ?_
    refine n_of (N' := NN21) nn21 ?_
    refine c_seq fun NN23 nn23 => ?_
    refine c_cond rfl (fun h1 => ?_) (fun h1 => ?_)
    · skip
      have q1 := of_decide_eq_true h1
      (try dsimp only at q1)
      (try simp only [Dat.len, bld_len, List.length_cons, List.length_nil] at q1)
      refine c_skip ?_
      refine n_of (N' := NN23) nn23 ?_
      refine c_seq fun NN24 nn24 => ?_
      refine c_block fun XX25 xx25 => ?_
      refine c_seq fun NN26 nn26 => ?_
      refine c_region fun KK27 kk27 => ?_
      refine n_of (N' := KK27) kk27 ?_
      refine n_of (N' := NN26) nn26 ?_
      refine c_draw 7 [0, 1, 2, 3, 4, 5, 6] (by kernel_rfl) fun KK28 kk28 => ?_
      refine ⟨rfl, _, _, s118 _ _ _ _ w1 w2 w3 w4 hl _ _ (by (try dsimp only); omega) (by (try dsimp only); omega) (by (try dsimp only); omega) (by (try dsimp only); omega), rfl, ?_⟩
      refine And.intro ?_ ?_
      · (refine ⟨?_, by decide⟩; (try dsimp only); (try simp only [Dat.len, bld_len, List.length_append, List.length_cons, List.length_nil]); omega)   -- 0 append
      refine n_of (N' := KK28) kk28 ?_
      refine n_of (N' := NN24) nn24 ?_
      refine c_region fun KK29 kk29 => ?_
      refine n_of (N' := KK29) kk29 ?_
      refine n_of (N' := NL20) nl20 ?_
      refine ⟨⟨x + 1, by omega⟩, ?_, [0, 1, 2, 3, 4], rfl, ?_, ?_⟩
      · (dsimp only; omega)
      · exact LEq.eq ⟨rfl, rfl, rfl, rfl, congrArg (fun z => ar true (bld _ (y * W + x) ++ [z])) (grid_row (fun x y => Ffx xs W H x y) (W := W) (x := x) (y := y) (by omega)).symm, trivial⟩
      · exact ⟨.inr (congrArg (exi .i64) (wr64 (n := (x : Int) + 1) (by omega) (by omega))), .inr rfl, .inr rfl, .inr rfl, .inr rfl, .inr rfl, .inr rfl, .inr rfl, .inr rfl, trivial⟩
    · skip
      have q1 := of_decide_eq_false h1
      (try dsimp only at q1)
      (try simp only [Dat.len, bld_len, List.length_cons, List.length_nil] at q1)
      refine c_exit ?_
      refine x_here xx19 ?_
      refine n_of (N' := NN13) nn13 ?_
      refine c_region fun KK30 kk30 => ?_
      refine n_of (N' := KK30) kk30 ?_
      refine n_of (N' := NL9) nl9 ?_
      refine ⟨⟨y + 1, by omega⟩, ?_, [0, 1, 2, 3, 4], rfl, ?_, ?_⟩
      · (dsimp only; omega)
      · exact LEq.eq ⟨rfl, rfl, rfl, rfl, congrArg (ar true) (congrArg (bld _) (by (try dsimp only); rw [Nat.add_mul]; omega)), trivial⟩
      · exact ⟨.inr (congrArg (exi .i64) (wr64 (n := (y : Int) + 1) (by omega) (by omega))), .inr rfl, .inr rfl, .inr rfl, .inr rfl, .inr rfl, trivial⟩
  · skip
    have q0 := of_decide_eq_false h0
    (try dsimp only at q0)
    (try simp only [Dat.len, bld_len, List.length_cons, List.length_nil] at q0)
    refine c_exit ?_
    refine x_here xx8 ?_
    refine n_of (N' := NN5) nn5 ?_
    refine c_seq fun NN31 nn31 => ?_
    refine c_region fun KK32 kk32 => ?_
    refine n_of (N' := KK32) kk32 ?_
    refine n_of (N' := NN31) nn31 ?_
    refine c_ret ?_
    refine n_of (N' := R0) hR ?_
    have e : y = H := by omega
    subst e
    exact ⟨[], rfl, by rw [Nat.mul_comm], rfl⟩

theorem s101Ffx (o : Bool) (xs : List Nat) (w h : Int) : SP 101 [ar o xs, basV w h 0] [bas w h 0, .one (.fn 118 [] [1])] [ar o xs, basV w h 0, ar true (gR (isB w h xs && isB w h (grid w h (fun x y => Ffx xs w h x y))) (grid w h (fun x y => Ffx xs w h x y)))] (toldB (isB w h xs && isB w h (grid w h (fun x y => Ffx xs w h x y))) w h 2) := by
  refine spec_of_codeR (fn := Try.f101) tyOK mixes Try.func101 rfl rfl rfl ⟨.inl rfl, ⟨.inl rfl, rfl⟩⟩ fun hg R0 hR => ?_
  refine c_seq fun NN1 nn1 => ?_
  refine c_region fun KK2 kk2 => ?_
  refine n_of (N' := KK2) kk2 ?_
  refine n_of (N' := NN1) nn1 ?_
  refine c_seq fun NN3 nn3 => ?_
  refine c_seq fun NN4 nn4 => ?_
  refine c_region fun KK5 kk5 => ?_
  refine ⟨rfl, _, _, (s28 _ _ _ _), ?_⟩
  refine n_of (N' := KK5) kk5 ?_
  refine n_of (N' := NN4) nn4 ?_
  refine c_cond rfl (fun h0 => ?_) (fun h0 => ?_)
  · skip
    refine c_seq fun NN6 nn6 => ?_
    refine c_region fun KK7 kk7 => ?_
    refine n_of (N' := KK7) kk7 ?_
    refine n_of (N' := NN6) nn6 ?_
    refine c_ret ?_
    refine n_of (N' := R0) hR ?_
    have ok : (isB w h xs && isB w h (grid w h (fun x y => Ffx xs w h x y))) = false := by rw [not_t h0]; rfl
    exact ⟨[.nil 32 (.f [])], rfl, rfl, by rw [ok]; rfl, by rw [ok]; rfl⟩
  · skip
    have hb := not_f h0
    obtain ⟨W, H, rfl, rfl, w1, w2, w3, w4, hl, hWH⟩ := isB_nat hb
    
    refine c_skip ?_
    refine n_of (N' := NN3) nn3 ?_
    refine c_seq fun NN8 nn8 => ?_
    refine c_region fun KK9 kk9 => ?_
    refine ⟨rfl, _, _, s95Ffx _ _ _ _ w1 w2 w3 w4 hl, ?_⟩
    refine ⟨rfl, _, _, (s94 _ _ _), ?_⟩
    refine n_of (N' := KK9) kk9 ?_
    refine n_of (N' := NN8) nn8 ?_
    refine c_ret ?_
    refine n_of (N' := R0) hR ?_
    have ok : (isB W H xs && isB W H (grid W H (fun x y => Ffx xs W H x y))) = isB W H (grid W H (fun x y => Ffx xs W H x y)) := by rw [hb]; rfl
    exact ⟨[], rfl, by rw [ok], by rw [ok]⟩

theorem s119 (o : Bool) (xs : List Nat) (W H : Nat) (w1 : 3 ≤ W) (w2 : W ≤ 16) (w3 : 3 ≤ H) (w4 : H ≤ 16) (hl : xs.length = W * H) (x y : Int) (hx : 0 ≤ x) (hx2 : x < W) (hy : 0 ≤ y) (hy2 : y < H) : SP 119 [basV W H 1, ar o xs] [i64 x, i64 y, .one (.pv 0 0)] [basV W H 1, ar o xs] (fl32 (Ffy xs W H x y)) := by
  refine spec_of_codeR (fn := Try.f119) tyOK mixes Try.func119 rfl rfl rfl ⟨.inl rfl, ⟨.inl rfl, rfl⟩⟩ fun hg R0 hR => ?_
  refine c_seq fun NN1 nn1 => ?_
  refine c_region fun KK2 kk2 => ?_
  refine n_of (N' := KK2) kk2 ?_
  refine n_of (N' := NN1) nn1 ?_
  refine c_seq fun NN3 nn3 => ?_
  refine c_region fun KK4 kk4 => ?_
  refine ⟨rfl, _, _, (s103 _ _ _ _ (by ((try dsimp only); first | assumption | omega | (simp (disch := omega) only [wr64]; omega))) (by ((try dsimp only); first | assumption | omega | (simp (disch := omega) only [wr64]; omega))) (by ((try dsimp only); first | assumption | omega | (simp (disch := omega) only [wr64]; omega))) (by ((try dsimp only); first | assumption | omega | (simp (disch := omega) only [wr64]; omega))) (by ((try dsimp only); first | assumption | omega | (simp (disch := omega) only [wr64]; omega))) _ _), ?_⟩
  refine ⟨rfl, _, _, (s103 _ _ _ _ (by ((try dsimp only); first | assumption | omega | (simp (disch := omega) only [wr64]; omega))) (by ((try dsimp only); first | assumption | omega | (simp (disch := omega) only [wr64]; omega))) (by ((try dsimp only); first | assumption | omega | (simp (disch := omega) only [wr64]; omega))) (by ((try dsimp only); first | assumption | omega | (simp (disch := omega) only [wr64]; omega))) (by ((try dsimp only); first | assumption | omega | (simp (disch := omega) only [wr64]; omega))) _ _), ?_⟩
  refine n_of (N' := KK4) kk4 ?_
  refine n_of (N' := NN3) nn3 ?_
  refine c_ret ?_
  refine n_of (N' := R0) hR ?_
  exact ⟨[], rfl, rfl, congrArg fl32 (by unfold Ffy; simp (disch := omega) only [wr64])⟩

theorem s95Ffy (o : Bool) (xs : List Nat) (W H : Nat) (w1 : 3 ≤ W) (w2 : W ≤ 16) (w3 : 3 ≤ H) (w4 : H ≤ 16) (hl : xs.length = W * H) : SP 95 [basV W H 1, ar o xs] [i64 W, i64 H, .one (.fn 119 [] [0])] [basV W H 1, ar o xs, ar true (grid W H (fun x y => Ffy xs W H x y))] (.v (bas W H 2)) := by
  refine spec_of_codeR (fn := Try.f95) tyOK mixes Try.func95 rfl rfl rfl ⟨.inl rfl, ⟨.inl rfl, rfl⟩⟩ fun hg R0 hR => ?_
  have hWH : W * H ≤ 256 := (by have := Nat.mul_le_mul w2 w4; omega)
  have hwr := wrWH hWH
  rw [gridN] at hR
  refine c_seq fun NN1 nn1 => ?_
  refine c_region fun KK2 kk2 => ?_
  refine n_of (N' := KK2) kk2 ?_
  refine n_of (N' := NN1) nn1 ?_
  refine c_seq fun NN3 nn3 => ?_
  refine c_region fun KK4 kk4 => ?_
  refine n_of (N' := KK4) kk4 ?_
  refine n_of (N' := NN3) nn3 ?_
  refine c_seq fun NN5 nn5 => ?_
  refine c_seq fun NN6 nn6 => ?_
  refine c_region fun KK7 kk7 => ?_
  refine n_of (N' := KK7) kk7 ?_
  refine n_of (N' := NN6) nn6 ?_
  refine c_block fun XX8 xx8 => ?_
  refine loop_keep [.c 3 2 32 (.f [])] [0, 2, 6, 7, 13] (ι := { i : Nat // i ≤ H }) (fun i => [(14, exi .i64 i.1)]) (fun i => [(4, ar true (bld (fun t => (fun x y => Ffy xs W H x y) ((t % W : Nat) : Int) ((t / W : Nat) : Int)) (i.1 * W)))]) (fun i => H - i.1) ⟨0, Nat.zero_le _⟩ ⟨rfl, trivial⟩ rfl ?_
  refine ⟨?_, ?_, ?_⟩
  · exact ⟨.inr rfl, trivial⟩
  · exact ⟨rfl, rfl, rfl, rfl, congrArg (ar true) (by simp [bld]), trivial⟩
  refine fun ⟨y, hy⟩ NL9 nl9 => ?_
  refine c_norm rfl rfl ?_
  refine c_seq fun NN10 nn10 => ?_
  refine c_region fun KK11 kk11 => ?_
  refine n_of (N' := KK11) kk11 ?_
  refine n_of (N' := NN10) nn10 ?_
  refine c_seq fun NN12 nn12 => ?_
  refine c_cond rfl (fun h0 => ?_) (fun h0 => ?_)
  · skip
    have q0 := of_decide_eq_true h0
    (try dsimp only at q0)
    (try simp only [Dat.len, bld_len, List.length_cons, List.length_nil] at q0)
    refine c_skip ?_
    refine n_of (N' := NN12) nn12 ?_
    refine c_seq fun NN13 nn13 => ?_
    refine c_block fun XX14 xx14 => ?_
    refine c_seq fun NN15 nn15 => ?_
    refine c_region fun KK16 kk16 => ?_
    refine n_of (N' := KK16) kk16 ?_
    refine n_of (N' := NN15) nn15 ?_
    refine c_seq fun NN17 nn17 => ?_
    refine c_region fun KK18 kk18 => ?_
    refine n_of (N' := KK18) kk18 ?_
    refine n_of (N' := NN17) nn17 ?_
    refine c_block fun XX19 xx19 => ?_
    refine loop_keep [] [0, 2, 6, 7, 8, 13, 14, 17] (ι := { i : Nat // i ≤ W }) (fun i => [(18, exi .i64 i.1)]) (fun i => [(4, ar true (bld (fun t => (fun x y => Ffy xs W H x y) ((t % W : Nat) : Int) ((t / W : Nat) : Int)) (y * W + i.1)))]) (fun i => W - i.1) ⟨0, Nat.zero_le _⟩ trivial rfl ?_
    refine ⟨?_, ?_, ?_⟩
    · exact ⟨.inr rfl, trivial⟩
    · exact ⟨rfl, rfl, rfl, rfl, rfl, trivial⟩
    refine fun ⟨x, hx⟩ NL20 nl20 => ?_
    refine c_norm rfl rfl ?_
    have hyx : y * W + x ≤ 256 := Nat.le_trans (Nat.add_le_add (Nat.mul_le_mul_right W (show y ≤ 15 by omega)) hx) (by omega)
    refine c_seq fun NN21 nn21 => ?_
    refine c_region fun KK22 kk22 => ?_
    refine n_of (N' := KK22) kk22 ?_
    refine n_of (N' := NN21) nn21 ?_
    refine c_seq fun NN23 nn23 => ?_
    refine c_cond rfl (fun h1 => ?_) (fun h1 => ?_)
    · skip
      have q1 := of_decide_eq_true h1
      (try dsimp only at q1)
      (try simp only [Dat.len, bld_len, List.length_cons, List.length_nil] at q1)
      refine c_skip ?_
      refine n_of (N' := NN23) nn23 ?_
      refine c_seq fun NN24 nn24 => ?_
      refine c_block fun XX25 xx25 => ?_
      refine c_seq fun NN26 nn26 => ?_
      refine c_region fun KK27 kk27 => ?_
      refine n_of (N' := KK27) kk27 ?_
      refine n_of (N' := NN26) nn26 ?_
      refine c_draw 7 [0, 1, 2, 3, 4, 5, 6] (by kernel_rfl) fun KK28 kk28 => ?_
      refine ⟨rfl, _, _, s119 _ _ _ _ w1 w2 w3 w4 hl _ _ (by (try dsimp only); omega) (by (try dsimp only); omega) (by (try dsimp only); omega) (by (try dsimp only); omega), rfl, ?_⟩
      refine And.intro ?_ ?_
      · (refine ⟨?_, by decide⟩; (try dsimp only); (try simp only [Dat.len, bld_len, List.length_append, List.length_cons, List.length_nil]); omega)   -- 0 append
      refine n_of (N' := KK28) kk28 ?_
      refine n_of (N' := NN24) nn24 ?_
      refine c_region fun KK29 kk29 => ?_
      refine n_of (N' := KK29) kk29 ?_
      refine n_of (N' := NL20) nl20 ?_
      refine ⟨⟨x + 1, by omega⟩, ?_, [0, 1, 2, 3, 4], rfl, ?_, ?_⟩
      · (dsimp only; omega)
      · exact LEq.eq ⟨rfl, rfl, rfl, rfl, congrArg (fun z => ar true (bld _ (y * W + x) ++ [z])) (grid_row (fun x y => Ffy xs W H x y) (W := W) (x := x) (y := y) (by omega)).symm, trivial⟩
      · exact ⟨.inr (congrArg (exi .i64) (wr64 (n := (x : Int) + 1) (by omega) (by omega))), .inr rfl, .inr rfl, .inr rfl, .inr rfl, .inr rfl, .inr rfl, .inr rfl, .inr rfl, trivial⟩
    · skip
      have q1 := of_decide_eq_false h1
      (try dsimp only at q1)
      (try simp only [Dat.len, bld_len, List.length_cons, List.length_nil] at q1)
      refine c_exit ?_
      refine x_here xx19 ?_
      refine n_of (N' := NN13) nn13 ?_
      refine c_region fun KK30 kk30 => ?_
      refine n_of (N' := KK30) kk30 ?_
      refine n_of (N' := NL9) nl9 ?_
      refine ⟨⟨y + 1, by omega⟩, ?_, [0, 1, 2, 3, 4], rfl, ?_, ?_⟩
      · (dsimp only; omega)
      · exact LEq.eq ⟨rfl, rfl, rfl, rfl, congrArg (ar true) (congrArg (bld _) (by (try dsimp only); rw [Nat.add_mul]; omega)), trivial⟩
      · exact ⟨.inr (congrArg (exi .i64) (wr64 (n := (y : Int) + 1) (by omega) (by omega))), .inr rfl, .inr rfl, .inr rfl, .inr rfl, .inr rfl, trivial⟩
  · skip
    have q0 := of_decide_eq_false h0
    (try dsimp only at q0)
    (try simp only [Dat.len, bld_len, List.length_cons, List.length_nil] at q0)
    refine c_exit ?_
    refine x_here xx8 ?_
    refine n_of (N' := NN5) nn5 ?_
    refine c_seq fun NN31 nn31 => ?_
    refine c_region fun KK32 kk32 => ?_
    refine n_of (N' := KK32) kk32 ?_
    refine n_of (N' := NN31) nn31 ?_
    refine c_ret ?_
    refine n_of (N' := R0) hR ?_
    have e : y = H := by omega
    subst e
    exact ⟨[], rfl, by rw [Nat.mul_comm], rfl⟩

theorem s101Ffy (o : Bool) (xs : List Nat) (w h : Int) : SP 101 [ar o xs, basV w h 0] [bas w h 0, .one (.fn 119 [] [1])] [ar o xs, basV w h 0, ar true (gR (isB w h xs && isB w h (grid w h (fun x y => Ffy xs w h x y))) (grid w h (fun x y => Ffy xs w h x y)))] (toldB (isB w h xs && isB w h (grid w h (fun x y => Ffy xs w h x y))) w h 2) := by
  refine spec_of_codeR (fn := Try.f101) tyOK mixes Try.func101 rfl rfl rfl ⟨.inl rfl, ⟨.inl rfl, rfl⟩⟩ fun hg R0 hR => ?_
  refine c_seq fun NN1 nn1 => ?_
  refine c_region fun KK2 kk2 => ?_
  refine n_of (N' := KK2) kk2 ?_
  refine n_of (N' := NN1) nn1 ?_
  refine c_seq fun NN3 nn3 => ?_
  refine c_seq fun NN4 nn4 => ?_
  refine c_region fun KK5 kk5 => ?_
  refine ⟨rfl, _, _, (s28 _ _ _ _), ?_⟩
  refine n_of (N' := KK5) kk5 ?_
  refine n_of (N' := NN4) nn4 ?_
  refine c_cond rfl (fun h0 => ?_) (fun h0 => ?_)
  · skip
    refine c_seq fun NN6 nn6 => ?_
    refine c_region fun KK7 kk7 => ?_
    refine n_of (N' := KK7) kk7 ?_
    refine n_of (N' := NN6) nn6 ?_
    refine c_ret ?_
    refine n_of (N' := R0) hR ?_
    have ok : (isB w h xs && isB w h (grid w h (fun x y => Ffy xs w h x y))) = false := by rw [not_t h0]; rfl
    exact ⟨[.nil 32 (.f [])], rfl, rfl, by rw [ok]; rfl, by rw [ok]; rfl⟩
  · skip
    have hb := not_f h0
    obtain ⟨W, H, rfl, rfl, w1, w2, w3, w4, hl, hWH⟩ := isB_nat hb
    
    refine c_skip ?_
    refine n_of (N' := NN3) nn3 ?_
    refine c_seq fun NN8 nn8 => ?_
    refine c_region fun KK9 kk9 => ?_
    refine ⟨rfl, _, _, s95Ffy _ _ _ _ w1 w2 w3 w4 hl, ?_⟩
    refine ⟨rfl, _, _, (s94 _ _ _), ?_⟩
    refine n_of (N' := KK9) kk9 ?_
    refine n_of (N' := NN8) nn8 ?_
    refine c_ret ?_
    refine n_of (N' := R0) hR ?_
    have ok : (isB W H xs && isB W H (grid W H (fun x y => Ffy xs W H x y))) = isB W H (grid W H (fun x y => Ffy xs W H x y)) := by rw [hb]; rfl
    exact ⟨[], rfl, by rw [ok], by rw [ok]⟩

theorem s117 (o : Bool) (xs : List Nat) (w h : Int) (hb : isB w h xs = true) : SP 117 [basV w h 1, ar o xs] [.one (.pv 0 0)] [basV w h 1, ar o xs, ar true (gR (okflow w h xs) (Rfx w h xs)), ar true (gR (okflow w h xs) (Rfy w h xs))] (told2 (okflow w h xs) w h 2 3) := by
  refine spec_of_codeR (fn := Try.f117) tyOK mixes Try.func117 rfl rfl rfl ⟨.inl rfl, ⟨.inl rfl, rfl⟩⟩ fun hg R0 hR => ?_
  obtain ⟨W, H, rfl, rfl, w1, w2, w3, w4, hl, hWH⟩ := isB_nat hb
  have hwr := wrWH hWH
  refine c_seq fun NN1 nn1 => ?_
  refine c_region fun KK2 kk2 => ?_
  refine n_of (N' := KK2) kk2 ?_
  refine n_of (N' := NN1) nn1 ?_
  refine c_seq fun NN3 nn3 => ?_
  refine c_draw2 10 9 5 [0, 1, 2, 3, 4, 5, 6, 7, 8] (by kernel_rfl) fun KK4 kk4 => ?_
  refine ⟨rfl, _, _, (s99 _ _), rfl, ?_⟩
  refine n_of (N' := KK4) kk4 ?_
  refine n_of (N' := NN3) nn3 ?_
  refine c_seq fun NN5 nn5 => ?_
  refine c_draw2 10 9 6 [0, 1, 2, 3, 4, 5, 6, 7, 8] (by kernel_rfl) fun KK6 kk6 => ?_
  refine ⟨rfl, _, _, (s99 _ _), rfl, ?_⟩
  refine n_of (N' := KK6) kk6 ?_
  refine n_of (N' := NN5) nn5 ?_
  refine c_seq fun NN7 nn7 => ?_
  refine c_seq fun NN8 nn8 => ?_
  refine c_region fun KK9 kk9 => ?_
  refine n_of (N' := KK9) kk9 ?_
  refine n_of (N' := NN8) nn8 ?_
  refine c_block fun XX10 xx10 => ?_
  refine loop_keep [] [0, 2, 3, 5, 6, 90, 91] (ι := { i : Nat // i ≤ W * H }) (fun i => [(7, exi .i64 i.1)]) (fun i => [(4, ar true (bld (fun t => (fun x y => Ffx xs W H x y) ((t % W : Nat) : Int) ((t / W : Nat) : Int)) i.1)), (6, ar true (bld (fun t => (fun x y => Ffy xs W H x y) ((t % W : Nat) : Int) ((t / W : Nat) : Int)) i.1))]) (fun i => W * H - i.1) ⟨0, Nat.zero_le _⟩ trivial rfl ?_
  refine ⟨?_, ?_, ?_⟩
  · exact ⟨.inr rfl, trivial⟩
  · exact ⟨rfl, rfl, rfl, rfl, rfl, rfl, rfl, rfl, trivial⟩
  refine fun ⟨i, hi⟩ NL11 nl11 => ?_
  refine c_norm rfl rfl ?_
  obtain ⟨m0, m1, m2, m3⟩ := cellb i W (by omega) (by omega)
  refine c_seq fun NN12 nn12 => ?_
  refine c_seq fun NN13 nn13 => ?_
  refine c_draw 10 [0, 1, 2, 3, 4, 5, 6, 7, 8, 9] (by kernel_rfl) fun KK14 kk14 => ?_
  refine n_of (N' := KK14) kk14 ?_
  refine n_of (N' := NN13) nn13 ?_
  refine c_cond rfl (fun h0 => ?_) (fun h0 => ?_)
  · skip
    have q0 := of_decide_eq_true h0
    (try dsimp only at q0)
    (try simp only [Dat.len, hwr, bld_len, List.length_cons, List.length_nil] at q0)
    refine c_skip ?_
    refine n_of (N' := NN12) nn12 ?_
    refine c_seq fun NN15 nn15 => ?_
    refine c_block fun XX16 xx16 => ?_
    refine c_seq fun NN17 nn17 => ?_
    refine c_region fun KK18 kk18 => ?_
    refine And.intro ?_ ?_
    · omega   -- 0 div
    refine n_of (N' := KK18) kk18 ?_
    refine n_of (N' := NN17) nn17 ?_
    refine c_seq fun NN19 nn19 => ?_
    refine c_region fun KK20 kk20 => ?_
    refine And.intro ?_ ?_
    · omega   -- 1 div
    refine n_of (N' := KK20) kk20 ?_
    refine n_of (N' := NN19) nn19 ?_
    refine c_seq fun NN21 nn21 => ?_
    refine c_draw 15 [0, 1, 2, 3, 4, 5, 7, 8, 9, 10, 6, 11, 12, 13, 14] (by kernel_rfl) fun KK22 kk22 => ?_
    refine ⟨rfl, _, _, s100 _ _ _ _ w1 w2 w3 w4 hl _ _, rfl, ?_⟩
    refine ⟨rfl, _, _, s100 _ _ _ _ w1 w2 w3 w4 hl _ _, rfl, ?_⟩
    refine And.intro ?_ ?_
    · (refine ⟨?_, by decide⟩; (try dsimp only); (try simp only [Dat.len, Int.toNat_natCast, hwr, bld_len, List.length_cons, List.length_nil]); omega)   -- 2 append
    refine n_of (N' := KK22) kk22 ?_
    refine n_of (N' := NN21) nn21 ?_
    refine c_draw 15 [0, 1, 2, 3, 4, 5, 7, 8, 9, 10, 6, 11, 12, 13, 14] (by kernel_rfl) fun KK23 kk23 => ?_
    refine ⟨rfl, _, _, s100 _ _ _ _ w1 w2 w3 w4 hl _ _, rfl, ?_⟩
    refine ⟨rfl, _, _, s100 _ _ _ _ w1 w2 w3 w4 hl _ _, rfl, ?_⟩
    refine And.intro ?_ ?_
    · (refine ⟨?_, by decide⟩; (try dsimp only); (try simp only [Dat.len, Int.toNat_natCast, hwr, bld_len, List.length_cons, List.length_nil]); omega)   -- 3 append
    refine n_of (N' := KK23) kk23 ?_
    refine n_of (N' := NN15) nn15 ?_
    refine c_region fun KK24 kk24 => ?_
    refine n_of (N' := KK24) kk24 ?_
    refine n_of (N' := NL11) nl11 ?_
    refine ⟨⟨i + 1, by omega⟩, ?_, [0, 1, 2, 3, 4, 5, 6, 7], rfl, ?_, ?_⟩
    · (dsimp only; omega)
    · exact LEq.eq ⟨rfl, rfl, rfl, rfl, congrArg (fun z => ar true (bld _ i ++ [z])) (by (try dsimp only); unfold Ffx; simp only [tdiv_nat, tmod_nat]; simp (disch := omega) only [wr64]; rw [halfc]), rfl, congrArg (fun z => ar true (bld _ i ++ [z])) (by (try dsimp only); unfold Ffy; simp only [tdiv_nat, tmod_nat]; simp (disch := omega) only [wr64]; rw [halfc]), rfl, trivial⟩
    · exact ⟨.inr (congrArg (exi .i64) (wr64 (n := (i : Int) + 1) (by omega) (by omega))), .inr rfl, .inr rfl, .inr rfl, .inr rfl, .inr rfl, .inr rfl, .inr rfl, trivial⟩
  · skip
    have q0 := of_decide_eq_false h0
    (try dsimp only at q0)
    (try simp only [Dat.len, hwr, bld_len, List.length_cons, List.length_nil] at q0)
    have e : i = W * H := by omega
    subst e
    refine c_exit ?_
    refine x_here xx10 ?_
    refine n_of (N' := NN7) nn7 ?_
    refine c_seq fun NN25 nn25 => ?_
    refine c_seq fun NN26 nn26 => ?_
    refine c_region fun KK27 kk27 => ?_
    refine ⟨rfl, _, _, s79 _ _ _ _, ?_⟩
    refine And.intro (fun h1 => ?_) (fun h1 => ?_)
    · skip
      refine n_of (N' := KK27) kk27 ?_
      refine n_of (N' := NN26) nn26 ?_
      refine c_cond rfl (fun _ => ?_) (fun h => nomatch h)
      refine c_seq fun NN28 nn28 => ?_
      refine c_region fun KK29 kk29 => ?_
      refine n_of (N' := KK29) kk29 ?_
      refine n_of (N' := NN28) nn28 ?_
      refine c_ret ?_
      refine n_of (N' := R0) hR ?_
      have ok : okflow W H xs = false := by unfold okflow Rfx; rw [gridN, not_t h1]; simp
      exact ⟨[.nil 32 (.f []), .nil 32 (.f [])], rfl, rfl, rfl, by rw [ok]; rfl, by rw [ok]; rfl⟩
    · skip
      refine ⟨rfl, _, _, s79 _ _ _ _, ?_⟩
      refine n_of (N' := KK27) kk27 ?_
      refine n_of (N' := NN26) nn26 ?_
      refine c_cond rfl (fun h2 => ?_) (fun h2 => ?_)
      · skip
        refine c_seq fun NN30 nn30 => ?_
        refine c_region fun KK31 kk31 => ?_
        refine n_of (N' := KK31) kk31 ?_
        refine n_of (N' := NN30) nn30 ?_
        refine c_ret ?_
        refine n_of (N' := R0) hR ?_
        have ok : okflow W H xs = false := by unfold okflow Rfy; rw [gridN W H (fun x y => Ffy xs W H x y), not_t h2]; simp
        exact ⟨[.nil 32 (.f []), .nil 32 (.f [])], rfl, rfl, rfl, by rw [ok]; rfl, by rw [ok]; rfl⟩
      · skip
        refine c_skip ?_
        refine n_of (N' := NN25) nn25 ?_
        refine c_seq fun NN32 nn32 => ?_
        refine c_drawE [2, 3, 4] ?_
        refine And.intro ?_ ?_
        · skip
          refine ⟨[0, 1], ⟨by kernel_rfl, rfl⟩, ?_⟩
          refine And.intro ?_ (And.intro ?_ (trivial))
          · skip
            refine ⟨[1, 2], ⟨by kernel_rfl, rfl⟩, ?_⟩
            refine And.intro ?_ (And.intro ?_ (trivial))
            · skip
              refine ⟨[2], ⟨by kernel_rfl, rfl⟩, ?_⟩
              refine And.intro ?_ (trivial)
              refine ⟨[3], ⟨by kernel_rfl, rfl⟩, ?_⟩
              refine And.intro ?_ (trivial)
              refine ⟨[4], ⟨by kernel_rfl, rfl⟩, ?_⟩
              refine And.intro ?_ (trivial)
              exact ⟨by kernel_rfl, rfl, ⟨.inr rfl, .inr rfl, .inr rfl, trivial⟩⟩
            refine ⟨[1], ⟨by kernel_rfl, rfl⟩, ?_⟩
            refine And.intro ?_ (trivial)
            refine ⟨[3], ⟨by kernel_rfl, rfl⟩, ?_⟩
            refine And.intro ?_ (trivial)
            refine ⟨[4], ⟨by kernel_rfl, rfl⟩, ?_⟩
            refine And.intro ?_ (trivial)
            exact ⟨by kernel_rfl, rfl, ⟨.inr rfl, .inr rfl, .inr rfl, trivial⟩⟩
          refine ⟨[0], ⟨by kernel_rfl, rfl⟩, ?_⟩
          refine And.intro ?_ (trivial)
          refine ⟨[2], ⟨by kernel_rfl, rfl⟩, ?_⟩
          refine And.intro ?_ (trivial)
          refine ⟨[3], ⟨by kernel_rfl, rfl⟩, ?_⟩
          refine And.intro ?_ (trivial)
          refine ⟨[4], ⟨by kernel_rfl, rfl⟩, ?_⟩
          refine And.intro ?_ (trivial)
          exact ⟨by kernel_rfl, rfl, ⟨.inr rfl, .inr rfl, .inr rfl, trivial⟩⟩
        refine n_of (N' := NN32) nn32 ?_
        refine c_ret ?_
        refine n_of (N' := R0) hR ?_
        have ok : okflow W H xs = true := by unfold okflow; rw [hb]; unfold Rfx Rfy; rw [gridN, gridN, not_f h1, not_f h2]; rfl
        exact ⟨[], rfl, by rw [ok]; unfold Rfx Rfy; rw [gridN, gridN]; rfl, by rw [ok]; rfl⟩

theorem s60 (o : Bool) (xs : List Nat) (w h : Int) : SP 60 [ar o xs] [bas w h 0] [ar o xs, ar true (gR (okflow w h xs) (Rfx w h xs)), ar true (gR (okflow w h xs) (Rfy w h xs))] (told2 (okflow w h xs) w h 1 2) := by
  refine spec_of_codeR (fn := Try.f60) tyOK mixes Try.func60 rfl rfl rfl ⟨.inl rfl, rfl⟩ fun hg R0 hR => ?_
  refine c_seq fun NN1 nn1 => ?_
  refine c_region fun KK2 kk2 => ?_
  refine n_of (N' := KK2) kk2 ?_
  refine n_of (N' := NN1) nn1 ?_
  refine c_seq fun NN3 nn3 => ?_
  refine c_seq fun NN4 nn4 => ?_
  refine c_region fun KK5 kk5 => ?_
  refine ⟨rfl, _, _, (s79 _ _ _ _), ?_⟩
  refine n_of (N' := KK5) kk5 ?_
  refine n_of (N' := NN4) nn4 ?_
  refine c_cond rfl (fun h0 => ?_) (fun h0 => ?_)
  · skip
    refine c_seq fun NN6 nn6 => ?_
    refine c_region fun KK7 kk7 => ?_
    refine n_of (N' := KK7) kk7 ?_
    refine n_of (N' := NN6) nn6 ?_
    refine c_ret ?_
    refine n_of (N' := R0) hR ?_
    have ok : okflow w h xs = false := by unfold okflow; rw [not_t h0]; rfl
    exact ⟨[.nil 32 (.f []), .nil 32 (.f [])], rfl, rfl, rfl, by rw [ok]; rfl, by rw [ok]; rfl⟩
  · skip
    have hb := not_f h0
    refine c_skip ?_
    refine n_of (N' := NN3) nn3 ?_
    refine c_seq fun NN8 nn8 => ?_
    refine c_region fun KK9 kk9 => ?_
    refine ⟨rfl, _, _, (s117 _ _ _ _ (by ((try dsimp only); first | assumption | omega | (simp (disch := omega) only [wr64]; omega)))), ?_⟩
    refine n_of (N' := KK9) kk9 ?_
    refine n_of (N' := NN8) nn8 ?_
    refine c_ret ?_
    refine n_of (N' := R0) hR ?_
    exact ⟨[], rfl, rfl, rfl⟩

theorem s61 (o : Bool) (xs : List Nat) (w h : Int) : SP 61 [ar o xs] [bas w h 0] [ar o xs, ar true (gR (okflow w h xs) (Rfx w h xs)), ar true (gR (okflow w h xs) (Rfy w h xs))] (told2 (okflow w h xs) w h 1 2) := by
  refine spec_of_codeR (fn := Try.f61) tyOK mixes Try.func61 rfl rfl rfl ⟨.inl rfl, rfl⟩ fun hg R0 hR => ?_
  refine c_seq fun NN1 nn1 => ?_
  refine c_region fun KK2 kk2 => ?_
  refine n_of (N' := KK2) kk2 ?_
  refine n_of (N' := NN1) nn1 ?_
  refine c_seq fun NN3 nn3 => ?_
  refine c_region fun KK4 kk4 => ?_
  refine ⟨rfl, _, _, s101Ffx _ _ _ _, ?_⟩
  refine n_of (N' := KK4) kk4 ?_
  refine n_of (N' := NN3) nn3 ?_
  refine c_seq fun NN5 nn5 => ?_
  refine c_region fun KK6 kk6 => ?_
  refine ⟨rfl, _, _, s101Ffy _ _ _ _, ?_⟩
  refine n_of (N' := KK6) kk6 ?_
  refine n_of (N' := NN5) nn5 ?_
  refine c_seq fun NN7 nn7 => ?_
  refine c_seq fun NN8 nn8 => ?_
  refine c_region fun KK9 kk9 => ?_
  refine And.intro (fun h0 => ?_) (fun h0 => ?_)
  · skip
    refine n_of (N' := KK9) kk9 ?_
    refine n_of (N' := NN8) nn8 ?_
    refine c_cond rfl (fun _ => ?_) (fun h => nomatch h)
    refine c_seq fun NN10 nn10 => ?_
    refine c_region fun KK11 kk11 => ?_
    refine n_of (N' := KK11) kk11 ?_
    refine n_of (N' := NN10) nn10 ?_
    refine c_ret ?_
    refine n_of (N' := R0) hR ?_
    have ok : okflow w h xs = false := by
      have q : (isB w h xs && isB w h (Rfx w h xs)) = false := not_t h0
      unfold okflow
      cases hb : isB w h xs
      · rfl
      · rw [hb, Bool.true_and] at q; rw [q]; rfl
    exact ⟨[.nil 32 (.f []), .nil 32 (.f [])], rfl, rfl, rfl, by rw [ok]; rfl, by rw [ok]; rfl⟩
  · skip
    refine n_of (N' := KK9) kk9 ?_
    refine n_of (N' := NN8) nn8 ?_
    refine c_cond rfl (fun h1 => ?_) (fun h1 => ?_)
    · skip
      refine c_seq fun NN12 nn12 => ?_
      refine c_region fun KK13 kk13 => ?_
      refine n_of (N' := KK13) kk13 ?_
      refine n_of (N' := NN12) nn12 ?_
      refine c_ret ?_
      refine n_of (N' := R0) hR ?_
      have ok : okflow w h xs = false := by
        have q : (isB w h xs && isB w h (Rfy w h xs)) = false := not_t h1
        unfold okflow
        cases hb : isB w h xs
        · rfl
        · rw [hb, Bool.true_and] at q; rw [q]; simp
      exact ⟨[.nil 32 (.f []), .nil 32 (.f [])], rfl, rfl, rfl, by rw [ok]; rfl, by rw [ok]; rfl⟩
    · skip
      refine c_skip ?_
      refine n_of (N' := NN7) nn7 ?_
      refine c_seq fun NN14 nn14 => ?_
      refine c_drawE [2, 3, 4] ?_
      refine And.intro ?_ ?_
      · skip
        refine ⟨[0, 1], ⟨by kernel_rfl, rfl⟩, ?_⟩
        refine And.intro ?_ (And.intro ?_ (trivial))
        · skip
          refine ⟨[1, 2], ⟨by kernel_rfl, rfl⟩, ?_⟩
          refine And.intro ?_ (And.intro ?_ (trivial))
          · skip
            refine ⟨[2], ⟨by kernel_rfl, rfl⟩, ?_⟩
            refine And.intro ?_ (trivial)
            refine ⟨[3], ⟨by kernel_rfl, rfl⟩, ?_⟩
            refine And.intro ?_ (trivial)
            refine ⟨[4], ⟨by kernel_rfl, rfl⟩, ?_⟩
            refine And.intro ?_ (trivial)
            exact ⟨by kernel_rfl, rfl, ⟨.inr rfl, .inr rfl, .inr rfl, trivial⟩⟩
          refine ⟨[1], ⟨by kernel_rfl, rfl⟩, ?_⟩
          refine And.intro ?_ (trivial)
          refine ⟨[3], ⟨by kernel_rfl, rfl⟩, ?_⟩
          refine And.intro ?_ (trivial)
          refine ⟨[4], ⟨by kernel_rfl, rfl⟩, ?_⟩
          refine And.intro ?_ (trivial)
          exact ⟨by kernel_rfl, rfl, ⟨.inr rfl, .inr rfl, .inr rfl, trivial⟩⟩
        refine ⟨[0], ⟨by kernel_rfl, rfl⟩, ?_⟩
        refine And.intro ?_ (trivial)
        refine ⟨[2], ⟨by kernel_rfl, rfl⟩, ?_⟩
        refine And.intro ?_ (trivial)
        refine ⟨[3], ⟨by kernel_rfl, rfl⟩, ?_⟩
        refine And.intro ?_ (trivial)
        refine ⟨[4], ⟨by kernel_rfl, rfl⟩, ?_⟩
        refine And.intro ?_ (trivial)
        exact ⟨by kernel_rfl, rfl, ⟨.inr rfl, .inr rfl, .inr rfl, trivial⟩⟩
      refine n_of (N' := NN14) nn14 ?_
      refine c_ret ?_
      refine n_of (N' := R0) hR ?_
      have q1 : (isB w h xs && isB w h (Rfx w h xs)) = true := not_f h0
      have q2 : (isB w h xs && isB w h (Rfy w h xs)) = true := not_f h1
      have ok : okflow w h xs = true := by
        simp only [Bool.and_eq_true] at q1 q2
        unfold okflow; rw [q1.1, q1.2, q2.2]; rfl
      exact ⟨[], rfl, by rw [ok, q1, q2], by rw [ok, q1, q2]⟩

theorem s16 (o : Bool) (xs : List Nat) (w h : Int) : SP 16 [ar o xs] [bas w h 0] [ar o xs] (exb true) := by
  refine spec_of_codeR (fn := Try.f16) tyOK mixes Try.func16 rfl rfl rfl ⟨.inl rfl, rfl⟩ fun hg R0 hR => ?_
  have hR1 : (gR (okflow w h xs) (Rfx w h xs)).length ≤ 256 := gR_len fun hb => isB_len256 (w := w) (h := h) (by unfold okflow at hb; simp only [Bool.and_eq_true] at hb; exact hb.2.1)
  have hR2 : (gR (okflow w h xs) (Rfy w h xs)).length ≤ 256 := gR_len fun hb => isB_len256 (w := w) (h := h) (by unfold okflow at hb; simp only [Bool.and_eq_true] at hb; exact hb.2.2)
  refine c_seq fun NN1 nn1 => ?_
  refine c_region fun KK2 kk2 => ?_
  refine n_of (N' := KK2) kk2 ?_
  refine n_of (N' := NN1) nn1 ?_
  refine c_seq fun NN3 nn3 => ?_
  refine c_region fun KK4 kk4 => ?_
  refine n_of (N' := KK4) kk4 ?_
  refine n_of (N' := NN3) nn3 ?_
  refine c_seq fun NN5 nn5 => ?_
  refine c_region fun KK6 kk6 => ?_
  refine ⟨rfl, _, _, (s25 _ _ _ _ _), ?_⟩
  refine n_of (N' := KK6) kk6 ?_
  refine n_of (N' := NN5) nn5 ?_
  refine c_seq fun NN7 nn7 => ?_
  refine c_seq fun NN8 nn8 => ?_
  refine c_region fun KK9 kk9 => ?_
  refine n_of (N' := KK9) kk9 ?_
  refine n_of (N' := NN8) nn8 ?_
  refine c_cond rfl (fun h0 => ?_) (fun h0 => ?_)
  · skip
    have q0 := of_decide_eq_true h0
    (try dsimp only at q0)
    (try simp only [Dat.len] at q0)
    refine c_seq fun NN10 nn10 => ?_
    refine c_region fun KK11 kk11 => ?_
    refine n_of (N' := KK11) kk11 ?_
    refine n_of (N' := NN10) nn10 ?_
    refine c_ret ?_
    refine n_of (N' := R0) hR ?_
    exact ⟨[], rfl, rfl, rfl⟩
  · skip
    have q0 := of_decide_eq_false h0
    (try dsimp only at q0)
    (try simp only [Dat.len] at q0)
    have hn : xs.length ≤ 1048576 := sz_le h0 hg.1.1.1
    refine c_skip ?_
    refine n_of (N' := NN7) nn7 ?_
    refine c_seq fun NN12 nn12 => ?_
    refine c_region fun KK13 kk13 => ?_
    refine ⟨rfl, _, _, (s27 _ _ (by ((try dsimp only); first | assumption | omega | (simp (disch := omega) only [wr64]; omega))) _ _), ?_⟩
    refine ⟨rfl, _, _, (s60 _ _ _ _), ?_⟩
    refine n_of (N' := KK13) kk13 ?_
    refine n_of (N' := NN12) nn12 ?_
    refine c_seq fun NN14 nn14 => ?_
    refine c_region fun KK15 kk15 => ?_
    refine ⟨rfl, _, _, (s27 _ _ (by ((try dsimp only); first | assumption | omega | (simp (disch := omega) only [wr64]; omega))) _ _), ?_⟩
    refine n_of (N' := KK15) kk15 ?_
    refine n_of (N' := NN14) nn14 ?_
    refine c_seq fun NN16 nn16 => ?_
    refine c_region fun KK17 kk17 => ?_
    refine ⟨rfl, _, _, (s61 _ _ _ _), ?_⟩
    refine n_of (N' := KK17) kk17 ?_
    refine n_of (N' := NN16) nn16 ?_
    refine c_seq fun NN18 nn18 => ?_
    refine c_seq fun NN19 nn19 => ?_
    refine c_region fun KK20 kk20 => ?_
    refine ⟨rfl, _, _, (s29 _ _ _ _ _), ?_⟩
    refine And.intro (fun h1 => ?_) (fun h1 => ?_)
    · skip
      (first | (cases h1; done) | exact bnn h1 | (have q := of_decide_eq_true h1; exfalso; omega) | exact absurd rfl (ne_of_bneT h1))
    · skip
      refine ⟨rfl, _, _, (s29 _ _ _ _ _), ?_⟩
      refine And.intro (fun h2 => ?_) (fun h2 => ?_)
      · skip
        (first | (cases h2; done) | exact bnn h2 | (have q := of_decide_eq_true h2; exfalso; omega) | exact absurd rfl (ne_of_bneT h2))
      · skip
        refine n_of (N' := KK20) kk20 ?_
        refine n_of (N' := NN19) nn19 ?_
        refine c_cond rfl (fun h3 => ?_) (fun h3 => ?_)
        · skip
          (first | (cases h3; done) | exact bnn h3 | (have q := of_decide_eq_true h3; exfalso; omega) | exact absurd rfl (ne_of_bneT h3))
        · skip
          refine c_skip ?_
          refine n_of (N' := NN18) nn18 ?_
          refine c_seq fun NN21 nn21 => ?_
          refine c_seq fun NN22 nn22 => ?_
          refine c_draw 3 [0, 1, 2] (by kernel_rfl) fun KK23 kk23 => ?_
          refine ⟨rfl, _, _, (s27 _ _ (by ((try dsimp only); first | assumption | omega | (simp (disch := omega) only [wr64]; omega))) _ _), rfl, ?_⟩
          refine ⟨rfl, _, _, (s29 _ _ _ _ _), ?_⟩
          refine n_of (N' := KK23) kk23 ?_
          refine n_of (N' := NN22) nn22 ?_
          refine c_cond rfl (fun h4 => ?_) (fun h4 => ?_)
          · skip
            (first | (cases h4; done) | exact bnn h4 | (have q := of_decide_eq_true h4; exfalso; omega) | exact absurd rfl (ne_of_bneT h4))
          · skip
            refine c_skip ?_
            refine n_of (N' := NN21) nn21 ?_
            refine c_seq fun NN24 nn24 => ?_
            refine c_region fun KK25 kk25 => ?_
            refine n_of (N' := KK25) kk25 ?_
            refine n_of (N' := NN24) nn24 ?_
            refine c_seq fun NN26 nn26 => ?_
            refine c_region fun KK27 kk27 => ?_
            refine ⟨rfl, _, _, (s41 _ _ _ _ (by ((try dsimp only); first | assumption | omega | (simp (disch := omega) only [wr64]; omega))) (by ((try dsimp only); first | assumption | omega | (simp (disch := omega) only [wr64]; omega))) (by ((try dsimp only); first | assumption | omega | (simp (disch := omega) only [wr64]; omega)))), ?_⟩
            refine n_of (N' := KK27) kk27 ?_
            refine n_of (N' := NN26) nn26 ?_
            refine c_seq fun NN28 nn28 => ?_
            refine c_seq fun NN29 nn29 => ?_
            refine c_region fun KK30 kk30 => ?_
            refine And.intro (fun h5 => ?_) (fun h5 => ?_)
            · skip
              (first | (cases h5; done) | exact bnn h5 | (have q := of_decide_eq_true h5; exfalso; omega) | exact absurd rfl (ne_of_bneT h5))
            · skip
              have q5 := of_decide_eq_false h5
              (try dsimp only at q5)
              (try simp only [Dat.len] at q5)
              refine ⟨rfl, _, _, (s29 _ _ _ _ _), ?_⟩
              refine And.intro (fun h6 => ?_) (fun h6 => ?_)
              · skip
                (first | (cases h6; done) | exact bnn h6 | (have q := of_decide_eq_true h6; exfalso; omega) | exact absurd rfl (ne_of_bneT h6))
              · skip
                refine ⟨rfl, _, _, (s29 _ _ _ _ _), ?_⟩
                refine And.intro (fun h7 => ?_) (fun h7 => ?_)
                · skip
                  (first | (cases h7; done) | exact bnn h7 | (have q := of_decide_eq_true h7; exfalso; omega) | exact absurd rfl (ne_of_bneT h7))
                · skip
                  refine n_of (N' := KK30) kk30 ?_
                  refine n_of (N' := NN29) nn29 ?_
                  refine c_cond rfl (fun h8 => ?_) (fun h8 => ?_)
                  · skip
                    (first | (cases h8; done) | exact bnn h8 | (have q := of_decide_eq_true h8; exfalso; omega) | exact absurd rfl (ne_of_bneT h8))
                  · skip
                    refine c_skip ?_
                    refine n_of (N' := NN28) nn28 ?_
                    refine c_seq fun NN31 nn31 => ?_
                    refine c_region fun KK32 kk32 => ?_
                    refine n_of (N' := KK32) kk32 ?_
                    refine n_of (N' := NN31) nn31 ?_
                    refine c_seq fun NN33 nn33 => ?_
                    refine c_region fun KK34 kk34 => ?_
                    refine ⟨rfl, _, _, (s41 _ _ _ _ (by ((try dsimp only); first | assumption | omega | (simp (disch := omega) only [wr64]; omega))) (by ((try dsimp only); first | assumption | omega | (simp (disch := omega) only [wr64]; omega))) (by ((try dsimp only); first | assumption | omega | (simp (disch := omega) only [wr64]; omega)))), ?_⟩
                    refine n_of (N' := KK34) kk34 ?_
                    refine n_of (N' := NN33) nn33 ?_
                    refine c_seq fun NN35 nn35 => ?_
                    refine c_region fun KK36 kk36 => ?_
                    refine ⟨rfl, _, _, (s41 _ _ _ _ (by ((try dsimp only); first | assumption | omega | (simp (disch := omega) only [wr64]; omega))) (by ((try dsimp only); first | assumption | omega | (simp (disch := omega) only [wr64]; omega))) (by ((try dsimp only); first | assumption | omega | (simp (disch := omega) only [wr64]; omega)))), ?_⟩
                    refine n_of (N' := KK36) kk36 ?_
                    refine n_of (N' := NN35) nn35 ?_
                    refine c_seq fun NN37 nn37 => ?_
                    refine c_region fun KK38 kk38 => ?_
                    refine n_of (N' := KK38) kk38 ?_
                    refine n_of (N' := NN37) nn37 ?_
                    refine c_seq fun NN39 nn39 => ?_
                    refine c_region fun KK40 kk40 => ?_
                    refine ⟨rfl, _, _, (s42 _ _ _ _ _ (by ((try dsimp only); first | assumption | omega | (simp (disch := omega) only [wr64]; omega))) (by ((try dsimp only); first | assumption | omega | (simp (disch := omega) only [wr64]; omega))) (by ((try dsimp only); first | assumption | omega | (simp (disch := omega) only [wr64]; omega)))), ?_⟩
                    refine n_of (N' := KK40) kk40 ?_
                    refine n_of (N' := NN39) nn39 ?_
                    refine c_seq fun NN41 nn41 => ?_
                    refine c_seq fun NN42 nn42 => ?_
                    refine c_region fun KK43 kk43 => ?_
                    refine n_of (N' := KK43) kk43 ?_
                    refine n_of (N' := NN42) nn42 ?_
                    refine c_cond rfl (fun h9 => ?_) (fun h9 => ?_)
                    · skip
                      (first | (cases h9; done) | exact bnn h9 | (have q := of_decide_eq_true h9; exfalso; omega) | exact absurd rfl (ne_of_bneT h9))
                    · skip
                      have q9 := of_decide_eq_false h9
                      (try dsimp only at q9)
                      (try simp only [Dat.len] at q9)
                      refine c_skip ?_
                      refine n_of (N' := NN41) nn41 ?_
                      refine c_seq fun NN44 nn44 => ?_
                      refine c_region fun KK45 kk45 => ?_
                      refine ⟨rfl, _, _, (s42 _ _ _ _ _ (by ((try dsimp only); first | assumption | omega | (simp (disch := omega) only [wr64]; omega))) (by ((try dsimp only); first | assumption | omega | (simp (disch := omega) only [wr64]; omega))) (by ((try dsimp only); first | assumption | omega | (simp (disch := omega) only [wr64]; omega)))), ?_⟩
                      refine n_of (N' := KK45) kk45 ?_
                      refine n_of (N' := NN44) nn44 ?_
                      refine c_seq fun NN46 nn46 => ?_
                      refine c_seq fun NN47 nn47 => ?_
                      refine c_region fun KK48 kk48 => ?_
                      refine n_of (N' := KK48) kk48 ?_
                      refine n_of (N' := NN47) nn47 ?_
                      refine c_cond rfl (fun h10 => ?_) (fun h10 => ?_)
                      · skip
                        (first | (cases h10; done) | exact bnn h10 | (have q := of_decide_eq_true h10; exfalso; omega) | exact absurd rfl (ne_of_bneT h10))
                      · skip
                        have q10 := of_decide_eq_false h10
                        (try dsimp only at q10)
                        (try simp only [Dat.len] at q10)
                        refine c_skip ?_
                        refine n_of (N' := NN46) nn46 ?_
                        refine c_seq fun NN49 nn49 => ?_
                        refine c_seq fun NN50 nn50 => ?_
                        refine c_region fun KK51 kk51 => ?_
                        refine n_of (N' := KK51) kk51 ?_
                        refine n_of (N' := NN50) nn50 ?_
                        refine c_cond rfl (fun h11 => ?_) (fun h11 => ?_)
                        · skip
                          (first | (cases h11; done) | exact bnn h11 | (have q := of_decide_eq_true h11; exfalso; omega) | exact absurd rfl (ne_of_bneT h11))
                        · skip
                          have q11 := eq_of_bneF h11
                          (try dsimp only at q11)
                          (try simp only [Dat.len] at q11)
                          refine c_skip ?_
                          refine n_of (N' := NN49) nn49 ?_
                          refine c_seq fun NN52 nn52 => ?_
                          refine c_region fun KK53 kk53 => ?_
                          refine ⟨rfl, _, _, (s27 _ _ (by ((try dsimp only); first | assumption | omega | (simp (disch := omega) only [wr64]; omega))) _ _), ?_⟩
                          refine ⟨rfl, _, _, (s61 _ _ _ _), ?_⟩
                          refine n_of (N' := KK53) kk53 ?_
                          refine n_of (N' := NN52) nn52 ?_
                          refine c_seq fun NN54 nn54 => ?_
                          refine c_seq fun NN55 nn55 => ?_
                          refine c_region fun KK56 kk56 => ?_
                          refine ⟨rfl, _, _, (s29 _ _ _ _ _), ?_⟩
                          refine And.intro (fun h12 => ?_) (fun h12 => ?_)
                          · skip
                            (first | (cases h12; done) | exact bnn h12 | (have q := of_decide_eq_true h12; exfalso; omega) | exact absurd rfl (ne_of_bneT h12))
                          · skip
                            refine ⟨rfl, _, _, (s29 _ _ _ _ _), ?_⟩
                            refine And.intro (fun h13 => ?_) (fun h13 => ?_)
                            · skip
                              (first | (cases h13; done) | exact bnn h13 | (have q := of_decide_eq_true h13; exfalso; omega) | exact absurd rfl (ne_of_bneT h13))
                            · skip
                              refine n_of (N' := KK56) kk56 ?_
                              refine n_of (N' := NN55) nn55 ?_
                              refine c_cond rfl (fun h14 => ?_) (fun h14 => ?_)
                              · skip
                                (first | (cases h14; done) | exact bnn h14 | (have q := of_decide_eq_true h14; exfalso; omega) | exact absurd rfl (ne_of_bneT h14))
                              · skip
                                refine c_skip ?_
                                refine n_of (N' := NN54) nn54 ?_
                                refine c_seq fun NN57 nn57 => ?_
                                refine c_region fun KK58 kk58 => ?_
                                refine n_of (N' := KK58) kk58 ?_
                                refine n_of (N' := NN57) nn57 ?_
                                refine c_seq fun NN59 nn59 => ?_
                                refine c_region fun KK60 kk60 => ?_
                                refine ⟨rfl, _, _, (s42 _ _ _ _ _ (by ((try dsimp only); first | assumption | omega | (simp (disch := omega) only [wr64]; omega))) (by ((try dsimp only); first | assumption | omega | (simp (disch := omega) only [wr64]; omega))) (by ((try dsimp only); first | assumption | omega | (simp (disch := omega) only [wr64]; omega)))), ?_⟩
                                refine n_of (N' := KK60) kk60 ?_
                                refine n_of (N' := NN59) nn59 ?_
                                refine c_seq fun NN61 nn61 => ?_
                                refine c_seq fun NN62 nn62 => ?_
                                refine c_region fun KK63 kk63 => ?_
                                refine n_of (N' := KK63) kk63 ?_
                                refine n_of (N' := NN62) nn62 ?_
                                refine c_cond rfl (fun h15 => ?_) (fun h15 => ?_)
                                · skip
                                  (first | (cases h15; done) | exact bnn h15 | (have q := of_decide_eq_true h15; exfalso; omega) | exact absurd rfl (ne_of_bneT h15))
                                · skip
                                  have q15 := of_decide_eq_false h15
                                  (try dsimp only at q15)
                                  (try simp only [Dat.len] at q15)
                                  refine c_skip ?_
                                  refine n_of (N' := NN61) nn61 ?_
                                  refine c_seq fun NN64 nn64 => ?_
                                  refine c_region fun KK65 kk65 => ?_
                                  refine ⟨rfl, _, _, (s42 _ _ _ _ _ (by ((try dsimp only); first | assumption | omega | (simp (disch := omega) only [wr64]; omega))) (by ((try dsimp only); first | assumption | omega | (simp (disch := omega) only [wr64]; omega))) (by ((try dsimp only); first | assumption | omega | (simp (disch := omega) only [wr64]; omega)))), ?_⟩
                                  refine n_of (N' := KK65) kk65 ?_
                                  refine n_of (N' := NN64) nn64 ?_
                                  refine c_seq fun NN66 nn66 => ?_
                                  refine c_seq fun NN67 nn67 => ?_
                                  refine c_region fun KK68 kk68 => ?_
                                  refine n_of (N' := KK68) kk68 ?_
                                  refine n_of (N' := NN67) nn67 ?_
                                  refine c_cond rfl (fun h16 => ?_) (fun h16 => ?_)
                                  · skip
                                    (first | (cases h16; done) | exact bnn h16 | (have q := of_decide_eq_true h16; exfalso; omega) | exact absurd rfl (ne_of_bneT h16))
                                  · skip
                                    have q16 := of_decide_eq_false h16
                                    (try dsimp only at q16)
                                    (try simp only [Dat.len] at q16)
                                    refine c_skip ?_
                                    refine n_of (N' := NN66) nn66 ?_
                                    refine c_seq fun NN69 nn69 => ?_
                                    refine c_seq fun NN70 nn70 => ?_
                                    refine c_region fun KK71 kk71 => ?_
                                    refine n_of (N' := KK71) kk71 ?_
                                    refine n_of (N' := NN70) nn70 ?_
                                    refine c_cond rfl (fun h17 => ?_) (fun h17 => ?_)
                                    · skip
                                      (first | (cases h17; done) | exact bnn h17 | (have q := of_decide_eq_true h17; exfalso; omega) | exact absurd rfl (ne_of_bneT h17))
                                    · skip
                                      have q17 := eq_of_bneF h17
                                      (try dsimp only at q17)
                                      (try simp only [Dat.len] at q17)
                                      refine c_skip ?_
                                      refine n_of (N' := NN69) nn69 ?_
                                      refine c_seq fun NN72 nn72 => ?_
                                      refine c_region fun KK73 kk73 => ?_
                                      refine n_of (N' := KK73) kk73 ?_
                                      refine n_of (N' := NN72) nn72 ?_
                                      refine c_ret ?_
                                      refine n_of (N' := R0) hR ?_
                                      exact ⟨[], rfl, rfl, rfl⟩

end
end Go.AX