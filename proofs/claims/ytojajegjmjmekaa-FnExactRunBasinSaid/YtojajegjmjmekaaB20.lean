/- What the functions of this program do, one contract a function, by that walk: each under what its own statement says. -/
import Derived.Test.YtojajegjmjmekaaB19
set_option linter.unusedVariables false
set_option linter.unusedSimpArgs false
namespace Go.AX
noncomputable section
open Go.RowKit Go.Proofs
set_option maxRecDepth 100000
set_option maxHeartbeats 4000000

/-! CarryBasin: the reference's loop -/
def plx (ys : List Nat) (z : Nat) (w h x y : Int) : Nat := fop .sub .f32 (fint .f32 x) (fop .mul .f32 z (atV ys w h x y))
def ply (zs : List Nat) (z : Nat) (w h x y : Int) : Nat := fop .sub .f32 (fint .f32 y) (fop .mul .f32 z (atV zs w h x y))
def ncr (ys zs : List Nat) (z : Nat) (w h x y : Int) : Bool := nearB (plx ys z w h x y) && nearB (ply zs z w h x y)
def Fcr (xs ys zs : List Nat) (z : Nat) (w h x y : Int) : Nat := Fab xs w h (plx ys z w h x y) (ply zs z w h x y) (whl (plx ys z w h x y)) (whl (ply zs z w h x y))
def allcr (ys zs : List Nat) (z : Nat) (w h : Int) : Bool := (List.range (w * h).toNat).all fun t => ncr ys zs z w h ((t % w.toNat : Nat) : Int) ((t / w.toNat : Nat) : Int)
abbrev Rcr (w h : Int) (xs ys zs : List Nat) (z : Nat) : List Nat := grid w h (fun x y => Fcr xs ys zs z w h x y)
def okcr (w h : Int) (xs ys zs : List Nat) (z : Nat) : Bool := allcr ys zs z w h && isB w h (Rcr w h xs ys zs z)
theorem s127w (o : Bool) (xs : List Nat) (W H : Nat) (w1 : 3 ≤ W) (w2 : W ≤ 16) (w3 : 3 ≤ H) (w4 : H ≤ 16) (hl : xs.length = W * H) (x y : Nat) (hx : Flr x (whl x)) (hy : Flr y (whl y)) : SP 127 [basV W H 1, ar o xs] [.one (.pv 0 0), f32 x, f32 y] [basV W H 1, ar o xs] (fl32 (Fab xs W H x y (whl x) (whl y))) :=
  s127 _ _ _ _ w1 w2 w3 w4 hl _ _ _ _ hx hy
theorem allcr_not {ys zs : List Nat} {z W H i : Nat} (hi : i < W * H) (h : ncr ys zs z W H ((i % W : Nat) : Int) ((i / W : Nat) : Int) = false) : allcr ys zs z W H = false := by
  unfold allcr
  rw [List.all_eq_false]
  exact ⟨i, List.mem_range.2 (by rw [show (W : Int) * (H : Int) = ((W * H : Nat) : Int) by simp]; exact hi), by rw [Int.toNat_natCast, h]; decide⟩
theorem allcr_all {ys zs : List Nat} {z W H : Nat} (h : ∀ i, i < W * H → ncr ys zs z W H ((i % W : Nat) : Int) ((i / W : Nat) : Int) = true) : allcr ys zs z W H = true := by
  unfold allcr
  rw [List.all_eq_true]
  intro t ht
  rw [List.mem_range, show (W : Int) * (H : Int) = ((W * H : Nat) : Int) by simp, Int.toNat_natCast] at ht
  rw [Int.toNat_natCast]; exact h t ht

theorem s134 (o o2 o3 : Bool) (xs ys zs : List Nat) (W H : Nat) (w1 : 3 ≤ W) (w2 : W ≤ 16) (w3 : 3 ≤ H) (w4 : H ≤ 16) (hl : xs.length = W * H) (hl2 : ys.length = W * H) (hl3 : zs.length = W * H) (z : Nat) : SP 134 [basV W H 3, basV W H 4, basV W H 5, ar o xs, ar o2 ys, ar o3 zs] [.one (.pv 0 0), .one (.pv 1 0), .one (.pv 2 0), f32 z] [basV W H 3, basV W H 4, basV W H 5, ar o xs, ar o2 ys, ar o3 zs, ar true (gR (okcr W H xs ys zs z) (Rcr W H xs ys zs z))] (toldB (okcr W H xs ys zs z) W H 6) := by
  refine spec_of_codeR (fn := Try.f134) tyOK mixes Try.func134 rfl rfl rfl ⟨.inl rfl, ⟨.inl rfl, ⟨.inl rfl, ⟨.inl rfl, ⟨.inl rfl, ⟨.inl rfl, rfl⟩⟩⟩⟩⟩⟩ fun hg R0 hR => ?_
  have hWH : W * H ≤ 256 := (by have := Nat.mul_le_mul w2 w4; omega)
  have hwr := wrWH hWH
  refine c_seq fun NN1 nn1 => ?_
  refine c_region fun KK2 kk2 => ?_
  refine n_of (N' := KK2) kk2 ?_
  refine n_of (N' := NN1) nn1 ?_
  refine c_seq fun NN3 nn3 => ?_
  refine c_draw2 10 9 10 [0, 1, 2, 3, 4, 5, 6, 7, 8] (by kernel_rfl) fun KK4 kk4 => ?_
  refine ⟨rfl, _, _, (s99 _ _), rfl, ?_⟩
  refine n_of (N' := KK4) kk4 ?_
  refine n_of (N' := NN3) nn3 ?_
  refine c_seq fun NN5 nn5 => ?_
  refine c_seq fun NN6 nn6 => ?_
  refine c_region fun KK7 kk7 => ?_
  refine n_of (N' := KK7) kk7 ?_
  refine n_of (N' := NN6) nn6 ?_
  refine c_block fun XX8 xx8 => ?_
  refine loop_keep [] [0, 1, 2, 3, 8, 10] (ι := { i : Nat // i ≤ W * H ∧ ∀ j, j < i → ncr ys zs z W H ((j % W : Nat) : Int) ((j / W : Nat) : Int) = true }) (fun i => [(11, exi .i64 i.1)]) (fun i => [(7, ar true (bld (fun t => (fun x y => Fcr xs ys zs z W H x y) ((t % W : Nat) : Int) ((t / W : Nat) : Int)) i.1))]) (fun i => W * H - i.1) ⟨0, Nat.zero_le _, fun j hj => absurd hj (Nat.not_lt_zero j)⟩ trivial rfl ?_
  refine ⟨?_, ?_, ?_⟩
  · exact ⟨.inr rfl, trivial⟩
  · exact ⟨rfl, rfl, rfl, rfl, rfl, rfl, rfl, rfl, rfl, trivial⟩
  refine fun ⟨i, hi, hx⟩ NL9 nl9 => ?_
  refine c_norm rfl rfl ?_
  obtain ⟨m0, m1, m2, m3⟩ := cellb i W (by omega) (by omega)
  refine c_seq fun NN10 nn10 => ?_
  refine c_seq fun NN11 nn11 => ?_
  refine c_draw 10 [0, 1, 2, 3, 4, 5, 6, 7, 8, 9] (by kernel_rfl) fun KK12 kk12 => ?_
  refine n_of (N' := KK12) kk12 ?_
  refine n_of (N' := NN11) nn11 ?_
  refine c_cond rfl (fun h0 => ?_) (fun h0 => ?_)
  · skip
    have q0 := of_decide_eq_true h0
    (try dsimp only at q0)
    (try simp only [Dat.len, hwr, bld_len, List.length_cons, List.length_nil] at q0)
    have q : i < W * H := by omega
    have hP : fop .sub .f32 (fint .f32 ((i % W : Nat) : Int)) (fop .mul .f32 z (ys.getD i 0)) = plx ys z W H ((i % W : Nat) : Int) ((i / W : Nat) : Int) := by unfold plx; rw [atV_in (by omega) q]
    have hQ : fop .sub .f32 (fint .f32 ((i / W : Nat) : Int)) (fop .mul .f32 z (zs.getD i 0)) = ply zs z W H ((i % W : Nat) : Int) ((i / W : Nat) : Int) := by unfold ply; rw [atV_in (by omega) q]
    refine c_skip ?_
    refine n_of (N' := NN10) nn10 ?_
    refine c_seq fun NN13 nn13 => ?_
    refine c_block fun XX14 xx14 => ?_
    refine c_seq fun NN15 nn15 => ?_
    refine c_draw 16 [0, 1, 2, 3, 4, 5, 6, 7, 8, 9, 10, 11, 12, 13, 14, 15] (by kernel_rfl) fun KK16 kk16 => ?_
    refine And.intro ?_ ?_
    · omega   -- 0 div
    refine And.intro ?_ ?_
    · ((try dsimp only); (try simp only [Dat.len, Int.toNat_natCast, hwr, bld_len, List.length_cons, List.length_nil]); omega)   -- 1 index
    refine And.intro ?_ ?_
    · ((try dsimp only); (try simp only [Dat.len, Int.toNat_natCast, hwr, bld_len, List.length_cons, List.length_nil]); omega)   -- 2 load
    refine n_of (N' := KK16) kk16 ?_
    refine n_of (N' := NN15) nn15 ?_
    refine c_seq fun NN17 nn17 => ?_
    refine c_draw 16 [0, 1, 2, 3, 4, 5, 6, 7, 8, 9, 10, 11, 12, 13, 14, 15] (by kernel_rfl) fun KK18 kk18 => ?_
    refine And.intro ?_ ?_
    · omega   -- 3 div
    refine And.intro ?_ ?_
    · ((try dsimp only); (try simp only [Dat.len, Int.toNat_natCast, hwr, bld_len, List.length_cons, List.length_nil]); omega)   -- 4 index
    refine And.intro ?_ ?_
    · ((try dsimp only); (try simp only [Dat.len, Int.toNat_natCast, hwr, bld_len, List.length_cons, List.length_nil]); omega)   -- 5 load
    refine n_of (N' := KK18) kk18 ?_
    refine n_of (N' := NN17) nn17 ?_
    refine c_seq fun NN19 nn19 => ?_
    refine c_seq fun NN20 nn20 => ?_
    refine c_region fun KK21 kk21 => ?_
    refine ⟨rfl, _, _, s126 _, ?_⟩
    refine And.intro (fun h1 => ?_) (fun h1 => ?_)
    · skip
      (try dsimp only at h1)
      simp only [Int.toNat_natCast, tdiv_nat, tmod_nat] at h1
      (try simp (disch := omega) only [wr64] at h1)
      rw [hP] at h1
      have hf1 := not_t h1
      refine n_of (N' := KK21) kk21 ?_
      refine n_of (N' := NN20) nn20 ?_
      refine c_cond rfl (fun _ => ?_) (fun h => nomatch h)
      refine c_seq fun NN22 nn22 => ?_
      refine c_region fun KK23 kk23 => ?_
      refine n_of (N' := KK23) kk23 ?_
      refine n_of (N' := NN22) nn22 ?_
      refine c_ret ?_
      refine n_of (N' := R0) hR ?_
      have ok : okcr W H xs ys zs z = false := by unfold okcr; rw [allcr_not q (by unfold ncr; rw [hf1]; rfl)]; rfl
      exact ⟨[.nil 32 (.f [])], rfl, rfl, by rw [ok]; rfl, by rw [ok]; rfl⟩
    · skip
      (try dsimp only at h1)
      simp only [Int.toNat_natCast, tdiv_nat, tmod_nat] at h1
      (try simp (disch := omega) only [wr64] at h1)
      rw [hP] at h1
      have hf1 := not_f h1
      refine ⟨rfl, _, _, s126 _, ?_⟩
      refine n_of (N' := KK21) kk21 ?_
      refine n_of (N' := NN20) nn20 ?_
      refine c_cond rfl (fun h2 => ?_) (fun h2 => ?_)
      · skip
        (try dsimp only at h2)
        simp only [Int.toNat_natCast, tdiv_nat, tmod_nat] at h2
        (try simp (disch := omega) only [wr64] at h2)
        rw [hQ] at h2
        have hf2 := not_t h2
        refine c_seq fun NN24 nn24 => ?_
        refine c_region fun KK25 kk25 => ?_
        refine n_of (N' := KK25) kk25 ?_
        refine n_of (N' := NN24) nn24 ?_
        refine c_ret ?_
        refine n_of (N' := R0) hR ?_
        have ok : okcr W H xs ys zs z = false := by unfold okcr; rw [allcr_not q (by unfold ncr; rw [hf2, Bool.and_false])]; rfl
        exact ⟨[.nil 32 (.f [])], rfl, rfl, by rw [ok]; rfl, by rw [ok]; rfl⟩
      · skip
        (try dsimp only at h2)
        simp only [Int.toNat_natCast, tdiv_nat, tmod_nat] at h2
        (try simp (disch := omega) only [wr64] at h2)
        rw [hQ] at h2
        have hf2 := not_f h2
        have hnc : ncr ys zs z W H ((i % W : Nat) : Int) ((i / W : Nat) : Int) = true := by unfold ncr; rw [hf1, hf2]; rfl
        have flrX : Flr (plx ys z W H ((i % W : Nat) : Int) ((i / W : Nat) : Int)) (whl (plx ys z W H ((i % W : Nat) : Int) ((i / W : Nat) : Int))) := by unfold plx at hf1 ⊢; exact flr_place (by omega) _ hf1
        have flrY : Flr (ply zs z W H ((i % W : Nat) : Int) ((i / W : Nat) : Int)) (whl (ply zs z W H ((i % W : Nat) : Int) ((i / W : Nat) : Int))) := by unfold ply at hf2 ⊢; exact flr_place (by omega) _ hf2
        refine c_skip ?_
        refine n_of (N' := NN19) nn19 ?_
        refine c_draw 7 [0, 1, 2, 3, 4, 5, 6] (by kernel_rfl) fun KK26 kk26 => ?_
        refine ⟨rfl, _, _, s127w _ _ _ _ w1 w2 w3 w4 hl _ _ (by (try dsimp only); simp only [Int.toNat_natCast, tdiv_nat, tmod_nat]; (try simp (disch := omega) only [wr64]); first | (rw [hP]; exact flrX) | (rw [hQ]; exact flrY)) (by (try dsimp only); simp only [Int.toNat_natCast, tdiv_nat, tmod_nat]; (try simp (disch := omega) only [wr64]); first | (rw [hQ]; exact flrX) | (rw [hQ]; exact flrY)), rfl, ?_⟩
        refine And.intro ?_ ?_
        · (refine ⟨?_, by decide⟩; (try dsimp only); (try simp only [Dat.len, Int.toNat_natCast, hwr, bld_len, List.length_cons, List.length_nil]); omega)   -- 6 append
        refine n_of (N' := KK26) kk26 ?_
        refine n_of (N' := NN13) nn13 ?_
        refine c_region fun KK27 kk27 => ?_
        refine n_of (N' := KK27) kk27 ?_
        refine n_of (N' := NL9) nl9 ?_
        refine ⟨⟨i + 1, by omega, fun j hj => (Nat.lt_or_eq_of_le (Nat.le_of_lt_succ hj)).elim (hx j) (fun e => by subst e; exact hnc)⟩, ?_, [0, 1, 2, 3, 4, 5, 6, 7, 8], rfl, ?_, ?_⟩
        · (dsimp only; omega)
        · exact LEq.eq ⟨rfl, rfl, rfl, rfl, rfl, rfl, rfl, congrArg (fun z => ar true (bld _ i ++ [z])) (by (try dsimp only); simp only [Int.toNat_natCast, tdiv_nat, tmod_nat]; (try simp (disch := omega) only [wr64]); rw [hP, hQ]; rfl), rfl, trivial⟩
        · exact ⟨.inr (congrArg (exi .i64) (wr64 (n := (i : Int) + 1) (by omega) (by omega))), .inr rfl, .inr rfl, .inr rfl, .inr rfl, .inr rfl, .inr rfl, trivial⟩
  · skip
    have q0 := of_decide_eq_false h0
    (try dsimp only at q0)
    (try simp only [Dat.len, hwr, bld_len, List.length_cons, List.length_nil] at q0)
    refine c_exit ?_
    refine x_here xx8 ?_
    refine n_of (N' := NN5) nn5 ?_
    refine c_seq fun NN28 nn28 => ?_
    refine c_region fun KK29 kk29 => ?_
    refine ⟨rfl, _, _, (s92 _ _ _), ?_⟩
    refine n_of (N' := KK29) kk29 ?_
    refine n_of (N' := NN28) nn28 ?_
    refine c_ret ?_
    refine n_of (N' := R0) hR ?_
    have e : i = W * H := by omega
    subst e
    have ok : okcr W H xs ys zs z = isB W H (Rcr W H xs ys zs z) := by unfold okcr; rw [allcr_all hx]; rfl
    exact ⟨[], rfl, by rw [ok]; unfold Rcr; rw [gridN], by rw [ok]; unfold Rcr; rw [gridN]⟩

def okcarry (w h : Int) (xs : List Nat) (w2 k2 : Int) (ys : List Nat) (w3 k3 : Int) (zs : List Nat) (z : Nat) : Bool := (two w h xs w2 k2 ys && (two w h xs w3 k3 zs && finB z)) && okcr w h xs ys zs z

theorem s74 (o o2 o3 : Bool) (xs ys zs : List Nat) (w h w2 k2 w3 k3 : Int) (z : Nat) : SP 74 [ar o xs, ar o2 ys, ar o3 zs] [bas w h 0, bas w2 k2 1, bas w3 k3 2, f32 z] [ar o xs, ar o2 ys, ar o3 zs, ar true (gR (okcarry w h xs w2 k2 ys w3 k3 zs z) (Rcr w h xs ys zs z))] (toldB (okcarry w h xs w2 k2 ys w3 k3 zs z) w h 3) := by
  refine spec_of_codeR (fn := Try.f74) tyOK mixes Try.func74 rfl rfl rfl ⟨.inl rfl, ⟨.inl rfl, ⟨.inl rfl, rfl⟩⟩⟩ fun hg R0 hR => ?_
  refine c_seq fun NN1 nn1 => ?_
  refine c_region fun KK2 kk2 => ?_
  refine n_of (N' := KK2) kk2 ?_
  refine n_of (N' := NN1) nn1 ?_
  refine c_seq fun NN3 nn3 => ?_
  refine c_seq fun NN4 nn4 => ?_
  refine c_region fun KK5 kk5 => ?_
  refine ⟨rfl, _, _, s114 _ _ _ _ _ _ _ _, ?_⟩
  refine And.intro (fun h0 => ?_) (fun h0 => ?_)
  · skip
    refine And.intro (fun _ => ?_) (fun h => nomatch h)
    refine n_of (N' := KK5) kk5 ?_
    refine n_of (N' := NN4) nn4 ?_
    refine c_cond rfl (fun _ => ?_) (fun h => nomatch h)
    refine c_seq fun NN6 nn6 => ?_
    refine c_region fun KK7 kk7 => ?_
    refine n_of (N' := KK7) kk7 ?_
    refine n_of (N' := NN6) nn6 ?_
    refine c_ret ?_
    refine n_of (N' := R0) hR ?_
    have ok : okcarry w h xs w2 k2 ys w3 k3 zs z = false := by unfold okcarry; rw [not_t h0]; rfl
    exact ⟨[.nil 32 (.f [])], rfl, rfl, by rw [ok]; rfl, by rw [ok]; rfl⟩
  · skip
    refine ⟨rfl, _, _, s114 _ _ _ _ _ _ _ _, ?_⟩
    refine And.intro (fun h1 => ?_) (fun h1 => ?_)
    · skip
      refine n_of (N' := KK5) kk5 ?_
      refine n_of (N' := NN4) nn4 ?_
      refine c_cond rfl (fun _ => ?_) (fun h => nomatch h)
      refine c_seq fun NN8 nn8 => ?_
      refine c_region fun KK9 kk9 => ?_
      refine n_of (N' := KK9) kk9 ?_
      refine n_of (N' := NN8) nn8 ?_
      refine c_ret ?_
      refine n_of (N' := R0) hR ?_
      have ok : okcarry w h xs w2 k2 ys w3 k3 zs z = false := by unfold okcarry; rw [not_t h1]; simp
      exact ⟨[.nil 32 (.f [])], rfl, rfl, by rw [ok]; rfl, by rw [ok]; rfl⟩
    · skip
      refine ⟨rfl, _, _, (s107 _), ?_⟩
      refine n_of (N' := KK5) kk5 ?_
      refine n_of (N' := NN4) nn4 ?_
      refine c_cond rfl (fun h2 => ?_) (fun h2 => ?_)
      · skip
        refine c_seq fun NN10 nn10 => ?_
        refine c_region fun KK11 kk11 => ?_
        refine n_of (N' := KK11) kk11 ?_
        refine n_of (N' := NN10) nn10 ?_
        refine c_ret ?_
        refine n_of (N' := R0) hR ?_
        have ok : okcarry w h xs w2 k2 ys w3 k3 zs z = false := by unfold okcarry; rw [not_t h2]; simp
        exact ⟨[.nil 32 (.f [])], rfl, rfl, by rw [ok]; rfl, by rw [ok]; rfl⟩
      · skip
        have t1 := not_f h0
        have t2 := not_f h1
        have t3 := not_f h2
        obtain ⟨hb, rfl, rfl, hb2⟩ := two_of t1
        obtain ⟨_, e5, e6, hb3⟩ := two_of t2
        subst e5; subst e6
        obtain ⟨W, H, rfl, rfl, w1, w2', w3', w4, hl, hWH⟩ := isB_nat hb
        obtain ⟨W2, H2, e1, e2, _, _, _, _, hl2, _⟩ := isB_nat hb2
        have e1 : W = W2 := Int.ofNat.inj e1
        have e2 : H = H2 := Int.ofNat.inj e2
        rw [← e1, ← e2] at hl2
        obtain ⟨W4, H4, e3, e4, _, _, _, _, hl3, _⟩ := isB_nat hb3
        have e3 : W = W4 := Int.ofNat.inj e3
        have e4 : H = H4 := Int.ofNat.inj e4
        rw [← e3, ← e4] at hl3
        refine c_skip ?_
        refine n_of (N' := NN3) nn3 ?_
        refine c_seq fun NN12 nn12 => ?_
        refine c_region fun KK13 kk13 => ?_
        refine ⟨rfl, _, _, s134 _ _ _ _ _ _ _ _ w1 w2' w3' w4 hl hl2 hl3 _, ?_⟩
        refine n_of (N' := KK13) kk13 ?_
        refine n_of (N' := NN12) nn12 ?_
        refine c_ret ?_
        refine n_of (N' := R0) hR ?_
        have ok : okcarry W H xs W H ys W H zs z = okcr W H xs ys zs z := by unfold okcarry; rw [t1, t2, t3]; rfl
        exact ⟨[], rfl, by rw [ok], by rw [ok]⟩

end
end Go.AX