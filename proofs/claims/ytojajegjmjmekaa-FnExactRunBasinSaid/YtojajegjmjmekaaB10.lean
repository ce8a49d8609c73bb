/- What the functions of this program do, one contract a function, by that walk: each under what its own statement says. -/
import Derived.Test.YtojajegjmjmekaaB9
set_option linter.unusedVariables false
set_option linter.unusedSimpArgs false
namespace Go.AX
noncomputable section
open Go.RowKit Go.Proofs
set_option maxRecDepth 100000
set_option maxHeartbeats 4000000

theorem ne0 {W : Nat} (h : 3 ≤ W) : (W : Int) ≠ 0 := by omega
theorem pl_wr {x : Int} {n : Nat} (h1 : 3 ≤ n) (h2 : n ≤ 16) : (IntKind.i64.wrap (x.tmod n + n)).tmod n = pl x n := by
  obtain ⟨a, b⟩ := tmod_bd x (n := n) (by omega)
  rw [wr64 (by omega) (by omega)]; rfl

theorem s146 (x : Int) (n : Nat) (h1 : 3 ≤ n) (h2 : n ≤ 16) : SP 146 [] [i64 x, i64 n] [] (exi .i64 (pl x n)) := by
  refine spec_of_codeR (fn := Try.f146) tyOK mixes Try.func146 rfl rfl rfl rfl fun hg R0 hR => ?_
  refine c_seq fun NN1 nn1 => ?_
  refine c_region fun KK2 kk2 => ?_
  refine n_of (N' := KK2) kk2 ?_
  refine n_of (N' := NN1) nn1 ?_
  refine c_seq fun NN3 nn3 => ?_
  refine c_region fun KK4 kk4 => ?_
  refine And.intro ?_ ?_
  · omega   -- 0 div
  refine And.intro ?_ ?_
  · omega   -- 1 div
  refine n_of (N' := KK4) kk4 ?_
  refine n_of (N' := NN3) nn3 ?_
  refine c_ret ?_
  refine n_of (N' := R0) hR ?_
  exact ⟨[], rfl, rfl, congrArg (exi .i64) (pl_wr h1 h2)⟩

theorem plc_wr {x y : Int} {W H : Nat} (h1 : 3 ≤ W) (h2 : W ≤ 16) (h3 : 3 ≤ H) (h4 : H ≤ 16) : IntKind.i64.wrap (pl x W + IntKind.i64.wrap ((W : Int) * pl y H)) = plc W H x y := by
  obtain ⟨a1, a2⟩ := pl_bd x (n := W) (by omega)
  obtain ⟨b1, b2⟩ := pl_bd y (n := H) (by omega)
  have c1 : 0 ≤ (W : Int) * pl y H := Int.mul_nonneg (by omega) b1
  have c2 : (W : Int) * pl y H ≤ 16 * 16 := Int.mul_le_mul (by omega) (by omega) b1 (by omega)
  rw [wr64 (n := (W : Int) * pl y H) (by omega) (by omega), wr64 (by omega) (by omega)]; rfl

theorem s147 (o : Bool) (xs : List Nat) (W H : Nat) (w1 : 3 ≤ W) (w2 : W ≤ 16) (w3 : 3 ≤ H) (w4 : H ≤ 16) (x y : Int) : SP 147 [basV W H 1, ar o xs] [.one (.pv 0 0), i64 x, i64 y] [basV W H 1, ar o xs] (exi .i64 (plc W H x y)) := by
  refine spec_of_codeR (fn := Try.f147) tyOK mixes Try.func147 rfl rfl rfl ⟨.inl rfl, ⟨.inl rfl, rfl⟩⟩ fun hg R0 hR => ?_
  refine c_seq fun NN1 nn1 => ?_
  refine c_region fun KK2 kk2 => ?_
  refine n_of (N' := KK2) kk2 ?_
  refine n_of (N' := NN1) nn1 ?_
  refine c_seq fun NN3 nn3 => ?_
  refine c_draw 37 [0, 1, 2, 3, 4, 5, 6, 7, 8, 9, 10, 11, 12, 13, 14, 15, 16, 17, 18, 19, 20, 21, 22, 23, 24, 25, 26, 27, 28, 29, 30, 31, 32, 33, 34, 35, 36] (by kernel_rfl) fun KK4 kk4 => ?_
  refine And.intro ?_ ?_
  · omega   -- 0 div
  refine And.intro ?_ ?_
  · omega   -- 1 div
  refine And.intro ?_ ?_
  · omega   -- 2 div
  refine And.intro ?_ ?_
  · omega   -- 3 div
  refine n_of (N' := KK4) kk4 ?_
  refine n_of (N' := NN3) nn3 ?_
  refine c_ret ?_
  refine n_of (N' := R0) hR ?_
  exact ⟨[], rfl, rfl, congrArg (exi .i64) (by rw [pl_wr w1 w2, pl_wr w3 w4, plc_wr w1 w2 w3 w4])⟩

theorem s100 (o : Bool) (xs : List Nat) (W H : Nat) (w1 : 3 ≤ W) (w2 : W ≤ 16) (w3 : 3 ≤ H) (w4 : H ≤ 16) (hl : xs.length = W * H) (x y : Int) : SP 100 [basV W H 1, ar o xs] [.one (.pv 0 0), i64 x, i64 y] [basV W H 1, ar o xs] (fl32 (atV xs W H x y)) := by
  refine spec_of_codeR (fn := Try.f100) tyOK mixes Try.func100 rfl rfl rfl ⟨.inl rfl, ⟨.inl rfl, rfl⟩⟩ fun hg R0 hR => ?_
  refine c_seq fun NN1 nn1 => ?_
  refine c_region fun KK2 kk2 => ?_
  refine n_of (N' := KK2) kk2 ?_
  refine n_of (N' := NN1) nn1 ?_
  refine c_seq fun NN3 nn3 => ?_
  refine c_draw 22 [0, 1, 2, 3, 4, 5, 6, 7, 8, 10, 11, 12, 13, 14, 15, 16, 17, 18, 9, 19, 20, 21] (by kernel_rfl) fun KK4 kk4 => ?_
  refine ⟨rfl, _, _, s146 _ _ (by omega) (by omega), rfl, ?_⟩
  refine ⟨rfl, _, _, s146 _ _ (by omega) (by omega), rfl, ?_⟩
  refine And.intro ?_ ?_
  · ((try simp only [Dat.len]); rw [hl, plc_wr w1 w2 w3 w4]; exact plc_bd x y (by omega) (by omega))   -- 0 index
  refine And.intro ?_ ?_
  · ((try simp only [Dat.len]); rw [hl, plc_wr w1 w2 w3 w4]; have := plc_bd x y (W := W) (H := H) (by omega) (by omega); omega)   -- 1 load
  refine n_of (N' := KK4) kk4 ?_
  refine n_of (N' := NN3) nn3 ?_
  refine c_ret ?_
  refine n_of (N' := R0) hR ?_
  exact ⟨[], rfl, rfl, congrArg fl32 (by rw [plc_wr w1 w2 w3 w4]; rfl)⟩

theorem s103 (o : Bool) (xs : List Nat) (W H : Nat) (w1 : 3 ≤ W) (w2 : W ≤ 16) (w3 : 3 ≤ H) (w4 : H ≤ 16) (hl : xs.length = W * H) (x y : Int) : SP 103 [basV W H 1, ar o xs] [.one (.pv 0 0), i64 x, i64 y] [basV W H 1, ar o xs] (fl32 (atV xs W H x y)) := by
  refine spec_of_codeR (fn := Try.f103) tyOK mixes Try.func103 rfl rfl rfl ⟨.inl rfl, ⟨.inl rfl, rfl⟩⟩ fun hg R0 hR => ?_
  refine c_seq fun NN1 nn1 => ?_
  refine c_region fun KK2 kk2 => ?_
  refine n_of (N' := KK2) kk2 ?_
  refine n_of (N' := NN1) nn1 ?_
  refine c_seq fun NN3 nn3 => ?_
  refine c_draw 8 [0, 1, 2, 3, 4, 5, 6, 7] (by kernel_rfl) fun KK4 kk4 => ?_
  refine ⟨rfl, _, _, s147 _ _ _ _ w1 w2 w3 w4 _ _, rfl, ?_⟩
  refine And.intro ?_ ?_
  · ((try simp only [Dat.len]); rw [hl]; exact plc_bd x y (by omega) (by omega))   -- 0 index
  refine And.intro ?_ ?_
  · ((try simp only [Dat.len]); rw [hl]; have := plc_bd x y (W := W) (H := H) (by omega) (by omega); omega)   -- 1 load
  refine n_of (N' := KK4) kk4 ?_
  refine n_of (N' := NN3) nn3 ?_
  refine c_ret ?_
  refine n_of (N' := R0) hR ?_
  exact ⟨[], rfl, rfl, rfl⟩

end
end Go.AX