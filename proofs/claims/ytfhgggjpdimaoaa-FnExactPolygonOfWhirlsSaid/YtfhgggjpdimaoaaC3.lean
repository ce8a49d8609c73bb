/- What the functions of this program do, one contract a function, by that walk: each under what its own statement says. -/
import Derived.Test.YtfhgggjpdimaoaaC2
import Derived.Test.YtfhgggjpdimaoaaAxZ
set_option linter.unusedVariables false
set_option linter.unusedSimpArgs false
namespace Go.AX
noncomputable section
open Go.RowKit Go.Proofs
set_option maxRecDepth 100000
set_option maxHeartbeats 4000000
open Go

/-! The phasor -/
theorem fabs_u {b : Nat} (h : b < 9223372036854775808) : (andNI .u64 (b : Int) 9223372036854775808) = (b : Int) := by
  unfold andNI
  have e : (BitVec.ofInt IntKind.u64.bits (b : Int) &&& ~~~(BitVec.ofInt IntKind.u64.bits 9223372036854775808)).toNat = b % 9223372036854775808 := by
    show (BitVec.ofInt 64 (b : Int) &&& ~~~(BitVec.ofInt 64 9223372036854775808)).toNat = b % 9223372036854775808
    rw [BitVec.toNat_and, show (~~~(BitVec.ofInt 64 9223372036854775808)).toNat = 9223372036854775808 - 1 from by decide]
    rw [show (BitVec.ofInt 64 (b : Int)).toNat = b from by rw [BitVec.toNat_ofInt]; omega]
    exact Nat.and_two_pow_sub_one_eq_mod b 63
  rw [e, Nat.mod_eq_of_lt h]
  show ((b : Nat) : Int) % 18446744073709551616 = (b : Int)
  omega
theorem extern95 (b : Nat) (w : World) : (callFunc 95 #[.float .f64 b]).run Try.prog w = .ok (.value (.int .u64 b)) w := by
  rw [run_callFunc_extern (e := Extern.MathFloatBits.float64bits) Try.func95 (by kernel_rfl) rfl (by kernel_rfl) (by kernel_rfl)]
  rfl
theorem s95 (x : Nat) (hx : isN .f64 x = false) : SP 95 [] [f64 x] [] (exi .u64 x) := by
  refine ⟨rfl, fun w σ us hs hr => .inr ?_⟩
  match us, hr with
  | [u], ⟨⟨b, hu, hb⟩, _⟩ =>
    subst hu
    rw [isN_of_cn hb hx]
    exact ⟨_, w, extern95 x w, σ, hs, rfl, Fr.refl _ _ _⟩
theorem extern94 (n : Int) (w : World) : (callFunc 94 #[.int .u64 n]).run Try.prog w = .ok (.value (.float .f64 n.toNat)) w := by
  rw [run_callFunc_extern (e := Extern.MathFloatBits.float64frombits) Try.func94 (by kernel_rfl) rfl (by kernel_rfl) (by kernel_rfl)]
  rfl
theorem s94 (x : Nat) (hx : isN .f64 x = false) (hl : x < 9223372036854775808) : SP 94 [] [.one (.ex (.int .u64 x))] [] (fl64 x) := by
  refine ⟨rfl, fun w σ us hs hr => .inr ?_⟩
  match us, hr with
  | [u], ⟨hu, _⟩ =>
    cases hu
    exact ⟨_, w, extern94 x w, σ, hs, ⟨x, rfl, isF_of_not hx (by show x < 18446744073709551616; omega)⟩, Fr.refl _ _ _⟩
theorem ftr_isF {y : Nat} (h : isN .f64 y = false) : IsF .f64 (ftr y) (ftr y) := by
  rw [ftr_def]; unfold ftr0
  refine isF_of_not (F.write_not_nan _ _ ?_) (by rw [← wd_eq]; exact Ieee.double.write_lt _)
  unfold isN FloatKind.decode at h
  replace h : (Ieee.double.read y).isNaN = false := h
  cases hd : Ieee.double.read y with
  | nan s f => rw [hd] at h; cases h
  | infinity s => rfl
  | number s m e => rfl
theorem extern99 {y : Nat} (h : isN .f64 y = false) (w : World) : (callFunc 99 #[.float .f64 y]).run Try.prog w = .ok (.value (.float .f64 (ftr y))) w := by
  rw [run_callFunc_extern (e := Extern.MathFloor.toIntegral "math.archTrunc" .zero) Try.func99 (by kernel_rfl) rfl (by kernel_rfl) (by kernel_rfl)]
  rw [ftr_def]; unfold ftr0
  unfold isN FloatKind.decode at h
  replace h : (Ieee.double.read y).isNaN = false := h
  cases hd : Ieee.double.read y with
  | nan s f => rw [hd] at h; cases h
  | infinity s =>
    have hd2 : FloatKind.f64.decode y = .infinity s := hd
    have k : Extern.MathFloor.toIntegral "math.archTrunc" .zero #[.float .f64 y] = pure (.float .f64 (Ieee.double.write ((Ieee.double.read y).integral .zero))) := by
      conv => lhs; whnf
      rw [hd2, hd]; rfl
    rw [k, hd]; rfl
  | number s m e =>
    have hd2 : FloatKind.f64.decode y = .number s m e := hd
    have k : Extern.MathFloor.toIntegral "math.archTrunc" .zero #[.float .f64 y] = pure (.float .f64 (Ieee.double.write ((Ieee.double.read y).integral .zero))) := by
      conv => lhs; whnf
      rw [hd2, hd]; rfl
    rw [k, hd]; rfl
theorem s99 (y : Nat) (hy : isN .f64 y = false) : SP 99 [] [f64 y] [] (fl64 (ftr y)) := by
  refine ⟨rfl, fun w σ us hs hr => .inr ?_⟩
  match us, hr with
  | [u], ⟨⟨b, hu, hb⟩, _⟩ =>
    subst hu
    rw [isN_of_cn hb hy]
    exact ⟨_, w, extern99 hy w, σ, hs, ⟨_, rfl, ftr_isF hy⟩, Fr.refl _ _ _⟩
theorem kk {j : Nat} (h : j < 8) : IntKind.i64.wrap (IntKind.i64.wrap (2 * (8 - (j : Int))) * IntKind.i64.wrap (IntKind.i64.wrap (2 * (8 - (j : Int))) + 1)) = 2 * (8 - (j : Int)) * (2 * (8 - (j : Int)) + 1) := by
  rw [wr64 (n := 2 * (8 - (j : Int))) (by omega) (by omega), wr64 (n := 2 * (8 - (j : Int)) + 1) (by omega) (by omega)]
  have h1 : 0 ≤ (2 * (8 - (j : Int))) * (2 * (8 - (j : Int)) + 1) := Int.mul_nonneg (by omega) (by omega)
  have h2 : (2 * (8 - (j : Int))) * (2 * (8 - (j : Int)) + 1) ≤ 16 * 17 := Int.mul_le_mul (by omega) (by omega) (by omega) (by omega)
  exact wr64 (by omega) (by omega)

theorem s96 (y : Nat) (hy : isN .f64 y = false) : SP 96 [] [f64 y] [] (fl64 (ftr y)) := by
  refine spec_of_codeR (fn := Try.f96) tyOK mixes Try.func96 rfl rfl rfl rfl fun hg R0 hR => ?_
  refine c_seq fun NN1 nn1 => ?_
  refine c_region fun KK2 kk2 => ?_
  refine n_of (N' := KK2) kk2 ?_
  refine n_of (N' := NN1) nn1 ?_
  refine c_seq fun NN3 nn3 => ?_
  refine c_cond rfl (fun _ => ?_) (fun h => nomatch h)
  refine c_seq fun NN4 nn4 => ?_
  refine c_region fun KK5 kk5 => ?_
  refine ⟨rfl, _, _, s99 _ hy, ?_⟩
  refine n_of (N' := KK5) kk5 ?_
  refine n_of (N' := NN4) nn4 ?_
  refine c_ret ?_
  refine n_of (N' := R0) hR ?_
  exact ⟨[], rfl, rfl, rfl⟩

theorem s84 (x : Nat) (hx : isN .f64 x = false) (hl : x < 9223372036854775808) : SP 84 [] [f64 x] [] (fl64 x) := by
  refine spec_of_codeR (fn := Try.f84) tyOK mixes Try.func84 rfl rfl rfl rfl fun hg R0 hR => ?_
  refine c_seq fun NN1 nn1 => ?_
  refine c_region fun KK2 kk2 => ?_
  refine n_of (N' := KK2) kk2 ?_
  refine n_of (N' := NN1) nn1 ?_
  refine c_seq fun NN3 nn3 => ?_
  refine c_region fun KK4 kk4 => ?_
  refine ⟨rfl, _, _, s95 _ hx, ?_⟩
  refine ⟨rfl, _, _, (by rw [fabs_u hl]; exact s94 _ hx hl), ?_⟩
  refine n_of (N' := KK4) kk4 ?_
  refine n_of (N' := NN3) nn3 ?_
  refine c_ret ?_
  refine n_of (N' := R0) hR ?_
  exact ⟨[], rfl, rfl, rfl⟩

theorem s85 (y : Nat) (h : PartOK y) : SP 85 [] [f64 y] [] (fl64 y) := by
  refine spec_of_codeR (fn := Try.f85) tyOK mixes Try.func85 rfl rfl rfl rfl fun hg R0 hR => ?_
  refine c_seq fun NN1 nn1 => ?_
  refine c_region fun KK2 kk2 => ?_
  refine n_of (N' := KK2) kk2 ?_
  refine n_of (N' := NN1) nn1 ?_
  refine c_seq fun NN3 nn3 => ?_
  refine c_seq fun NN4 nn4 => ?_
  refine c_region fun KK5 kk5 => ?_
  refine ⟨rfl, _, _, s96 _ h.nn, ?_⟩
  refine n_of (N' := KK5) kk5 ?_
  refine n_of (N' := NN4) nn4 ?_
  refine c_seq fun NN6 nn6 => ?_
  refine c_region fun KK7 kk7 => ?_
  refine n_of (N' := KK7) kk7 ?_
  refine n_of (N' := NN6) nn6 ?_
  refine c_cond rfl (fun h0 => ?_) (fun h0 => ?_)
  · skip
    (rw [h.tr] at h0; cases h0)
  · skip
    refine c_skip ?_
    refine n_of (N' := NN3) nn3 ?_
    refine c_seq fun NN8 nn8 => ?_
    refine c_seq fun NN9 nn9 => ?_
    refine c_region fun KK10 kk10 => ?_
    refine n_of (N' := KK10) kk10 ?_
    refine n_of (N' := NN9) nn9 ?_
    refine c_cond rfl (fun h1 => ?_) (fun h1 => ?_)
    · skip
      (rw [h.ng] at h1; cases h1)
    · skip
      refine c_skip ?_
      refine n_of (N' := NN8) nn8 ?_
      refine c_seq fun NN11 nn11 => ?_
      refine c_region fun KK12 kk12 => ?_
      refine n_of (N' := KK12) kk12 ?_
      refine n_of (N' := NN11) nn11 ?_
      refine c_ret ?_
      refine n_of (N' := R0) hR ?_
      exact ⟨[], rfl, rfl, rfl⟩

theorem s86 (y : Nat) (h : SinOK y) : SP 86 [] [f64 y] [] (fl64 (sinV y)) := by
  refine spec_of_codeR (fn := Try.f86) tyOK mixes Try.func86 rfl rfl rfl rfl fun hg R0 hR => ?_
  refine c_seq fun NN1 nn1 => ?_
  refine c_region fun KK2 kk2 => ?_
  refine n_of (N' := KK2) kk2 ?_
  refine n_of (N' := NN1) nn1 ?_
  refine c_seq fun NN3 nn3 => ?_
  refine c_region fun KK4 kk4 => ?_
  refine ⟨rfl, _, _, s85 _ h.toPartOK, ?_⟩
  refine n_of (N' := KK4) kk4 ?_
  refine n_of (N' := NN3) nn3 ?_
  refine c_seq fun NN5 nn5 => ?_
  refine c_region fun KK6 kk6 => ?_
  refine n_of (N' := KK6) kk6 ?_
  refine n_of (N' := NN5) nn5 ?_
  refine c_seq fun NN7 nn7 => ?_
  refine c_seq fun NN8 nn8 => ?_
  refine c_region fun KK9 kk9 => ?_
  refine n_of (N' := KK9) kk9 ?_
  refine n_of (N' := NN8) nn8 ?_
  refine c_cond rfl (fun h0 => ?_) (fun h0 => ?_)
  · skip
    (rw [h.h5] at h0; cases h0)
  · skip
    refine c_skip ?_
    refine n_of (N' := NN7) nn7 ?_
    refine c_seq fun NN10 nn10 => ?_
    refine c_seq fun NN11 nn11 => ?_
    refine c_region fun KK12 kk12 => ?_
    refine n_of (N' := KK12) kk12 ?_
    refine n_of (N' := NN11) nn11 ?_
    refine c_cond rfl (fun h1 => ?_) (fun h1 => ?_)
    · skip
      (rw [h.h2] at h1; cases h1)
    · skip
      refine c_skip ?_
      refine n_of (N' := NN10) nn10 ?_
      refine c_seq fun NN13 nn13 => ?_
      refine c_region fun KK14 kk14 => ?_
      refine n_of (N' := KK14) kk14 ?_
      refine n_of (N' := NN13) nn13 ?_
      refine c_seq fun NN15 nn15 => ?_
      refine c_region fun KK16 kk16 => ?_
      refine n_of (N' := KK16) kk16 ?_
      refine n_of (N' := NN15) nn15 ?_
      refine c_seq fun NN17 nn17 => ?_
      refine c_seq fun NN18 nn18 => ?_
      refine c_region fun KK19 kk19 => ?_
      refine n_of (N' := KK19) kk19 ?_
      refine n_of (N' := NN18) nn18 ?_
      refine c_block fun XX20 xx20 => ?_
      refine loop_keep [] [4, 5, 6] (ι := { j : Nat // j ≤ 8 }) (fun i => [(8, exi .i64 (8 - (i.1 : Int))), (7, fl64 (pS (fop .mul .f64 (sinZ y) (sinZ y)) i.1))]) (fun i => []) (fun j => 8 - j.1) ⟨0, Nat.zero_le _⟩ trivial rfl ?_
      refine ⟨?_, ?_, ?_⟩
      · exact ⟨.inr rfl, .inr rfl, trivial⟩
      · exact trivial
      refine fun ⟨j, hj⟩ NL21 nl21 => ?_
      refine c_norm rfl rfl ?_
      refine c_seq fun NN22 nn22 => ?_
      refine c_seq fun NN23 nn23 => ?_
      refine c_region fun KK24 kk24 => ?_
      refine n_of (N' := KK24) kk24 ?_
      refine n_of (N' := NN23) nn23 ?_
      refine c_cond rfl (fun h2 => ?_) (fun h2 => ?_)
      · skip
        have q2 := of_decide_eq_true h2
        (try dsimp only at q2)
        (try simp only [Dat.len] at q2)
        refine c_skip ?_
        refine n_of (N' := NN22) nn22 ?_
        refine c_seq fun NN25 nn25 => ?_
        refine c_block fun XX26 xx26 => ?_
        refine c_region fun KK27 kk27 => ?_
        refine n_of (N' := KK27) kk27 ?_
        refine n_of (N' := NN25) nn25 ?_
        refine c_region fun KK28 kk28 => ?_
        refine n_of (N' := KK28) kk28 ?_
        refine n_of (N' := NL21) nl21 ?_
        refine ⟨⟨j + 1, by omega⟩, ?_, [], rfl, ?_, ?_⟩
        · (dsimp only; omega)
        · exact LEq.eq trivial
        · exact ⟨.inr (congrArg (exi .i64) ((wr64 (n := 8 - (j : Int) - 1) (by omega) (by omega)).trans (show 8 - (j : Int) - 1 = 8 - ((j + 1 : Nat) : Int) by omega))), .inr (congrArg fl64 (by (try dsimp only); rw [kk (by omega)]; rfl)), .inr rfl, .inr rfl, .inr rfl, trivial⟩
      · skip
        have q2 := of_decide_eq_false h2
        (try dsimp only at q2)
        (try simp only [Dat.len] at q2)
        refine c_exit ?_
        refine x_here xx20 ?_
        refine n_of (N' := NN17) nn17 ?_
        refine c_seq fun NN29 nn29 => ?_
        refine c_seq fun NN30 nn30 => ?_
        refine c_region fun KK31 kk31 => ?_
        refine n_of (N' := KK31) kk31 ?_
        refine n_of (N' := NN30) nn30 ?_
        refine c_cond rfl (fun h3 => ?_) (fun h3 => ?_)
        · skip
          (rw [h.h5] at h3; cases h3)
        · skip
          refine c_skip ?_
          refine n_of (N' := NN29) nn29 ?_
          refine c_seq fun NN32 nn32 => ?_
          refine c_region fun KK33 kk33 => ?_
          refine n_of (N' := KK33) kk33 ?_
          refine n_of (N' := NN32) nn32 ?_
          refine c_ret ?_
          refine n_of (N' := R0) hR ?_
          have e : j = 8 := by omega
          subst e
          exact ⟨[], rfl, rfl, rfl⟩

theorem s81 (x : Nat) (h : narrows x = true) : SP 81 [] [f64 x] [] (fl32 (fnarrow x)) := by
  refine spec_of_codeR (fn := Try.f81) tyOK mixes Try.func81 rfl rfl rfl rfl fun hg R0 hR => ?_
  refine c_seq fun NN1 nn1 => ?_
  refine c_region fun KK2 kk2 => ?_
  refine n_of (N' := KK2) kk2 ?_
  refine n_of (N' := NN1) nn1 ?_
  refine c_seq fun NN3 nn3 => ?_
  refine c_region fun KK4 kk4 => ?_
  refine And.intro ?_ ?_
  · exact h   -- 0 narrow
  refine n_of (N' := KK4) kk4 ?_
  refine n_of (N' := NN3) nn3 ?_
  refine c_ret ?_
  refine n_of (N' := R0) hR ?_
  exact ⟨[], rfl, rfl, rfl⟩

theorem s80 (y : Nat) (h : SinOK y) : SP 80 [] [f64 y] [] (fl64 (sinV y)) := by
  refine spec_of_codeR (fn := Try.f80) tyOK mixes Try.func80 rfl rfl rfl rfl fun hg R0 hR => ?_
  refine c_seq fun NN1 nn1 => ?_
  refine c_region fun KK2 kk2 => ?_
  refine n_of (N' := KK2) kk2 ?_
  refine n_of (N' := NN1) nn1 ?_
  refine c_seq fun NN3 nn3 => ?_
  refine c_seq fun NN4 nn4 => ?_
  refine c_region fun KK5 kk5 => ?_
  refine n_of (N' := KK5) kk5 ?_
  refine n_of (N' := NN4) nn4 ?_
  refine c_cond rfl (fun h0 => ?_) (fun h0 => ?_)
  · skip
    (rw [h.fi] at h0; cases h0)
  · skip
    refine c_skip ?_
    refine n_of (N' := NN3) nn3 ?_
    refine c_seq fun NN6 nn6 => ?_
    refine c_seq fun NN7 nn7 => ?_
    refine c_region fun KK8 kk8 => ?_
    refine And.intro (fun h1 => ?_) (fun h1 => ?_)
    · skip
      (rw [h.ge] at h1; cases h1)
    · skip
      refine n_of (N' := KK8) kk8 ?_
      refine n_of (N' := NN7) nn7 ?_
      refine c_cond rfl (fun h2 => ?_) (fun h2 => ?_)
      · skip
        (rw [h.le] at h2; cases h2)
      · skip
        refine c_skip ?_
        refine n_of (N' := NN6) nn6 ?_
        refine c_seq fun NN9 nn9 => ?_
        refine c_region fun KK10 kk10 => ?_
        refine And.intro ?_ ?_
        · (rw [h.i0]; rfl)   -- 0 toint
        refine n_of (N' := KK10) kk10 ?_
        refine n_of (N' := NN9) nn9 ?_
        refine c_seq fun NN11 nn11 => ?_
        refine c_seq fun NN12 nn12 => ?_
        refine c_region fun KK13 kk13 => ?_
        refine n_of (N' := KK13) kk13 ?_
        refine n_of (N' := NN12) nn12 ?_
        refine c_cond rfl (fun h3 => ?_) (fun h3 => ?_)
        · skip
          (rw [h.fz, h.ng] at h3; cases h3)
        · skip
          rw [h.fz]
          refine c_skip ?_
          refine n_of (N' := NN11) nn11 ?_
          refine c_seq fun NN14 nn14 => ?_
          refine c_region fun KK15 kk15 => ?_
          refine n_of (N' := KK15) kk15 ?_
          refine n_of (N' := NN14) nn14 ?_
          refine c_seq fun NN16 nn16 => ?_
          refine c_seq fun NN17 nn17 => ?_
          refine c_region fun KK18 kk18 => ?_
          refine n_of (N' := KK18) kk18 ?_
          refine n_of (N' := NN17) nn17 ?_
          refine c_cond rfl (fun h4 => ?_) (fun h4 => ?_)
          · skip
            (rw [h.h5] at h4; cases h4)
          · skip
            refine c_skip ?_
            refine n_of (N' := NN16) nn16 ?_
            refine c_seq fun NN19 nn19 => ?_
            refine c_seq fun NN20 nn20 => ?_
            refine c_region fun KK21 kk21 => ?_
            refine n_of (N' := KK21) kk21 ?_
            refine n_of (N' := NN20) nn20 ?_
            refine c_cond rfl (fun h5 => ?_) (fun h5 => ?_)
            · skip
              (rw [h.h2] at h5; cases h5)
            · skip
              refine c_skip ?_
              refine n_of (N' := NN19) nn19 ?_
              refine c_seq fun NN22 nn22 => ?_
              refine c_region fun KK23 kk23 => ?_
              refine n_of (N' := KK23) kk23 ?_
              refine n_of (N' := NN22) nn22 ?_
              refine c_seq fun NN24 nn24 => ?_
              refine c_region fun KK25 kk25 => ?_
              refine n_of (N' := KK25) kk25 ?_
              refine n_of (N' := NN24) nn24 ?_
              refine c_seq fun NN26 nn26 => ?_
              refine c_region fun KK27 kk27 => ?_
              refine n_of (N' := KK27) kk27 ?_
              refine n_of (N' := NN26) nn26 ?_
              refine c_seq fun NN28 nn28 => ?_
              refine c_seq fun NN29 nn29 => ?_
              refine c_region fun KK30 kk30 => ?_
              refine n_of (N' := KK30) kk30 ?_
              refine n_of (N' := NN29) nn29 ?_
              refine c_block fun XX31 xx31 => ?_
              refine loop_keep [] [4, 5, 6] (ι := { j : Nat // j ≤ 8 }) (fun i => [(8, exi .i64 (8 - (i.1 : Int))), (7, fl64 (pS (fop .mul .f64 (sinZ y) (sinZ y)) i.1))]) (fun i => []) (fun j => 8 - j.1) ⟨0, Nat.zero_le _⟩ trivial rfl ?_
              refine ⟨?_, ?_, ?_⟩
              · exact ⟨.inr rfl, .inr rfl, trivial⟩
              · exact trivial
              refine fun ⟨j, hj⟩ NL32 nl32 => ?_
              refine c_norm rfl rfl ?_
              refine c_seq fun NN33 nn33 => ?_
              refine c_seq fun NN34 nn34 => ?_
              refine c_region fun KK35 kk35 => ?_
              refine n_of (N' := KK35) kk35 ?_
              refine n_of (N' := NN34) nn34 ?_
              refine c_cond rfl (fun h6 => ?_) (fun h6 => ?_)
              · skip
                have q6 := of_decide_eq_true h6
                (try dsimp only at q6)
                (try simp only [Dat.len] at q6)
                refine c_skip ?_
                refine n_of (N' := NN33) nn33 ?_
                refine c_seq fun NN36 nn36 => ?_
                refine c_block fun XX37 xx37 => ?_
                refine c_region fun KK38 kk38 => ?_
                refine n_of (N' := KK38) kk38 ?_
                refine n_of (N' := NN36) nn36 ?_
                refine c_region fun KK39 kk39 => ?_
                refine n_of (N' := KK39) kk39 ?_
                refine n_of (N' := NL32) nl32 ?_
                refine ⟨⟨j + 1, by omega⟩, ?_, [], rfl, ?_, ?_⟩
                · (dsimp only; omega)
                · exact LEq.eq trivial
                · exact ⟨.inr (congrArg (exi .i64) ((wr64 (n := 8 - (j : Int) - 1) (by omega) (by omega)).trans (show 8 - (j : Int) - 1 = 8 - ((j + 1 : Nat) : Int) by omega))), .inr (congrArg fl64 (by (try dsimp only); rw [kk (by omega)]; rfl)), .inr rfl, .inr rfl, .inr rfl, trivial⟩
              · skip
                have q6 := of_decide_eq_false h6
                (try dsimp only at q6)
                (try simp only [Dat.len] at q6)
                refine c_exit ?_
                refine x_here xx31 ?_
                refine n_of (N' := NN28) nn28 ?_
                refine c_seq fun NN40 nn40 => ?_
                refine c_seq fun NN41 nn41 => ?_
                refine c_region fun KK42 kk42 => ?_
                refine n_of (N' := KK42) kk42 ?_
                refine n_of (N' := NN41) nn41 ?_
                refine c_cond rfl (fun h7 => ?_) (fun h7 => ?_)
                · skip
                  (rw [h.h5] at h7; cases h7)
                · skip
                  refine c_skip ?_
                  refine n_of (N' := NN40) nn40 ?_
                  refine c_seq fun NN43 nn43 => ?_
                  refine c_region fun KK44 kk44 => ?_
                  refine n_of (N' := KK44) kk44 ?_
                  refine n_of (N' := NN43) nn43 ?_
                  refine c_ret ?_
                  refine n_of (N' := R0) hR ?_
                  have e : j = 8 := by omega
                  subst e
                  exact ⟨[], rfl, rfl, rfl⟩

theorem PhOK.narS {x Q : Nat} (h : PhOK x Q) : narrows (sinV (fs x Q)) = true := sin_narrows h.s.lb
theorem PhOK.narC {x Q : Nat} (h : PhOK x Q) : narrows (sinV (fop .sub .f64 k25 (fs x Q))) = true := sin_narrows h.c.lb
theorem PhOK.narMS {x Q : Nat} (h : PhOK x Q) : narrows (fop .sub .f64 z64 (sinV (fs x Q))) = true := msin_narrows h.s.lb
theorem PhOK.narMC {x Q : Nat} (h : PhOK x Q) : narrows (fop .sub .f64 z64 (sinV (fop .sub .f64 k25 (fs x Q)))) = true := msin_narrows h.c.lb

theorem PhOK.lt {x Q j : Nat} (h : PhOK x Q) (hj : j ≤ Q) (g : fcmp .geq .f64 (fs x j) k25 = true) : j < Q := by
  rcases Nat.lt_or_eq_of_le hj with c | c
  · exact c
  · subst c; rw [h.no] at g; cases g
theorem PhOK.eq {x Q j : Nat} (h : PhOK x Q) (hj : j ≤ Q) (g : fcmp .geq .f64 (fs x j) k25 = false) : j = Q := by
  rcases Nat.lt_or_eq_of_le hj with c | c
  · rw [h.up j c] at g; cases g
  · exact c
theorem ibT {a b : Int} (h : (a == b) = true) : a = b := by simpa using h
theorem ibF {a b : Int} (h : (a == b) = false) : a ≠ b := by simpa using h

theorem s60 (x Q : Nat) (h : PhOK x Q) : SP 60 [] [f64 x] [] (.v (c64 (phV x Q).1 (phV x Q).2)) := by
  refine spec_of_codeR (fn := Try.f60) tyOK mixes Try.func60 rfl rfl rfl rfl fun hg R0 hR => ?_
  refine c_seq fun NN1 nn1 => ?_
  refine c_region fun KK2 kk2 => ?_
  refine n_of (N' := KK2) kk2 ?_
  refine n_of (N' := NN1) nn1 ?_
  refine c_seq fun NN3 nn3 => ?_
  refine c_block fun XX4 xx4 => ?_
  refine c_seq fun NN5 nn5 => ?_
  refine c_region fun KK6 kk6 => ?_
  refine n_of (N' := KK6) kk6 ?_
  refine n_of (N' := NN5) nn5 ?_
  refine c_cond rfl (fun h0 => ?_) (fun h0 => ?_)
  · skip
    (rw [h.part.fi] at h0; cases h0)
  · skip
    refine c_seq fun NN7 nn7 => ?_
    refine c_region fun KK8 kk8 => ?_
    refine ⟨rfl, _, _, s84 _ h.part.nn h.part.lt, ?_⟩
    refine n_of (N' := KK8) kk8 ?_
    refine n_of (N' := NN7) nn7 ?_
    refine c_cond rfl (fun h1 => ?_) (fun h1 => ?_)
    · skip
      (rw [h.part.ge] at h1; cases h1)
    · skip
      refine c_skip ?_
      refine n_of (N' := NN3) nn3 ?_
      refine c_seq fun NN9 nn9 => ?_
      refine c_region fun KK10 kk10 => ?_
      refine ⟨rfl, _, _, s85 _ h.part, ?_⟩
      refine n_of (N' := KK10) kk10 ?_
      refine n_of (N' := NN9) nn9 ?_
      refine c_seq fun NN11 nn11 => ?_
      refine c_block fun XX12 xx12 => ?_
      refine loop_keep [] [] (ι := { j : Nat // j ≤ Q }) (fun i => [(3, fl64 (fs x i.1)), (4, exi .i64 i.1)]) (fun i => []) (fun j => Q - j.1) ⟨0, Nat.zero_le _⟩ trivial rfl ?_
      refine ⟨?_, ?_, ?_⟩
      · exact ⟨.inr rfl, .inr rfl, trivial⟩
      · exact trivial
      refine fun ⟨j, hj⟩ NL13 nl13 => ?_
      refine c_norm rfl rfl ?_
      refine c_seq fun NN14 nn14 => ?_
      refine c_seq fun NN15 nn15 => ?_
      refine c_region fun KK16 kk16 => ?_
      refine n_of (N' := KK16) kk16 ?_
      refine n_of (N' := NN15) nn15 ?_
      refine c_cond rfl (fun h2 => ?_) (fun h2 => ?_)
      · skip
        have hlt := h.lt hj h2
        refine c_skip ?_
        refine n_of (N' := NN14) nn14 ?_
        refine c_block fun XX17 xx17 => ?_
        refine c_seq fun NN18 nn18 => ?_
        refine c_region fun KK19 kk19 => ?_
        refine n_of (N' := KK19) kk19 ?_
        refine n_of (N' := NN18) nn18 ?_
        refine c_region fun KK20 kk20 => ?_
        refine n_of (N' := KK20) kk20 ?_
        refine n_of (N' := NL13) nl13 ?_
        refine ⟨⟨j + 1, h.lt hj h2⟩, ?_, [], rfl, ?_, ?_⟩
        · (dsimp only; omega)
        · exact LEq.eq trivial
        · exact ⟨.inr rfl, .inr (congrArg (exi .i64) (wr64 (n := (j : Int) + 1) (by omega) (by have := h.q3; omega))), trivial⟩
      · skip
        have e : j = Q := h.eq hj h2
        subst e
        refine c_exit ?_
        refine x_here xx12 ?_
        refine n_of (N' := NN11) nn11 ?_
        refine c_seq fun NN21 nn21 => ?_
        refine c_region fun KK22 kk22 => ?_
        refine ⟨rfl, _, _, s86 _ h.c, ?_⟩
        refine ⟨rfl, _, _, s86 _ h.s, ?_⟩
        refine n_of (N' := KK22) kk22 ?_
        refine n_of (N' := NN21) nn21 ?_
        refine c_seq fun NN23 nn23 => ?_
        refine c_seq fun NN24 nn24 => ?_
        refine c_region fun KK25 kk25 => ?_
        refine n_of (N' := KK25) kk25 ?_
        refine n_of (N' := NN24) nn24 ?_
        refine c_block fun XX26 xx26 => ?_
        refine c_seq fun NN27 nn27 => ?_
        refine c_region fun KK28 kk28 => ?_
        refine n_of (N' := KK28) kk28 ?_
        refine n_of (N' := NN27) nn27 ?_
        refine c_cond rfl (fun h3 => ?_) (fun h3 => ?_)
        · skip
          have q3 := eq_of_beq h3
          (try dsimp only at q3)
          (try simp only [Dat.len] at q3)
          refine c_region fun KK29 kk29 => ?_
          refine n_of (N' := KK29) kk29 ?_
          refine n_of (N' := NN23) nn23 ?_
          refine c_seq fun NN30 nn30 => ?_
          refine c_region fun KK31 kk31 => ?_
          refine And.intro ?_ ?_
          · first | exact h.narS | exact h.narC | exact h.narMS | exact h.narMC   -- 0 narrow
          refine And.intro ?_ ?_
          · first | exact h.narS | exact h.narC | exact h.narMS | exact h.narMC   -- 1 narrow
          refine n_of (N' := KK31) kk31 ?_
          refine n_of (N' := NN30) nn30 ?_
          refine c_ret ?_
          refine n_of (N' := R0) hR ?_
          have e := ibT h3
          have e : j = 1 := by omega
          subst e
          exact ⟨[], rfl, rfl, rfl⟩
        · skip
          have q3 := ne_of_beqF h3
          (try dsimp only at q3)
          (try simp only [Dat.len] at q3)
          refine c_seq fun NN32 nn32 => ?_
          refine c_region fun KK33 kk33 => ?_
          refine n_of (N' := KK33) kk33 ?_
          refine n_of (N' := NN32) nn32 ?_
          refine c_cond rfl (fun h4 => ?_) (fun h4 => ?_)
          · skip
            have q4 := eq_of_beq h4
            (try dsimp only at q4)
            (try simp only [Dat.len] at q4)
            refine c_region fun KK34 kk34 => ?_
            refine n_of (N' := KK34) kk34 ?_
            refine n_of (N' := NN23) nn23 ?_
            refine c_seq fun NN35 nn35 => ?_
            refine c_region fun KK36 kk36 => ?_
            refine And.intro ?_ ?_
            · first | exact h.narS | exact h.narC | exact h.narMS | exact h.narMC   -- 2 narrow
            refine And.intro ?_ ?_
            · first | exact h.narS | exact h.narC | exact h.narMS | exact h.narMC   -- 3 narrow
            refine n_of (N' := KK36) kk36 ?_
            refine n_of (N' := NN35) nn35 ?_
            refine c_ret ?_
            refine n_of (N' := R0) hR ?_
            have e := ibT h4
            have e : j = 2 := by omega
            subst e
            exact ⟨[], rfl, rfl, rfl⟩
          · skip
            have q4 := ne_of_beqF h4
            (try dsimp only at q4)
            (try simp only [Dat.len] at q4)
            refine c_seq fun NN37 nn37 => ?_
            refine c_region fun KK38 kk38 => ?_
            refine n_of (N' := KK38) kk38 ?_
            refine n_of (N' := NN37) nn37 ?_
            refine c_cond rfl (fun h5 => ?_) (fun h5 => ?_)
            · skip
              have q5 := eq_of_beq h5
              (try dsimp only at q5)
              (try simp only [Dat.len] at q5)
              refine c_region fun KK39 kk39 => ?_
              refine n_of (N' := KK39) kk39 ?_
              refine n_of (N' := NN23) nn23 ?_
              refine c_seq fun NN40 nn40 => ?_
              refine c_region fun KK41 kk41 => ?_
              refine And.intro ?_ ?_
              · first | exact h.narS | exact h.narC | exact h.narMS | exact h.narMC   -- 4 narrow
              refine And.intro ?_ ?_
              · first | exact h.narS | exact h.narC | exact h.narMS | exact h.narMC   -- 5 narrow
              refine n_of (N' := KK41) kk41 ?_
              refine n_of (N' := NN40) nn40 ?_
              refine c_ret ?_
              refine n_of (N' := R0) hR ?_
              have e := ibT h5
              have e : j = 3 := by omega
              subst e
              exact ⟨[], rfl, rfl, rfl⟩
            · skip
              have q5 := ne_of_beqF h5
              (try dsimp only at q5)
              (try simp only [Dat.len] at q5)
              refine c_skip ?_
              refine n_of (N' := NN23) nn23 ?_
              refine c_seq fun NN42 nn42 => ?_
              refine c_region fun KK43 kk43 => ?_
              refine And.intro ?_ ?_
              · first | exact h.narS | exact h.narC | exact h.narMS | exact h.narMC   -- 6 narrow
              refine And.intro ?_ ?_
              · first | exact h.narS | exact h.narC | exact h.narMS | exact h.narMC   -- 7 narrow
              refine n_of (N' := KK43) kk43 ?_
              refine n_of (N' := NN42) nn42 ?_
              refine c_ret ?_
              refine n_of (N' := R0) hR ?_
              have e1 := ibF h3
              have e2 := ibF h4
              have e3 := ibF h5
              have e := h.q3
              have e : j = 0 := by omega
              subst e
              exact ⟨[], rfl, rfl, rfl⟩

theorem s56 (x Q : Nat) (h : PhOK x Q) : SP 56 [] [f64 x] [] (.v (c64 (phV x Q).1 (phV x Q).2)) := by
  refine spec_of_codeR (fn := Try.f56) tyOK mixes Try.func56 rfl rfl rfl rfl fun hg R0 hR => ?_
  refine c_seq fun NN1 nn1 => ?_
  refine c_region fun KK2 kk2 => ?_
  refine n_of (N' := KK2) kk2 ?_
  refine n_of (N' := NN1) nn1 ?_
  refine c_seq fun NN3 nn3 => ?_
  refine c_seq fun NN4 nn4 => ?_
  refine c_region fun KK5 kk5 => ?_
  refine n_of (N' := KK5) kk5 ?_
  refine n_of (N' := NN4) nn4 ?_
  refine c_cond rfl (fun h0 => ?_) (fun h0 => ?_)
  · skip
    (rw [h.part.fi] at h0; cases h0)
  · skip
    refine c_skip ?_
    refine n_of (N' := NN3) nn3 ?_
    refine c_seq fun NN6 nn6 => ?_
    refine c_seq fun NN7 nn7 => ?_
    refine c_region fun KK8 kk8 => ?_
    refine And.intro (fun h1 => ?_) (fun h1 => ?_)
    · skip
      (rw [h.part.ge] at h1; cases h1)
    · skip
      refine n_of (N' := KK8) kk8 ?_
      refine n_of (N' := NN7) nn7 ?_
      refine c_cond rfl (fun h2 => ?_) (fun h2 => ?_)
      · skip
        (rw [h.part.le] at h2; cases h2)
      · skip
        refine c_skip ?_
        refine n_of (N' := NN6) nn6 ?_
        refine c_seq fun NN9 nn9 => ?_
        refine c_region fun KK10 kk10 => ?_
        refine And.intro ?_ ?_
        · (rw [h.part.i0]; rfl)   -- 0 toint
        refine n_of (N' := KK10) kk10 ?_
        refine n_of (N' := NN9) nn9 ?_
        refine c_seq fun NN11 nn11 => ?_
        refine c_seq fun NN12 nn12 => ?_
        refine c_region fun KK13 kk13 => ?_
        refine n_of (N' := KK13) kk13 ?_
        refine n_of (N' := NN12) nn12 ?_
        refine c_cond rfl (fun h3 => ?_) (fun h3 => ?_)
        · skip
          (rw [h.part.fz, h.part.ng] at h3; cases h3)
        · skip
          rw [h.part.fz]
          refine c_skip ?_
          refine n_of (N' := NN11) nn11 ?_
          refine c_seq fun NN14 nn14 => ?_
          refine c_region fun KK15 kk15 => ?_
          refine n_of (N' := KK15) kk15 ?_
          refine n_of (N' := NN14) nn14 ?_
          refine c_seq fun NN16 nn16 => ?_
          refine c_block fun XX17 xx17 => ?_
          refine loop_keep [] [] (ι := { j : Nat // j ≤ Q }) (fun i => [(3, fl64 (fs x i.1)), (4, exi .i64 i.1)]) (fun i => []) (fun j => Q - j.1) ⟨0, Nat.zero_le _⟩ trivial rfl ?_
          refine ⟨?_, ?_, ?_⟩
          · exact ⟨.inr rfl, .inr rfl, trivial⟩
          · exact trivial
          refine fun ⟨j, hj⟩ NL18 nl18 => ?_
          refine c_norm rfl rfl ?_
          refine c_seq fun NN19 nn19 => ?_
          refine c_seq fun NN20 nn20 => ?_
          refine c_region fun KK21 kk21 => ?_
          refine n_of (N' := KK21) kk21 ?_
          refine n_of (N' := NN20) nn20 ?_
          refine c_cond rfl (fun h4 => ?_) (fun h4 => ?_)
          · skip
            have hlt := h.lt hj h4
            refine c_skip ?_
            refine n_of (N' := NN19) nn19 ?_
            refine c_block fun XX22 xx22 => ?_
            refine c_seq fun NN23 nn23 => ?_
            refine c_region fun KK24 kk24 => ?_
            refine n_of (N' := KK24) kk24 ?_
            refine n_of (N' := NN23) nn23 ?_
            refine c_region fun KK25 kk25 => ?_
            refine n_of (N' := KK25) kk25 ?_
            refine n_of (N' := NL18) nl18 ?_
            refine ⟨⟨j + 1, h.lt hj h4⟩, ?_, [], rfl, ?_, ?_⟩
            · (dsimp only; omega)
            · exact LEq.eq trivial
            · exact ⟨.inr rfl, .inr (congrArg (exi .i64) (wr64 (n := (j : Int) + 1) (by omega) (by have := h.q3; omega))), trivial⟩
          · skip
            have e : j = Q := h.eq hj h4
            subst e
            refine c_exit ?_
            refine x_here xx17 ?_
            refine n_of (N' := NN16) nn16 ?_
            refine c_seq fun NN26 nn26 => ?_
            refine c_region fun KK27 kk27 => ?_
            refine ⟨rfl, _, _, s80 _ h.c, ?_⟩
            refine n_of (N' := KK27) kk27 ?_
            refine n_of (N' := NN26) nn26 ?_
            refine c_seq fun NN28 nn28 => ?_
            refine c_region fun KK29 kk29 => ?_
            refine ⟨rfl, _, _, s80 _ h.s, ?_⟩
            refine n_of (N' := KK29) kk29 ?_
            refine n_of (N' := NN28) nn28 ?_
            refine c_seq fun NN30 nn30 => ?_
            refine c_seq fun NN31 nn31 => ?_
            refine c_region fun KK32 kk32 => ?_
            refine n_of (N' := KK32) kk32 ?_
            refine n_of (N' := NN31) nn31 ?_
            refine c_block fun XX33 xx33 => ?_
            refine c_seq fun NN34 nn34 => ?_
            refine c_region fun KK35 kk35 => ?_
            refine n_of (N' := KK35) kk35 ?_
            refine n_of (N' := NN34) nn34 ?_
            refine c_cond rfl (fun h5 => ?_) (fun h5 => ?_)
            · skip
              have q5 := eq_of_beq h5
              (try dsimp only at q5)
              (try simp only [Dat.len] at q5)
              refine c_seq fun NN36 nn36 => ?_
              refine c_region fun KK37 kk37 => ?_
              refine ⟨rfl, _, _, s81 _ h.narMS, ?_⟩
              refine ⟨rfl, _, _, s81 _ h.narC, ?_⟩
              refine n_of (N' := KK37) kk37 ?_
              refine n_of (N' := NN36) nn36 ?_
              refine c_ret ?_
              refine n_of (N' := R0) hR ?_
              have e := ibT h5
              have e : j = 1 := by omega
              subst e
              exact ⟨[], rfl, rfl, rfl⟩
            · skip
              have q5 := ne_of_beqF h5
              (try dsimp only at q5)
              (try simp only [Dat.len] at q5)
              refine c_seq fun NN38 nn38 => ?_
              refine c_region fun KK39 kk39 => ?_
              refine n_of (N' := KK39) kk39 ?_
              refine n_of (N' := NN38) nn38 ?_
              refine c_cond rfl (fun h6 => ?_) (fun h6 => ?_)
              · skip
                have q6 := eq_of_beq h6
                (try dsimp only at q6)
                (try simp only [Dat.len] at q6)
                refine c_seq fun NN40 nn40 => ?_
                refine c_region fun KK41 kk41 => ?_
                refine ⟨rfl, _, _, s81 _ h.narMC, ?_⟩
                refine ⟨rfl, _, _, s81 _ h.narMS, ?_⟩
                refine n_of (N' := KK41) kk41 ?_
                refine n_of (N' := NN40) nn40 ?_
                refine c_ret ?_
                refine n_of (N' := R0) hR ?_
                have e := ibT h6
                have e : j = 2 := by omega
                subst e
                exact ⟨[], rfl, rfl, rfl⟩
              · skip
                have q6 := ne_of_beqF h6
                (try dsimp only at q6)
                (try simp only [Dat.len] at q6)
                refine c_seq fun NN42 nn42 => ?_
                refine c_region fun KK43 kk43 => ?_
                refine n_of (N' := KK43) kk43 ?_
                refine n_of (N' := NN42) nn42 ?_
                refine c_cond rfl (fun h7 => ?_) (fun h7 => ?_)
                · skip
                  have q7 := eq_of_beq h7
                  (try dsimp only at q7)
                  (try simp only [Dat.len] at q7)
                  refine c_seq fun NN44 nn44 => ?_
                  refine c_region fun KK45 kk45 => ?_
                  refine ⟨rfl, _, _, s81 _ h.narS, ?_⟩
                  refine ⟨rfl, _, _, s81 _ h.narMC, ?_⟩
                  refine n_of (N' := KK45) kk45 ?_
                  refine n_of (N' := NN44) nn44 ?_
                  refine c_ret ?_
                  refine n_of (N' := R0) hR ?_
                  have e := ibT h7
                  have e : j = 3 := by omega
                  subst e
                  exact ⟨[], rfl, rfl, rfl⟩
                · skip
                  have q7 := ne_of_beqF h7
                  (try dsimp only at q7)
                  (try simp only [Dat.len] at q7)
                  refine c_skip ?_
                  refine n_of (N' := NN30) nn30 ?_
                  refine c_seq fun NN46 nn46 => ?_
                  refine c_region fun KK47 kk47 => ?_
                  refine ⟨rfl, _, _, s81 _ h.narC, ?_⟩
                  refine ⟨rfl, _, _, s81 _ h.narS, ?_⟩
                  refine n_of (N' := KK47) kk47 ?_
                  refine n_of (N' := NN46) nn46 ?_
                  refine c_ret ?_
                  refine n_of (N' := R0) hR ?_
                  have e1 := ibF h5
                  have e2 := ibF h6
                  have e3 := ibF h7
                  have e := h.q3
                  have e : j = 0 := by omega
                  subst e
                  exact ⟨[], rfl, rfl, rfl⟩

theorem s57 (x y b : Nat) : SP 57 [] [c64 x y, f32 b] [] (.v (c64 (fop .mul .f32 x b) (fop .mul .f32 y b))) := by
  refine spec_of_codeR (fn := Try.f57) tyOK mixes Try.func57 rfl rfl rfl rfl fun hg R0 hR => ?_
  refine c_seq fun NN1 nn1 => ?_
  refine c_region fun KK2 kk2 => ?_
  refine n_of (N' := KK2) kk2 ?_
  refine n_of (N' := NN1) nn1 ?_
  refine c_seq fun NN3 nn3 => ?_
  refine c_region fun KK4 kk4 => ?_
  refine n_of (N' := KK4) kk4 ?_
  refine n_of (N' := NN3) nn3 ?_
  refine c_ret ?_
  refine n_of (N' := R0) hR ?_
  exact ⟨[], rfl, rfl, rfl⟩

theorem s59 (x y b : Nat) : SP 59 [] [c64 x y, f32 b] [] (.v (c64 (fop .mul .f32 x b) (fop .mul .f32 y b))) := by
  refine spec_of_codeR (fn := Try.f59) tyOK mixes Try.func59 rfl rfl rfl rfl fun hg R0 hR => ?_
  refine c_seq fun NN1 nn1 => ?_
  refine c_region fun KK2 kk2 => ?_
  refine n_of (N' := KK2) kk2 ?_
  refine n_of (N' := NN1) nn1 ?_
  refine c_seq fun NN3 nn3 => ?_
  refine c_region fun KK4 kk4 => ?_
  refine n_of (N' := KK4) kk4 ?_
  refine n_of (N' := NN3) nn3 ?_
  refine c_ret ?_
  refine n_of (N' := R0) hR ?_
  exact ⟨[], rfl, rfl, rfl⟩

end
end Go.AX
