/- What the functions of this program do, one contract a function, by that walk: each under what its own statement says. -/
import Derived.Test.YtfhgggjpdimaoaaSqE3
set_option linter.unusedVariables false
set_option linter.unusedSimpArgs false
namespace Go.AX
noncomputable section
open Go.RowKit Go.Proofs
set_option maxRecDepth 100000
set_option maxHeartbeats 4000000
open Go

/-! The reference's walk -/
theorem ixw {i j N : Nat} (hi : i < N) (hj : j < N) (hN : N ≤ 16) : IntKind.i64.wrap (IntKind.i64.wrap ((i : Int) * (N : Int)) + (j : Int)) = ((i * N + j : Nat) : Int) := by
  have h1 := ix_lt hi hj
  have h2 : N * N ≤ 16 * 16 := Nat.mul_le_mul hN hN
  rw [show (i : Int) * (N : Int) = ((i * N : Nat) : Int) by simp, wr64 (n := ((i * N : Nat) : Int)) (by omega) (by omega), show ((i * N : Nat) : Int) + (j : Int) = ((i * N + j : Nat) : Int) by simp, wr64 (by omega) (by omega)]
theorem ixd {i j N L : Nat} (hL : N * N ≤ L) (hi : i < N) (hj : j < N) (hN : N ≤ 16) : 0 ≤ IntKind.i64.wrap (IntKind.i64.wrap ((i : Int) * (N : Int)) + (j : Int)) ∧ IntKind.i64.wrap (IntKind.i64.wrap ((i : Int) * (N : Int)) + (j : Int)) < (L : Int) := by
  have h1 := ix_lt hi hj
  rw [ixw hi hj hN]; omega
theorem ixl {i j N L : Nat} (hL : N * N ≤ L) (hi : i < N) (hj : j < N) (hN : N ≤ 16) : (IntKind.i64.wrap (IntKind.i64.wrap ((i : Int) * (N : Int)) + (j : Int))).toNat < L := by
  have h1 := ix_lt hi hj
  rw [ixw hi hj hN]; omega
theorem flat_ix {F : Nat → Nat → Nat} {i j N : Nat} (hi : i < N) (hj : j < N) (hN : N ≤ 16) : (flat F N).getD (IntKind.i64.wrap (IntKind.i64.wrap ((i : Int) * (N : Int)) + (j : Int))).toNat 0 = F i j := by
  rw [ixw hi hj hN, Int.toNat_natCast, flat_at hi hj]
theorem flat_put {F : Nat → Nat → Nat} {i j N v : Nat} (hi : i < N) (hj : j < N) (hN : N ≤ 16) : (flat F N).set (IntKind.i64.wrap (IntKind.i64.wrap ((i : Int) * (N : Int)) + (j : Int))).toNat v = flat (upd F i j v) N := by
  rw [ixw hi hj hN, Int.toNat_natCast, flat_set hi hj]
theorem wrN {a b : Nat} (h : a + b ≤ 100000) : IntKind.i64.wrap ((a : Int) + (b : Int)) = ((a + b : Nat) : Int) := by rw [wr64 (by omega) (by omega)]; simp

theorem pS_1 {c : Nat → Nat} {k t : Nat} (h : fcmp .gtr .f32 (c (k + t)) (c (pS c k t)) = true) : pS c k (t + 1) = k + t := by simp only [pS, h, Bool.true_or, cond_true]
theorem pS_2 {c : Nat → Nat} {k t : Nat} (h : fcmp .gtr .f32 (c (k + t)) (c (pS c k t)) = false) (h2 : fcmp .neq .f32 (c (pS c k t)) (c (pS c k t)) = true) (h3 : fcmp .eql .f32 (c (k + t)) (c (k + t)) = true) : pS c k (t + 1) = k + t := by simp only [pS, h, h2, h3, Bool.and_true, Bool.or_true, cond_true]
theorem pS_3 {c : Nat → Nat} {k t : Nat} (h : fcmp .gtr .f32 (c (k + t)) (c (pS c k t)) = false) (h2 : fcmp .neq .f32 (c (pS c k t)) (c (pS c k t)) = true) (h3 : fcmp .eql .f32 (c (k + t)) (c (k + t)) = false) : pS c k (t + 1) = pS c k t := by simp only [pS, h, h2, h3, Bool.and_false, Bool.or_false, cond_false]
theorem pS_4 {c : Nat → Nat} {k t : Nat} (h : fcmp .gtr .f32 (c (k + t)) (c (pS c k t)) = false) (h2 : fcmp .neq .f32 (c (pS c k t)) (c (pS c k t)) = false) : pS c k (t + 1) = pS c k t := by simp only [pS, h, h2, Bool.false_and, Bool.or_false, cond_false]

theorem s74 (o : Bool) (F : Nat → Nat → Nat) (N k : Nat) (hk : k < N) (hN : N ≤ 16) : SP 74 [ar o (flat F N)] [.one (.sl 0), i64 N, i64 k] [ar o (flat F N)] (exi .i64 (pv F k N)) := by
  refine spec_of_codeR (fn := Try.f74) tyOK mixes Try.func74 rfl rfl rfl ⟨.inl rfl, rfl⟩ fun hg R0 hR => ?_
  refine c_seq fun NN1 nn1 => ?_
  refine c_region fun KK2 kk2 => ?_
  refine n_of (N' := KK2) kk2 ?_
  refine n_of (N' := NN1) nn1 ?_
  refine c_seq fun NN3 nn3 => ?_
  refine c_region fun KK4 kk4 => ?_
  refine n_of (N' := KK4) kk4 ?_
  refine n_of (N' := NN3) nn3 ?_
  refine c_seq fun NN5 nn5 => ?_
  refine c_seq fun NN6 nn6 => ?_
  refine c_region fun KK7 kk7 => ?_
  refine n_of (N' := KK7) kk7 ?_
  refine n_of (N' := NN6) nn6 ?_
  refine c_block fun XX8 xx8 => ?_
  refine loop_keep [] [0, 1, 2] (ι := { i : Nat // k + i ≤ N }) (fun i => [(7, exi .i64 (pS (fun i => absv (F i k)) k i.1 : Nat)), (8, exi .i64 ((k + i.1 : Nat) : Int))]) (fun i => []) (fun i => N - (k + i.1)) ⟨0, by omega⟩ trivial rfl ?_
  refine ⟨?_, ?_, ?_⟩
  · exact ⟨.inr rfl, .inr rfl, trivial⟩
  · exact ⟨rfl, trivial⟩
  refine fun ⟨i, hi⟩ NL9 nl9 => ?_
  refine c_norm rfl rfl ?_
  refine c_seq fun NN10 nn10 => ?_
  refine c_seq fun NN11 nn11 => ?_
  refine c_region fun KK12 kk12 => ?_
  refine n_of (N' := KK12) kk12 ?_
  refine n_of (N' := NN11) nn11 ?_
  refine c_cond rfl (fun h0 => ?_) (fun h0 => ?_)
  · skip
    have q0 := of_decide_eq_true h0
    (try dsimp only at q0)
    (try simp only [Dat.len, flatN_len] at q0)
    have hp := pS_lt (fun i => absv (F i k)) k i
    refine c_skip ?_
    refine n_of (N' := NN10) nn10 ?_
    refine c_seq fun NN13 nn13 => ?_
    refine c_block fun XX14 xx14 => ?_
    refine c_seq fun NN15 nn15 => ?_
    refine c_region fun KK16 kk16 => ?_
    refine And.intro ?_ ?_
    · first | exact ixd (by simp only [Dat.len, List.length_set, flatN_len]; exact Nat.le_refl _) (by (try dsimp only); omega) (by (try dsimp only); omega) hN | ((try dsimp only); (try simp only [Dat.len, Int.toNat_natCast, List.length_set, flatN_len, bld_len]); omega)   -- 0 index
    refine And.intro ?_ ?_
    · first | exact ixl (by simp only [Dat.len, List.length_set, flatN_len]; exact Nat.le_refl _) (by (try dsimp only); omega) (by (try dsimp only); omega) hN | ((try dsimp only); (try simp only [Dat.len, Int.toNat_natCast, List.length_set, flatN_len, bld_len]); omega)   -- 1 load
    refine ⟨rfl, _, _, (s75 _), ?_⟩
    refine n_of (N' := KK16) kk16 ?_
    refine n_of (N' := NN15) nn15 ?_
    refine c_seq fun NN17 nn17 => ?_
    refine c_region fun KK18 kk18 => ?_
    refine And.intro ?_ ?_
    · first | exact ixd (by simp only [Dat.len, List.length_set, flatN_len]; exact Nat.le_refl _) (by (try dsimp only); omega) (by (try dsimp only); omega) hN | ((try dsimp only); (try simp only [Dat.len, Int.toNat_natCast, List.length_set, flatN_len, bld_len]); omega)   -- 2 index
    refine And.intro ?_ ?_
    · first | exact ixl (by simp only [Dat.len, List.length_set, flatN_len]; exact Nat.le_refl _) (by (try dsimp only); omega) (by (try dsimp only); omega) hN | ((try dsimp only); (try simp only [Dat.len, Int.toNat_natCast, List.length_set, flatN_len, bld_len]); omega)   -- 3 load
    refine ⟨rfl, _, _, (s75 _), ?_⟩
    refine n_of (N' := KK18) kk18 ?_
    refine n_of (N' := NN17) nn17 ?_
    refine c_seq fun NN19 nn19 => ?_
    refine c_region fun KK20 kk20 => ?_
    refine And.intro (fun h1 => ?_) (fun h1 => ?_)
    · skip
      (try dsimp only at h1)
      simp (disch := omega) only [flat_ix] at h1
      refine n_of (N' := KK20) kk20 ?_
      refine n_of (N' := NN19) nn19 ?_
      refine c_cond rfl (fun _ => ?_) (fun h => nomatch h)
      refine c_region fun KK21 kk21 => ?_
      refine n_of (N' := KK21) kk21 ?_
      refine n_of (N' := NN13) nn13 ?_
      refine c_region fun KK22 kk22 => ?_
      refine n_of (N' := KK22) kk22 ?_
      refine n_of (N' := NL9) nl9 ?_
      refine ⟨⟨i + 1, by omega⟩, ?_, [0], rfl, ?_, ?_⟩
      · (dsimp only; omega)
      · exact LEq.eq ⟨rfl, trivial⟩
      · exact ⟨.inr (congrArg (fun z : Nat => exi .i64 (z : Int)) (by first | exact (pS_1 (c := (fun i => absv (F i k))) (k := k) (t := i) h1).symm | exact (pS_2 (c := (fun i => absv (F i k))) (k := k) (t := i) h1 h2 h3).symm | exact (pS_3 (c := (fun i => absv (F i k))) (k := k) (t := i) h1 h2 h3).symm | exact (pS_4 (c := (fun i => absv (F i k))) (k := k) (t := i) h1 h2).symm)), .inr (congrArg (exi .i64) (wrN (a := k + i) (b := 1) (by omega))), .inr rfl, .inr rfl, .inr rfl, trivial⟩
    · skip
      (try dsimp only at h1)
      simp (disch := omega) only [flat_ix] at h1
      refine And.intro (fun h2 => ?_) (fun h2 => ?_)
      · skip
        (try dsimp only at h2)
        simp (disch := omega) only [flat_ix] at h2
        refine n_of (N' := KK20) kk20 ?_
        refine n_of (N' := NN19) nn19 ?_
        refine c_cond rfl (fun h3 => ?_) (fun h3 => ?_)
        · skip
          (try dsimp only at h3)
          simp (disch := omega) only [flat_ix] at h3
          refine c_region fun KK23 kk23 => ?_
          refine n_of (N' := KK23) kk23 ?_
          refine n_of (N' := NN13) nn13 ?_
          refine c_region fun KK24 kk24 => ?_
          refine n_of (N' := KK24) kk24 ?_
          refine n_of (N' := NL9) nl9 ?_
          refine ⟨⟨i + 1, by omega⟩, ?_, [0], rfl, ?_, ?_⟩
          · (dsimp only; omega)
          · exact LEq.eq ⟨rfl, trivial⟩
          · exact ⟨.inr (congrArg (fun z : Nat => exi .i64 (z : Int)) (by first | exact (pS_1 (c := (fun i => absv (F i k))) (k := k) (t := i) h1).symm | exact (pS_2 (c := (fun i => absv (F i k))) (k := k) (t := i) h1 h2 h3).symm | exact (pS_3 (c := (fun i => absv (F i k))) (k := k) (t := i) h1 h2 h3).symm | exact (pS_4 (c := (fun i => absv (F i k))) (k := k) (t := i) h1 h2).symm)), .inr (congrArg (exi .i64) (wrN (a := k + i) (b := 1) (by omega))), .inr rfl, .inr rfl, .inr rfl, trivial⟩
        · skip
          (try dsimp only at h3)
          simp (disch := omega) only [flat_ix] at h3
          refine c_skip ?_
          refine n_of (N' := NN13) nn13 ?_
          refine c_region fun KK25 kk25 => ?_
          refine n_of (N' := KK25) kk25 ?_
          refine n_of (N' := NL9) nl9 ?_
          refine ⟨⟨i + 1, by omega⟩, ?_, [0], rfl, ?_, ?_⟩
          · (dsimp only; omega)
          · exact LEq.eq ⟨rfl, trivial⟩
          · exact ⟨.inr (congrArg (fun z : Nat => exi .i64 (z : Int)) (by first | exact (pS_1 (c := (fun i => absv (F i k))) (k := k) (t := i) h1).symm | exact (pS_2 (c := (fun i => absv (F i k))) (k := k) (t := i) h1 h2 h3).symm | exact (pS_3 (c := (fun i => absv (F i k))) (k := k) (t := i) h1 h2 h3).symm | exact (pS_4 (c := (fun i => absv (F i k))) (k := k) (t := i) h1 h2).symm)), .inr (congrArg (exi .i64) (wrN (a := k + i) (b := 1) (by omega))), .inr rfl, .inr rfl, .inr rfl, trivial⟩
      · skip
        (try dsimp only at h2)
        simp (disch := omega) only [flat_ix] at h2
        refine n_of (N' := KK20) kk20 ?_
        refine n_of (N' := NN19) nn19 ?_
        refine c_cond rfl (fun h => nomatch h) (fun _ => ?_)
        refine c_skip ?_
        refine n_of (N' := NN13) nn13 ?_
        refine c_region fun KK26 kk26 => ?_
        refine n_of (N' := KK26) kk26 ?_
        refine n_of (N' := NL9) nl9 ?_
        refine ⟨⟨i + 1, by omega⟩, ?_, [0], rfl, ?_, ?_⟩
        · (dsimp only; omega)
        · exact LEq.eq ⟨rfl, trivial⟩
        · exact ⟨.inr (congrArg (fun z : Nat => exi .i64 (z : Int)) (by first | exact (pS_1 (c := (fun i => absv (F i k))) (k := k) (t := i) h1).symm | exact (pS_2 (c := (fun i => absv (F i k))) (k := k) (t := i) h1 h2 h3).symm | exact (pS_3 (c := (fun i => absv (F i k))) (k := k) (t := i) h1 h2 h3).symm | exact (pS_4 (c := (fun i => absv (F i k))) (k := k) (t := i) h1 h2).symm)), .inr (congrArg (exi .i64) (wrN (a := k + i) (b := 1) (by omega))), .inr rfl, .inr rfl, .inr rfl, trivial⟩
  · skip
    have q0 := of_decide_eq_false h0
    (try dsimp only at q0)
    (try simp only [Dat.len, flatN_len] at q0)
    refine c_exit ?_
    refine x_here xx8 ?_
    refine n_of (N' := NN5) nn5 ?_
    refine c_seq fun NN27 nn27 => ?_
    refine c_region fun KK28 kk28 => ?_
    refine n_of (N' := KK28) kk28 ?_
    refine n_of (N' := NN27) nn27 ?_
    refine c_ret ?_
    refine n_of (N' := R0) hR ?_
    have e : i = N - k := by omega
    subst e
    exact ⟨[], rfl, rfl, rfl⟩

theorem s76 (F : Nat → Nat → Nat) (b : Nat → Nat) (N k p : Nat) (hk : k < N) (hp : p < N) (hN : N ≤ 16) : SP 76 [ar true (flat F N), ar true (bld b N)] [.one (.sl 0), .one (.sl 1), i64 N, i64 k, i64 p] [ar true (flat (fun r c => F (swp k p r) c) N), ar true (bld (fun r => b (swp k p r)) N)] (.tup []) := by
  refine spec_of_codeR (fn := Try.f76) tyOK mixes Try.func76 rfl rfl rfl ⟨.inr rfl, ⟨.inr rfl, rfl⟩⟩ fun hg R0 hR => ?_
  refine c_seq fun NN1 nn1 => ?_
  refine c_seq fun NN2 nn2 => ?_
  refine c_region fun KK3 kk3 => ?_
  refine n_of (N' := KK3) kk3 ?_
  refine n_of (N' := NN2) nn2 ?_
  refine c_block fun XX4 xx4 => ?_
  refine loop_keep [] [0, 1, 2, 3, 4] (ι := { j : Nat // j ≤ N }) (fun i => [(10, exi .i64 i.1)]) (fun i => [(0, ar true (flat (sw F k p i.1) N))]) (fun j => N - j.1) ⟨0, Nat.zero_le _⟩ trivial rfl ?_
  refine ⟨?_, ?_, ?_⟩
  · exact ⟨.inr rfl, trivial⟩
  · exact ⟨rfl, rfl, trivial⟩
  refine fun ⟨j, hj⟩ NL5 nl5 => ?_
  refine c_norm rfl rfl ?_
  refine c_seq fun NN6 nn6 => ?_
  refine c_seq fun NN7 nn7 => ?_
  refine c_region fun KK8 kk8 => ?_
  refine n_of (N' := KK8) kk8 ?_
  refine n_of (N' := NN7) nn7 ?_
  refine c_cond rfl (fun h0 => ?_) (fun h0 => ?_)
  · skip
    have q0 := of_decide_eq_true h0
    (try dsimp only at q0)
    (try simp only [Dat.len, flatN_len, bld_len, List.length_set] at q0)
    refine c_skip ?_
    refine n_of (N' := NN6) nn6 ?_
    refine c_seq fun NN9 nn9 => ?_
    refine c_block fun XX10 xx10 => ?_
    refine c_seq fun NN11 nn11 => ?_
    refine c_region fun KK12 kk12 => ?_
    refine And.intro ?_ ?_
    · first | exact ixd (by simp only [Dat.len, List.length_set, flatN_len]; exact Nat.le_refl _) (by (try dsimp only); omega) (by (try dsimp only); omega) hN | ((try dsimp only); (try simp only [Dat.len, Int.toNat_natCast, List.length_set, flatN_len, bld_len]); omega)   -- 0 index
    refine And.intro ?_ ?_
    · first | exact ixl (by simp only [Dat.len, List.length_set, flatN_len]; exact Nat.le_refl _) (by (try dsimp only); omega) (by (try dsimp only); omega) hN | ((try dsimp only); (try simp only [Dat.len, Int.toNat_natCast, List.length_set, flatN_len, bld_len]); omega)   -- 1 load
    refine n_of (N' := KK12) kk12 ?_
    refine n_of (N' := NN11) nn11 ?_
    refine c_seq fun NN13 nn13 => ?_
    refine c_region fun KK14 kk14 => ?_
    refine And.intro ?_ ?_
    · first | exact ixd (by simp only [Dat.len, List.length_set, flatN_len]; exact Nat.le_refl _) (by (try dsimp only); omega) (by (try dsimp only); omega) hN | ((try dsimp only); (try simp only [Dat.len, Int.toNat_natCast, List.length_set, flatN_len, bld_len]); omega)   -- 2 index
    refine And.intro ?_ ?_
    · first | exact ixl (by simp only [Dat.len, List.length_set, flatN_len]; exact Nat.le_refl _) (by (try dsimp only); omega) (by (try dsimp only); omega) hN | ((try dsimp only); (try simp only [Dat.len, Int.toNat_natCast, List.length_set, flatN_len, bld_len]); omega)   -- 3 load
    refine And.intro ?_ ?_
    · first | exact ixd (by simp only [Dat.len, List.length_set, flatN_len]; exact Nat.le_refl _) (by (try dsimp only); omega) (by (try dsimp only); omega) hN | ((try dsimp only); (try simp only [Dat.len, Int.toNat_natCast, List.length_set, flatN_len, bld_len]); omega)   -- 4 index
    refine And.intro ?_ ?_
    · first | exact ixl (by simp only [Dat.len, List.length_set, flatN_len]; exact Nat.le_refl _) (by (try dsimp only); omega) (by (try dsimp only); omega) hN | ((try dsimp only); (try simp only [Dat.len, Int.toNat_natCast, List.length_set, flatN_len, bld_len]); omega)   -- 5 store
    refine n_of (N' := KK14) kk14 ?_
    refine n_of (N' := NN13) nn13 ?_
    refine c_region fun KK15 kk15 => ?_
    refine And.intro ?_ ?_
    · first | exact ixd (by simp only [Dat.len, List.length_set, flatN_len]; exact Nat.le_refl _) (by (try dsimp only); omega) (by (try dsimp only); omega) hN | ((try dsimp only); (try simp only [Dat.len, Int.toNat_natCast, List.length_set, flatN_len, bld_len]); omega)   -- 6 index
    refine And.intro ?_ ?_
    · first | exact ixl (by simp only [Dat.len, List.length_set, flatN_len]; exact Nat.le_refl _) (by (try dsimp only); omega) (by (try dsimp only); omega) hN | ((try dsimp only); (try simp only [Dat.len, Int.toNat_natCast, List.length_set, flatN_len, bld_len]); omega)   -- 7 store
    refine n_of (N' := KK15) kk15 ?_
    refine n_of (N' := NN9) nn9 ?_
    refine c_region fun KK16 kk16 => ?_
    refine n_of (N' := KK16) kk16 ?_
    refine n_of (N' := NL5) nl5 ?_
    refine ⟨⟨j + 1, by omega⟩, ?_, [0, 1], rfl, ?_, ?_⟩
    · (dsimp only; omega)
    · exact LEq.eq ⟨congrArg (ar true) (by (try dsimp only); rw [flat_ix (by omega) (by omega) hN, flat_ix (by omega) (by omega) hN, flat_put (by omega) (by omega) hN, flat_put (by omega) (by omega) hN]; rfl), rfl, trivial⟩
    · exact ⟨.inr (congrArg (exi .i64) (wr64 (n := (j : Int) + 1) (by omega) (by omega))), .inr rfl, .inr rfl, .inr rfl, .inr rfl, .inr rfl, trivial⟩
  · skip
    have q0 := of_decide_eq_false h0
    (try dsimp only at q0)
    (try simp only [Dat.len, flatN_len, bld_len, List.length_set] at q0)
    refine c_exit ?_
    refine x_here xx4 ?_
    refine n_of (N' := NN1) nn1 ?_
    refine c_seq fun NN17 nn17 => ?_
    refine c_region fun KK18 kk18 => ?_
    refine And.intro ?_ ?_
    · first | exact ixd (by simp only [Dat.len, List.length_set, flatN_len]; exact Nat.le_refl _) (by (try dsimp only); omega) (by (try dsimp only); omega) hN | ((try dsimp only); (try simp only [Dat.len, Int.toNat_natCast, List.length_set, flatN_len, bld_len]); omega)   -- 8 index
    refine And.intro ?_ ?_
    · first | exact ixl (by simp only [Dat.len, List.length_set, flatN_len]; exact Nat.le_refl _) (by (try dsimp only); omega) (by (try dsimp only); omega) hN | ((try dsimp only); (try simp only [Dat.len, Int.toNat_natCast, List.length_set, flatN_len, bld_len]); omega)   -- 9 load
    refine n_of (N' := KK18) kk18 ?_
    refine n_of (N' := NN17) nn17 ?_
    refine c_seq fun NN19 nn19 => ?_
    refine c_region fun KK20 kk20 => ?_
    refine And.intro ?_ ?_
    · first | exact ixd (by simp only [Dat.len, List.length_set, flatN_len]; exact Nat.le_refl _) (by (try dsimp only); omega) (by (try dsimp only); omega) hN | ((try dsimp only); (try simp only [Dat.len, Int.toNat_natCast, List.length_set, flatN_len, bld_len]); omega)   -- 10 index
    refine And.intro ?_ ?_
    · first | exact ixl (by simp only [Dat.len, List.length_set, flatN_len]; exact Nat.le_refl _) (by (try dsimp only); omega) (by (try dsimp only); omega) hN | ((try dsimp only); (try simp only [Dat.len, Int.toNat_natCast, List.length_set, flatN_len, bld_len]); omega)   -- 11 load
    refine And.intro ?_ ?_
    · first | exact ixd (by simp only [Dat.len, List.length_set, flatN_len]; exact Nat.le_refl _) (by (try dsimp only); omega) (by (try dsimp only); omega) hN | ((try dsimp only); (try simp only [Dat.len, Int.toNat_natCast, List.length_set, flatN_len, bld_len]); omega)   -- 12 index
    refine And.intro ?_ ?_
    · first | exact ixl (by simp only [Dat.len, List.length_set, flatN_len]; exact Nat.le_refl _) (by (try dsimp only); omega) (by (try dsimp only); omega) hN | ((try dsimp only); (try simp only [Dat.len, Int.toNat_natCast, List.length_set, flatN_len, bld_len]); omega)   -- 13 store
    refine n_of (N' := KK20) kk20 ?_
    refine n_of (N' := NN19) nn19 ?_
    refine c_region fun KK21 kk21 => ?_
    refine And.intro ?_ ?_
    · first | exact ixd (by simp only [Dat.len, List.length_set, flatN_len]; exact Nat.le_refl _) (by (try dsimp only); omega) (by (try dsimp only); omega) hN | ((try dsimp only); (try simp only [Dat.len, Int.toNat_natCast, List.length_set, flatN_len, bld_len]); omega)   -- 14 index
    refine And.intro ?_ ?_
    · first | exact ixl (by simp only [Dat.len, List.length_set, flatN_len]; exact Nat.le_refl _) (by (try dsimp only); omega) (by (try dsimp only); omega) hN | ((try dsimp only); (try simp only [Dat.len, Int.toNat_natCast, List.length_set, flatN_len, bld_len]); omega)   -- 15 store
    refine n_of (N' := KK21) kk21 ?_
    refine n_of (N' := R0) hR ?_
    have e : j = N := by omega
    subst e
    have e1 : flat (sw F k p j) j = flat (fun r c => F (swp k p r) c) j := flat_congr fun r c hr hc => by rw [sw_at, if_pos hc]
    have e2 : ((bld b j).set k ((bld b j).getD p 0)).set p ((bld b j).getD k 0) = bld (fun r => b (swp k p r)) j := by rw [bld_at 0 b hk, bld_at 0 b hp, vec_set, vec_set, upb_swp]
    exact ⟨[], rfl, by rw [← e1, ← e2]; rfl, rfl⟩

end
end Go.AX
