/- What the functions of this program do, one contract a function, by that walk: each under what its own statement says. -/
import Derived.Test.YtfhgggjpdimaoaaSqCB
set_option linter.unusedVariables false
set_option linter.unusedSimpArgs false
namespace Go.AX
noncomputable section
open Go.RowKit Go.Proofs
set_option maxRecDepth 100000
set_option maxHeartbeats 4000000
open Go

theorem s37 (x a b : Int) : SP 37 [] [i64 x, i64 a, i64 b] [] (exb (inB x a b)) := by
  refine spec_of_codeR (fn := Try.f37) tyOK mixes Try.func37 rfl rfl rfl rfl fun hg R0 hR => ?_
  refine c_seq fun NN1 nn1 => ?_
  refine c_region fun KK2 kk2 => ?_
  refine n_of (N' := KK2) kk2 ?_
  refine n_of (N' := NN1) nn1 ?_
  refine c_seq fun NN3 nn3 => ?_
  refine c_region fun KK4 kk4 => ?_
  refine And.intro (fun h0 => ?_) (fun h0 => ?_)
  · skip
    have q0 := of_decide_eq_true h0
    (try dsimp only at q0)
    (try simp only [Dat.len] at q0)
    refine n_of (N' := KK4) kk4 ?_
    refine n_of (N' := NN3) nn3 ?_
    refine c_ret ?_
    refine n_of (N' := R0) hR ?_
    exact ⟨[], rfl, rfl, congrArg exb (by simp only [inB, h0, Bool.false_and, Bool.true_and, Bool.not_true, Bool.and_true, Bool.and_false, Bool.not_false, Bool.or_false, Bool.or_true, Bool.false_or, Bool.true_or])⟩
  · skip
    have q0 := of_decide_eq_false h0
    (try dsimp only at q0)
    (try simp only [Dat.len] at q0)
    refine n_of (N' := KK4) kk4 ?_
    refine n_of (N' := NN3) nn3 ?_
    refine c_ret ?_
    refine n_of (N' := R0) hR ?_
    exact ⟨[], rfl, rfl, congrArg exb (by simp only [inB, h0, Bool.false_and, Bool.true_and, Bool.not_true, Bool.and_true, Bool.and_false, Bool.not_false, Bool.or_false, Bool.or_true, Bool.false_or, Bool.true_or])⟩

theorem s41 (x a b : Int) : SP 41 [] [i64 x, i64 a, i64 b] [] (exb (inB x a b)) := by
  refine spec_of_codeR (fn := Try.f41) tyOK mixes Try.func41 rfl rfl rfl rfl fun hg R0 hR => ?_
  refine c_seq fun NN1 nn1 => ?_
  refine c_region fun KK2 kk2 => ?_
  refine n_of (N' := KK2) kk2 ?_
  refine n_of (N' := NN1) nn1 ?_
  refine c_seq fun NN3 nn3 => ?_
  refine c_region fun KK4 kk4 => ?_
  refine And.intro (fun h0 => ?_) (fun h0 => ?_)
  · skip
    have q0 := of_decide_eq_true h0
    (try dsimp only at q0)
    (try simp only [Dat.len] at q0)
    refine n_of (N' := KK4) kk4 ?_
    refine n_of (N' := NN3) nn3 ?_
    refine c_ret ?_
    refine n_of (N' := R0) hR ?_
    exact ⟨[], rfl, rfl, congrArg exb (by simp only [inB, h0, Bool.false_and, Bool.true_and, Bool.not_true, Bool.and_true, Bool.and_false, Bool.not_false, Bool.or_false, Bool.or_true, Bool.false_or, Bool.true_or])⟩
  · skip
    have q0 := of_decide_eq_false h0
    (try dsimp only at q0)
    (try simp only [Dat.len] at q0)
    refine n_of (N' := KK4) kk4 ?_
    refine n_of (N' := NN3) nn3 ?_
    refine c_ret ?_
    refine n_of (N' := R0) hR ?_
    exact ⟨[], rfl, rfl, congrArg exb (by simp only [inB, h0, Bool.false_and, Bool.true_and, Bool.not_true, Bool.and_true, Bool.and_false, Bool.not_false, Bool.or_false, Bool.or_true, Bool.false_or, Bool.true_or])⟩

theorem s38 (x : Nat) : SP 38 [] [f32 x] [] (exb (finB x)) := by
  refine spec_of_codeR (fn := Try.f38) tyOK mixes Try.func38 rfl rfl rfl rfl fun hg R0 hR => ?_
  refine c_seq fun NN1 nn1 => ?_
  refine c_region fun KK2 kk2 => ?_
  refine n_of (N' := KK2) kk2 ?_
  refine n_of (N' := NN1) nn1 ?_
  refine c_seq fun NN3 nn3 => ?_
  refine c_region fun KK4 kk4 => ?_
  refine n_of (N' := KK4) kk4 ?_
  refine n_of (N' := NN3) nn3 ?_
  refine c_ret ?_
  refine n_of (N' := R0) hR ?_
  exact ⟨[], rfl, rfl, rfl⟩

theorem s64 (x : Nat) : SP 64 [] [f32 x] [] (exb (finB x)) := by
  refine spec_of_codeR (fn := Try.f64) tyOK mixes Try.func64 rfl rfl rfl rfl fun hg R0 hR => ?_
  refine c_seq fun NN1 nn1 => ?_
  refine c_region fun KK2 kk2 => ?_
  refine n_of (N' := KK2) kk2 ?_
  refine n_of (N' := NN1) nn1 ?_
  refine c_seq fun NN3 nn3 => ?_
  refine c_region fun KK4 kk4 => ?_
  refine n_of (N' := KK4) kk4 ?_
  refine n_of (N' := NN3) nn3 ?_
  refine c_ret ?_
  refine n_of (N' := R0) hR ?_
  exact ⟨[], rfl, rfl, rfl⟩

theorem s77 (x : Nat) : SP 77 [] [f32 x] [] (exb (!finB x)) := by
  refine spec_of_codeR (fn := Try.f77) tyOK mixes Try.func77 rfl rfl rfl rfl fun hg R0 hR => ?_
  refine c_seq fun NN1 nn1 => ?_
  refine c_region fun KK2 kk2 => ?_
  refine n_of (N' := KK2) kk2 ?_
  refine n_of (N' := NN1) nn1 ?_
  refine c_seq fun NN3 nn3 => ?_
  refine c_region fun KK4 kk4 => ?_
  refine ⟨rfl, _, _, (s38 _), ?_⟩
  refine n_of (N' := KK4) kk4 ?_
  refine n_of (N' := NN3) nn3 ?_
  refine c_ret ?_
  refine n_of (N' := R0) hR ?_
  exact ⟨[], rfl, rfl, rfl⟩

theorem s89 (o : Bool) (xs : List Nat) : SP 89 [ar o xs] [.one (.sl 0), .one (.fn 77 [] [])] [ar o xs] (exi .i64 (fi (fun x => (!finB x)) xs)) := by
  refine spec_of_codeR (fn := Try.f89) tyOK mixes Try.func89 rfl rfl rfl ⟨.inl rfl, rfl⟩ fun hg R0 hR => ?_
  have hlen : xs.length ≤ maxLen := hg.1.1.1
  have hml : maxLen = 9223372036854775807 := by decide
  refine c_seq fun NN1 nn1 => ?_
  refine c_region fun KK2 kk2 => ?_
  refine n_of (N' := KK2) kk2 ?_
  refine n_of (N' := NN1) nn1 ?_
  refine c_seq fun NN3 nn3 => ?_
  refine c_seq fun NN4 nn4 => ?_
  refine c_region fun KK5 kk5 => ?_
  refine n_of (N' := KK5) kk5 ?_
  refine n_of (N' := NN4) nn4 ?_
  refine c_block fun XX6 xx6 => ?_
  refine loop_keep [] [0, 1, 7] (ι := { i : Nat // i ≤ xs.length ∧ ∀ j, j < i → (!finB (xs.getD j 0)) = false }) (fun i => [(8, exi .i64 i.1)]) (fun i => []) (fun i => xs.length - i.1) ⟨0, Nat.zero_le _, fun j hj => absurd hj (Nat.not_lt_zero j)⟩ trivial rfl ?_
  refine ⟨?_, ?_, ?_⟩
  · exact ⟨.inr rfl, trivial⟩
  · exact ⟨rfl, trivial⟩
  refine fun ⟨i, hi, hx⟩ NL7 nl7 => ?_
  refine c_norm rfl rfl ?_
  refine c_seq fun NN8 nn8 => ?_
  refine c_region fun KK9 kk9 => ?_
  refine n_of (N' := KK9) kk9 ?_
  refine n_of (N' := NN8) nn8 ?_
  refine c_seq fun NN10 nn10 => ?_
  refine c_cond rfl (fun h0 => ?_) (fun h0 => ?_)
  · skip
    have q0 := of_decide_eq_true h0
    (try dsimp only at q0)
    (try simp only [Dat.len] at q0)
    refine c_skip ?_
    refine n_of (N' := NN10) nn10 ?_
    refine c_seq fun NN11 nn11 => ?_
    refine c_block fun XX12 xx12 => ?_
    refine c_seq fun NN13 nn13 => ?_
    refine c_region fun KK14 kk14 => ?_
    refine n_of (N' := KK14) kk14 ?_
    refine n_of (N' := NN13) nn13 ?_
    refine c_seq fun NN15 nn15 => ?_
    refine c_region fun KK16 kk16 => ?_
    refine And.intro ?_ ?_
    · ((try dsimp only); (try simp only [Dat.len, Int.toNat_natCast]); omega)   -- 0 index
    refine And.intro ?_ ?_
    · ((try dsimp only); (try simp only [Dat.len, Int.toNat_natCast]); omega)   -- 1 load
    refine ⟨rfl, _, _, s77 _, ?_⟩
    refine n_of (N' := KK16) kk16 ?_
    refine n_of (N' := NN15) nn15 ?_
    refine c_cond rfl (fun h1 => ?_) (fun h1 => ?_)
    · skip
      refine c_seq fun NN17 nn17 => ?_
      refine c_region fun KK18 kk18 => ?_
      refine n_of (N' := KK18) kk18 ?_
      refine n_of (N' := NN17) nn17 ?_
      refine c_ret ?_
      refine n_of (N' := R0) hR ?_
      exact ⟨[], rfl, rfl, congrArg (exi .i64) (fi_at 0 (i := i) (by omega) h1 hx).symm⟩
    · skip
      refine c_skip ?_
      refine n_of (N' := NN11) nn11 ?_
      refine c_region fun KK19 kk19 => ?_
      refine n_of (N' := KK19) kk19 ?_
      refine n_of (N' := NL7) nl7 ?_
      refine ⟨⟨i + 1, by omega, fun j hj => (Nat.lt_or_eq_of_le (Nat.le_of_lt_succ hj)).elim (hx j) (fun e => by subst e; exact h1)⟩, ?_, [0], rfl, ?_, ?_⟩
      · (dsimp only; omega)
      · exact LEq.eq ⟨rfl, trivial⟩
      · exact ⟨.inr (congrArg (exi .i64) (wr64 (n := (i : Int) + 1) (by omega) (by omega))), .inr rfl, .inr rfl, .inr rfl, trivial⟩
  · skip
    have q0 := of_decide_eq_false h0
    (try dsimp only at q0)
    (try simp only [Dat.len] at q0)
    refine c_exit ?_
    refine x_here xx6 ?_
    refine n_of (N' := NN3) nn3 ?_
    refine c_seq fun NN20 nn20 => ?_
    refine c_region fun KK21 kk21 => ?_
    refine n_of (N' := KK21) kk21 ?_
    refine n_of (N' := NN20) nn20 ?_
    refine c_ret ?_
    refine n_of (N' := R0) hR ?_
    exact ⟨[], rfl, rfl, congrArg (exi .i64) (fi_none 0 fun j hj => hx j (by omega)).symm⟩

theorem s70 (o : Bool) (xs : List Nat) : SP 70 [ar o xs] [.one (.sl 0), .one (.fn 77 [] [])] [ar o xs] (exb (xs.any fun x => (!finB x))) := by
  refine spec_of_codeR (fn := Try.f70) tyOK mixes Try.func70 rfl rfl rfl ⟨.inl rfl, rfl⟩ fun hg R0 hR => ?_
  refine c_seq fun NN1 nn1 => ?_
  refine c_region fun KK2 kk2 => ?_
  refine n_of (N' := KK2) kk2 ?_
  refine n_of (N' := NN1) nn1 ?_
  refine c_seq fun NN3 nn3 => ?_
  refine c_region fun KK4 kk4 => ?_
  refine ⟨rfl, _, _, (s89 _ _), ?_⟩
  refine n_of (N' := KK4) kk4 ?_
  refine n_of (N' := NN3) nn3 ?_
  refine c_ret ?_
  refine n_of (N' := R0) hR ?_
  exact ⟨[], rfl, rfl, congrArg exb fi_ge⟩

theorem s52 (o : Bool) (xs : List Nat) : SP 52 [ar o xs] [.one (.sl 0)] [ar o xs] (exb (xs.all finB)) := by
  refine spec_of_codeR (fn := Try.f52) tyOK mixes Try.func52 rfl rfl rfl ⟨.inl rfl, rfl⟩ fun hg R0 hR => ?_
  refine c_seq fun NN1 nn1 => ?_
  refine c_region fun KK2 kk2 => ?_
  refine n_of (N' := KK2) kk2 ?_
  refine n_of (N' := NN1) nn1 ?_
  refine c_seq fun NN3 nn3 => ?_
  refine c_region fun KK4 kk4 => ?_
  refine ⟨rfl, _, _, (s70 _ _), ?_⟩
  refine n_of (N' := KK4) kk4 ?_
  refine n_of (N' := NN3) nn3 ?_
  refine c_ret ?_
  refine n_of (N' := R0) hR ?_
  exact ⟨[], rfl, rfl, congrArg exb (any_all finB xs)⟩

theorem s36 (x y z : Nat) : SP 36 [] [.agg [.fl .f32 x, .fl .f32 y, .fl .f32 z]] [] (exb (finP (x, y, z))) := by
  refine spec_of_codeR (fn := Try.f36) tyOK mixes Try.func36 rfl rfl rfl rfl fun hg R0 hR => ?_
  refine c_seq fun NN1 nn1 => ?_
  refine c_region fun KK2 kk2 => ?_
  refine n_of (N' := KK2) kk2 ?_
  refine n_of (N' := NN1) nn1 ?_
  refine c_seq fun NN3 nn3 => ?_
  refine c_region fun KK4 kk4 => ?_
  refine ⟨rfl, _, _, (s52 _ _), ?_⟩
  refine n_of (N' := KK4) kk4 ?_
  refine n_of (N' := NN3) nn3 ?_
  refine c_ret ?_
  refine n_of (N' := R0) hR ?_
  exact ⟨[], rfl, rfl, congrArg exb (by simp only [List.all_cons, List.all_nil, finP, Bool.and_true])⟩

theorem s35 (x y z : Nat) : SP 35 [] [.agg [.fl .f32 x, .fl .f32 y, .fl .f32 z]] [] (exb (!finP (x, y, z))) := by
  refine spec_of_codeR (fn := Try.f35) tyOK mixes Try.func35 rfl rfl rfl rfl fun hg R0 hR => ?_
  refine c_seq fun NN1 nn1 => ?_
  refine c_region fun KK2 kk2 => ?_
  refine n_of (N' := KK2) kk2 ?_
  refine n_of (N' := NN1) nn1 ?_
  refine c_seq fun NN3 nn3 => ?_
  refine c_region fun KK4 kk4 => ?_
  refine ⟨rfl, _, _, (s36 _ _ _), ?_⟩
  refine n_of (N' := KK4) kk4 ?_
  refine n_of (N' := NN3) nn3 ?_
  refine c_ret ?_
  refine n_of (N' := R0) hR ?_
  exact ⟨[], rfl, rfl, rfl⟩

theorem s65 (x y z : Nat) : SP 65 [] [.agg [.fl .f32 x, .fl .f32 y, .fl .f32 z]] [] (exb (finP (x, y, z))) := by
  refine spec_of_codeR (fn := Try.f65) tyOK mixes Try.func65 rfl rfl rfl rfl fun hg R0 hR => ?_
  refine c_seq fun NN1 nn1 => ?_
  refine c_region fun KK2 kk2 => ?_
  refine n_of (N' := KK2) kk2 ?_
  refine n_of (N' := NN1) nn1 ?_
  refine c_seq fun NN3 nn3 => ?_
  refine c_region fun KK4 kk4 => ?_
  refine ⟨rfl, _, _, (s64 _), ?_⟩
  refine And.intro (fun h0 => ?_) (fun h0 => ?_)
  · skip
    refine ⟨rfl, _, _, (s64 _), ?_⟩
    refine And.intro (fun h1 => ?_) (fun h1 => ?_)
    · skip
      refine ⟨rfl, _, _, (s64 _), ?_⟩
      refine n_of (N' := KK4) kk4 ?_
      refine n_of (N' := NN3) nn3 ?_
      refine c_ret ?_
      refine n_of (N' := R0) hR ?_
      exact ⟨[], rfl, rfl, congrArg exb (by simp only [finP, h0, h1, Bool.false_and, Bool.true_and, Bool.not_true, Bool.and_true, Bool.and_false, Bool.not_false, Bool.or_false, Bool.or_true, Bool.false_or, Bool.true_or])⟩
    · skip
      refine n_of (N' := KK4) kk4 ?_
      refine n_of (N' := NN3) nn3 ?_
      refine c_ret ?_
      refine n_of (N' := R0) hR ?_
      exact ⟨[], rfl, rfl, congrArg exb (by simp only [finP, h0, h1, Bool.false_and, Bool.true_and, Bool.not_true, Bool.and_true, Bool.and_false, Bool.not_false, Bool.or_false, Bool.or_true, Bool.false_or, Bool.true_or])⟩
  · skip
    refine And.intro (fun h => nomatch h) (fun _ => ?_)
    refine n_of (N' := KK4) kk4 ?_
    refine n_of (N' := NN3) nn3 ?_
    refine c_ret ?_
    refine n_of (N' := R0) hR ?_
    exact ⟨[], rfl, rfl, congrArg exb (by simp only [finP, h0, Bool.false_and, Bool.true_and, Bool.not_true, Bool.and_true, Bool.and_false, Bool.not_false, Bool.or_false, Bool.or_true, Bool.false_or, Bool.true_or])⟩

theorem s67 (o : Bool) (xs : List (Nat × Nat × Nat)) : SP 67 [arP o xs] [.one (.sl 0), .one (.fn 35 [] [])] [arP o xs] (exi .i64 (fi (fun x => (!finP x)) xs)) := by
  refine spec_of_codeR (fn := Try.f67) tyOK mixes Try.func67 rfl rfl rfl ⟨.inl rfl, rfl⟩ fun hg R0 hR => ?_
  have hlen : xs.length ≤ maxLen := hg.1.1.1
  have hml : maxLen = 9223372036854775807 := by decide
  refine c_seq fun NN1 nn1 => ?_
  refine c_region fun KK2 kk2 => ?_
  refine n_of (N' := KK2) kk2 ?_
  refine n_of (N' := NN1) nn1 ?_
  refine c_seq fun NN3 nn3 => ?_
  refine c_seq fun NN4 nn4 => ?_
  refine c_region fun KK5 kk5 => ?_
  refine n_of (N' := KK5) kk5 ?_
  refine n_of (N' := NN4) nn4 ?_
  refine c_block fun XX6 xx6 => ?_
  refine loop_keep [] [0, 1, 7] (ι := { i : Nat // i ≤ xs.length ∧ ∀ j, j < i → (!finP (xs.getD j (0, 0, 0))) = false }) (fun i => [(8, exi .i64 i.1)]) (fun i => []) (fun i => xs.length - i.1) ⟨0, Nat.zero_le _, fun j hj => absurd hj (Nat.not_lt_zero j)⟩ trivial rfl ?_
  refine ⟨?_, ?_, ?_⟩
  · exact ⟨.inr rfl, trivial⟩
  · exact ⟨rfl, trivial⟩
  refine fun ⟨i, hi, hx⟩ NL7 nl7 => ?_
  refine c_norm rfl rfl ?_
  refine c_seq fun NN8 nn8 => ?_
  refine c_region fun KK9 kk9 => ?_
  refine n_of (N' := KK9) kk9 ?_
  refine n_of (N' := NN8) nn8 ?_
  refine c_seq fun NN10 nn10 => ?_
  refine c_cond rfl (fun h0 => ?_) (fun h0 => ?_)
  · skip
    have q0 := of_decide_eq_true h0
    (try dsimp only at q0)
    (try simp only [Dat.len] at q0)
    refine c_skip ?_
    refine n_of (N' := NN10) nn10 ?_
    refine c_seq fun NN11 nn11 => ?_
    refine c_block fun XX12 xx12 => ?_
    refine c_seq fun NN13 nn13 => ?_
    refine c_region fun KK14 kk14 => ?_
    refine n_of (N' := KK14) kk14 ?_
    refine n_of (N' := NN13) nn13 ?_
    refine c_seq fun NN15 nn15 => ?_
    refine c_region fun KK16 kk16 => ?_
    refine And.intro ?_ ?_
    · ((try dsimp only); (try simp only [Dat.len, Int.toNat_natCast]); omega)   -- 0 index
    refine And.intro ?_ ?_
    · ((try dsimp only); (try simp only [Dat.len, Int.toNat_natCast]); omega)   -- 1 load
    refine ⟨rfl, _, _, s35 _ _ _, ?_⟩
    refine n_of (N' := KK16) kk16 ?_
    refine n_of (N' := NN15) nn15 ?_
    refine c_cond rfl (fun h1 => ?_) (fun h1 => ?_)
    · skip
      refine c_seq fun NN17 nn17 => ?_
      refine c_region fun KK18 kk18 => ?_
      refine n_of (N' := KK18) kk18 ?_
      refine n_of (N' := NN17) nn17 ?_
      refine c_ret ?_
      refine n_of (N' := R0) hR ?_
      exact ⟨[], rfl, rfl, congrArg (exi .i64) (fi_at (0, 0, 0) (i := i) (by omega) h1 hx).symm⟩
    · skip
      refine c_skip ?_
      refine n_of (N' := NN11) nn11 ?_
      refine c_region fun KK19 kk19 => ?_
      refine n_of (N' := KK19) kk19 ?_
      refine n_of (N' := NL7) nl7 ?_
      refine ⟨⟨i + 1, by omega, fun j hj => (Nat.lt_or_eq_of_le (Nat.le_of_lt_succ hj)).elim (hx j) (fun e => by subst e; exact h1)⟩, ?_, [0], rfl, ?_, ?_⟩
      · (dsimp only; omega)
      · exact LEq.eq ⟨rfl, trivial⟩
      · exact ⟨.inr (congrArg (exi .i64) (wr64 (n := (i : Int) + 1) (by omega) (by omega))), .inr rfl, .inr rfl, .inr rfl, trivial⟩
  · skip
    have q0 := of_decide_eq_false h0
    (try dsimp only at q0)
    (try simp only [Dat.len] at q0)
    refine c_exit ?_
    refine x_here xx6 ?_
    refine n_of (N' := NN3) nn3 ?_
    refine c_seq fun NN20 nn20 => ?_
    refine c_region fun KK21 kk21 => ?_
    refine n_of (N' := KK21) kk21 ?_
    refine n_of (N' := NN20) nn20 ?_
    refine c_ret ?_
    refine n_of (N' := R0) hR ?_
    exact ⟨[], rfl, rfl, congrArg (exi .i64) (fi_none (0, 0, 0) fun j hj => hx j (by omega)).symm⟩

theorem s34 (o : Bool) (xs : List (Nat × Nat × Nat)) : SP 34 [arP o xs] [.one (.sl 0), .one (.fn 35 [] [])] [arP o xs] (exb (xs.any fun x => (!finP x))) := by
  refine spec_of_codeR (fn := Try.f34) tyOK mixes Try.func34 rfl rfl rfl ⟨.inl rfl, rfl⟩ fun hg R0 hR => ?_
  refine c_seq fun NN1 nn1 => ?_
  refine c_region fun KK2 kk2 => ?_
  refine n_of (N' := KK2) kk2 ?_
  refine n_of (N' := NN1) nn1 ?_
  refine c_seq fun NN3 nn3 => ?_
  refine c_region fun KK4 kk4 => ?_
  refine ⟨rfl, _, _, (s67 _ _), ?_⟩
  refine n_of (N' := KK4) kk4 ?_
  refine n_of (N' := NN3) nn3 ?_
  refine c_ret ?_
  refine n_of (N' := R0) hR ?_
  exact ⟨[], rfl, rfl, congrArg exb fi_ge⟩

def isThr (xs : List (Nat × Nat × Nat)) (s : Nat) : Bool := inB xs.length 3 32 && (xs.all finP && finB s)

theorem s11 (o : Bool) (xs : List (Nat × Nat × Nat)) (s : Nat) : SP 11 [arP o xs] [.agg [.sl 0, .fl .f32 s]] [arP o xs] (exb (isThr xs s)) := by
  refine spec_of_codeR (fn := Try.f11) tyOK mixes Try.func11 rfl rfl rfl ⟨.inl rfl, rfl⟩ fun hg R0 hR => ?_
  have ha := any_all finP xs
  refine c_seq fun NN1 nn1 => ?_
  refine c_region fun KK2 kk2 => ?_
  refine n_of (N' := KK2) kk2 ?_
  refine n_of (N' := NN1) nn1 ?_
  refine c_seq fun NN3 nn3 => ?_
  refine c_region fun KK4 kk4 => ?_
  refine ⟨rfl, _, _, (s34 _ _), ?_⟩
  refine n_of (N' := KK4) kk4 ?_
  refine n_of (N' := NN3) nn3 ?_
  refine c_seq fun NN5 nn5 => ?_
  refine c_region fun KK6 kk6 => ?_
  refine ⟨rfl, _, _, s37 _ _ _, ?_⟩
  refine And.intro (fun h0 => ?_) (fun h0 => ?_)
  · skip
    refine And.intro (fun h1 => ?_) (fun h1 => ?_)
    · skip
      refine ⟨rfl, _, _, (s38 _), ?_⟩
      refine n_of (N' := KK6) kk6 ?_
      refine n_of (N' := NN5) nn5 ?_
      refine c_ret ?_
      refine n_of (N' := R0) hR ?_
      (try simp only [Dat.len] at h0)
      exact ⟨[], rfl, rfl, congrArg exb (by
        unfold isThr
        rw [← ha]
        simp only [h0, h1, Bool.false_and, Bool.true_and, Bool.not_true, Bool.and_true, Bool.and_false, Bool.not_false, Bool.or_false, Bool.or_true, Bool.false_or, Bool.true_or])⟩
    · skip
      refine n_of (N' := KK6) kk6 ?_
      refine n_of (N' := NN5) nn5 ?_
      refine c_ret ?_
      refine n_of (N' := R0) hR ?_
      (try simp only [Dat.len] at h0)
      exact ⟨[], rfl, rfl, congrArg exb (by
        unfold isThr
        rw [← ha]
        simp only [h0, h1, Bool.false_and, Bool.true_and, Bool.not_true, Bool.and_true, Bool.and_false, Bool.not_false, Bool.or_false, Bool.or_true, Bool.false_or, Bool.true_or])⟩
  · skip
    refine And.intro (fun h => nomatch h) (fun _ => ?_)
    refine n_of (N' := KK6) kk6 ?_
    refine n_of (N' := NN5) nn5 ?_
    refine c_ret ?_
    refine n_of (N' := R0) hR ?_
    (try simp only [Dat.len] at h0)
    exact ⟨[], rfl, rfl, congrArg exb (by
      unfold isThr
      rw [← ha]
      simp only [h0, Bool.false_and, Bool.true_and, Bool.not_true, Bool.and_true, Bool.and_false, Bool.not_false, Bool.or_false, Bool.or_true, Bool.false_or, Bool.true_or])⟩

theorem s32 (o : Bool) (xs : List (Nat × Nat × Nat)) (s : Nat) : SP 32 [.var 30 [.sl 1, .fl .f32 s], arP o xs] [.one (.pv 0 0)] [.var 30 [.sl 1, .fl .f32 s], arP o xs] (exb (isThr xs s)) := by
  refine spec_of_codeR (fn := Try.f32) tyOK mixes Try.func32 rfl rfl rfl ⟨.inl rfl, ⟨.inl rfl, rfl⟩⟩ fun hg R0 hR => ?_
  have hlen : xs.length ≤ maxLen := hg.1.2.1.1
  have hml : maxLen = 9223372036854775807 := by decide
  refine c_seq fun NN1 nn1 => ?_
  refine c_region fun KK2 kk2 => ?_
  refine n_of (N' := KK2) kk2 ?_
  refine n_of (N' := NN1) nn1 ?_
  refine c_seq fun NN3 nn3 => ?_
  refine c_seq fun NN4 nn4 => ?_
  refine c_region fun KK5 kk5 => ?_
  refine And.intro (fun h0 => ?_) (fun h0 => ?_)
  · skip
    have q0 := of_decide_eq_true h0
    (try dsimp only at q0)
    (try simp only [Dat.len] at q0)
    refine And.intro (fun _ => ?_) (fun h => nomatch h)
    refine n_of (N' := KK5) kk5 ?_
    refine n_of (N' := NN4) nn4 ?_
    refine c_cond rfl (fun _ => ?_) (fun h => nomatch h)
    refine c_seq fun NN6 nn6 => ?_
    refine c_region fun KK7 kk7 => ?_
    refine n_of (N' := KK7) kk7 ?_
    refine n_of (N' := NN6) nn6 ?_
    refine c_ret ?_
    refine n_of (N' := R0) hR ?_
    refine ⟨[], rfl, rfl, congrArg exb ?_⟩
    unfold isThr inB
    have c := of_decide_eq_true h0
    (try simp only [Dat.len] at c)
    rw [decide_eq_false (show ¬ (xs.length : Int) ≥ 3 by omega)]; simp
  · skip
    have q0 := of_decide_eq_false h0
    (try dsimp only at q0)
    (try simp only [Dat.len] at q0)
    refine And.intro (fun h1 => ?_) (fun h1 => ?_)
    · skip
      refine n_of (N' := KK5) kk5 ?_
      refine n_of (N' := NN4) nn4 ?_
      refine c_cond rfl (fun _ => ?_) (fun h => nomatch h)
      refine c_seq fun NN8 nn8 => ?_
      refine c_region fun KK9 kk9 => ?_
      refine n_of (N' := KK9) kk9 ?_
      refine n_of (N' := NN8) nn8 ?_
      refine c_ret ?_
      refine n_of (N' := R0) hR ?_
      refine ⟨[], rfl, rfl, congrArg exb ?_⟩
      unfold isThr inB
      have c := of_decide_eq_true h1
      (try simp only [Dat.len] at c)
      rw [decide_eq_false (show ¬ (xs.length : Int) ≤ 32 by omega)]; simp
    · skip
      refine ⟨rfl, _, _, (s64 _), ?_⟩
      refine n_of (N' := KK5) kk5 ?_
      refine n_of (N' := NN4) nn4 ?_
      refine c_cond rfl (fun h2 => ?_) (fun h2 => ?_)
      · skip
        refine c_seq fun NN10 nn10 => ?_
        refine c_region fun KK11 kk11 => ?_
        refine n_of (N' := KK11) kk11 ?_
        refine n_of (N' := NN10) nn10 ?_
        refine c_ret ?_
        refine n_of (N' := R0) hR ?_
        refine ⟨[], rfl, rfl, congrArg exb ?_⟩
        unfold isThr inB
        rw [not_t h2]; simp
      · skip
        refine c_skip ?_
        refine n_of (N' := NN3) nn3 ?_
        refine c_seq fun NN12 nn12 => ?_
        refine c_seq fun NN13 nn13 => ?_
        refine c_region fun KK14 kk14 => ?_
        refine n_of (N' := KK14) kk14 ?_
        refine n_of (N' := NN13) nn13 ?_
        refine c_block fun XX15 xx15 => ?_
        refine loop_keep [] [0] (ι := { i : Nat // i ≤ xs.length ∧ ∀ j, j < i → finP (xs.getD j (0, 0, 0)) = true }) (fun i => [(3, exi .i64 i.1)]) (fun i => []) (fun i => xs.length - i.1) ⟨0, Nat.zero_le _, fun j hj => absurd hj (Nat.not_lt_zero j)⟩ trivial rfl ?_
        refine ⟨?_, ?_, ?_⟩
        · exact ⟨.inr rfl, trivial⟩
        · exact ⟨rfl, rfl, trivial⟩
        refine fun ⟨i, hi, hx⟩ NL16 nl16 => ?_
        refine c_norm rfl rfl ?_
        refine c_seq fun NN17 nn17 => ?_
        refine c_seq fun NN18 nn18 => ?_
        refine c_region fun KK19 kk19 => ?_
        refine n_of (N' := KK19) kk19 ?_
        refine n_of (N' := NN18) nn18 ?_
        refine c_cond rfl (fun h3 => ?_) (fun h3 => ?_)
        · skip
          have q3 := of_decide_eq_true h3
          (try dsimp only at q3)
          (try simp only [Dat.len] at q3)
          refine c_skip ?_
          refine n_of (N' := NN17) nn17 ?_
          refine c_seq fun NN20 nn20 => ?_
          refine c_block fun XX21 xx21 => ?_
          refine c_seq fun NN22 nn22 => ?_
          refine c_region fun KK23 kk23 => ?_
          refine And.intro ?_ ?_
          · ((try dsimp only); (try simp only [Dat.len, Int.toNat_natCast]); omega)   -- 0 index
          refine And.intro ?_ ?_
          · ((try dsimp only); (try simp only [Dat.len, Int.toNat_natCast]); omega)   -- 1 load
          refine ⟨rfl, _, _, s65 _ _ _, ?_⟩
          refine n_of (N' := KK23) kk23 ?_
          refine n_of (N' := NN22) nn22 ?_
          refine c_cond rfl (fun h4 => ?_) (fun h4 => ?_)
          · skip
            refine c_seq fun NN24 nn24 => ?_
            refine c_region fun KK25 kk25 => ?_
            refine n_of (N' := KK25) kk25 ?_
            refine n_of (N' := NN24) nn24 ?_
            refine c_ret ?_
            refine n_of (N' := R0) hR ?_
            refine ⟨[], rfl, rfl, congrArg exb ?_⟩
            unfold isThr
            rw [all_not (0, 0, 0) (i := i) (by omega) (not_t h4)]; simp
          · skip
            refine c_skip ?_
            refine n_of (N' := NN20) nn20 ?_
            refine c_region fun KK26 kk26 => ?_
            refine n_of (N' := KK26) kk26 ?_
            refine n_of (N' := NL16) nl16 ?_
            refine ⟨⟨i + 1, by omega, fun j hj => (Nat.lt_or_eq_of_le (Nat.le_of_lt_succ hj)).elim (hx j) (fun e => by subst e; exact (not_f h4))⟩, ?_, [0, 1], rfl, ?_, ?_⟩
            · (dsimp only; omega)
            · exact LEq.eq ⟨rfl, rfl, trivial⟩
            · exact ⟨.inr (congrArg (exi .i64) (wr64 (n := (i : Int) + 1) (by omega) (by omega))), .inr rfl, trivial⟩
        · skip
          have q3 := of_decide_eq_false h3
          (try dsimp only at q3)
          (try simp only [Dat.len] at q3)
          refine c_exit ?_
          refine x_here xx15 ?_
          refine n_of (N' := NN12) nn12 ?_
          refine c_seq fun NN27 nn27 => ?_
          refine c_region fun KK28 kk28 => ?_
          refine n_of (N' := KK28) kk28 ?_
          refine n_of (N' := NN27) nn27 ?_
          refine c_ret ?_
          refine n_of (N' := R0) hR ?_
          refine ⟨[], rfl, rfl, congrArg exb ?_⟩
          have c0 := of_decide_eq_false h0
          have c1 := of_decide_eq_false h1
          (try simp only [Dat.len] at c0 c1)
          unfold isThr inB
          rw [decide_eq_true (show (xs.length : Int) ≥ 3 by omega), decide_eq_true (show (xs.length : Int) ≤ 32 by omega), not_f h2, all_of (0, 0, 0) fun j hj => hx j (by omega)]; rfl

theorem s9 (o : Bool) (xs : List (Nat × Nat × Nat)) (s : Nat) : SP 9 [arP o xs] [.agg [.sl 0, .fl .f32 s]] [arP o xs] (exb (isThr xs s)) := by
  refine spec_of_codeR (fn := Try.f9) tyOK mixes Try.func9 rfl rfl rfl ⟨.inl rfl, rfl⟩ fun hg R0 hR => ?_
  refine c_seq fun NN1 nn1 => ?_
  refine c_region fun KK2 kk2 => ?_
  refine n_of (N' := KK2) kk2 ?_
  refine n_of (N' := NN1) nn1 ?_
  refine c_seq fun NN3 nn3 => ?_
  refine c_region fun KK4 kk4 => ?_
  refine ⟨rfl, _, _, (s32 _ _ _), ?_⟩
  refine n_of (N' := KK4) kk4 ?_
  refine n_of (N' := NN3) nn3 ?_
  refine c_ret ?_
  refine n_of (N' := R0) hR ?_
  exact ⟨[], rfl, rfl, rfl⟩

theorem s31 (o : Bool) (xs : List (Nat × Nat × Nat)) (n : Int) : SP 31 [arQ o xs] [.one (.sl 0), i64 n] [arQ o xs] (exi .i64 (sz n xs.length)) := by
  refine spec_of_codeR (fn := Try.f31) tyOK mixes Try.func31 rfl rfl rfl ⟨.inl rfl, rfl⟩ fun hg R0 hR => ?_
  refine c_seq fun NN1 nn1 => ?_
  refine c_region fun KK2 kk2 => ?_
  refine n_of (N' := KK2) kk2 ?_
  refine n_of (N' := NN1) nn1 ?_
  refine c_seq fun NN3 nn3 => ?_
  refine c_region fun KK4 kk4 => ?_
  refine n_of (N' := KK4) kk4 ?_
  refine n_of (N' := NN3) nn3 ?_
  refine c_seq fun NN5 nn5 => ?_
  refine c_seq fun NN6 nn6 => ?_
  refine c_region fun KK7 kk7 => ?_
  refine n_of (N' := KK7) kk7 ?_
  refine n_of (N' := NN6) nn6 ?_
  refine c_cond rfl (fun h0 => ?_) (fun h0 => ?_)
  · skip
    have q0 := of_decide_eq_true h0
    (try dsimp only at q0)
    (try simp only [Dat.len] at q0)
    refine c_seq fun NN8 nn8 => ?_
    refine c_region fun KK9 kk9 => ?_
    refine n_of (N' := KK9) kk9 ?_
    refine n_of (N' := NN8) nn8 ?_
    refine c_ret ?_
    refine n_of (N' := R0) hR ?_
    exact ⟨[], rfl, rfl, congrArg (exi .i64) (sz_neg h0)⟩
  · skip
    have q0 := of_decide_eq_false h0
    (try dsimp only at q0)
    (try simp only [Dat.len] at q0)
    refine c_skip ?_
    refine n_of (N' := NN5) nn5 ?_
    refine c_seq fun NN10 nn10 => ?_
    refine c_region fun KK11 kk11 => ?_
    refine n_of (N' := KK11) kk11 ?_
    refine n_of (N' := NN10) nn10 ?_
    refine c_ret ?_
    refine n_of (N' := R0) hR ?_
    exact ⟨[], rfl, rfl, congrArg (exi .i64) (sz_pos h0)⟩

theorem s8 (o : Bool) (xs : List (Nat × Nat × Nat)) (s : Nat) (n : Int) : SP 8 [arQ o xs] [.agg [.sl 0, .fl .f32 s], i64 n] [arQ o xs] (exi .i64 (sz n xs.length)) := by
  refine spec_of_codeR (fn := Try.f8) tyOK mixes Try.func8 rfl rfl rfl ⟨.inl rfl, rfl⟩ fun hg R0 hR => ?_
  refine c_seq fun NN1 nn1 => ?_
  refine c_region fun KK2 kk2 => ?_
  refine n_of (N' := KK2) kk2 ?_
  refine n_of (N' := NN1) nn1 ?_
  refine c_seq fun NN3 nn3 => ?_
  refine c_region fun KK4 kk4 => ?_
  refine ⟨rfl, _, _, (s31 _ _ _), ?_⟩
  refine n_of (N' := KK4) kk4 ?_
  refine n_of (N' := NN3) nn3 ?_
  refine c_seq fun NN5 nn5 => ?_
  refine c_seq fun NN6 nn6 => ?_
  refine c_region fun KK7 kk7 => ?_
  refine n_of (N' := KK7) kk7 ?_
  refine n_of (N' := NN6) nn6 ?_
  refine c_cond rfl (fun h0 => ?_) (fun h0 => ?_)
  · skip
    have q0 := of_decide_eq_true h0
    (try dsimp only at q0)
    (try simp only [Dat.len] at q0)
    refine c_seq fun NN8 nn8 => ?_
    refine c_region fun KK9 kk9 => ?_
    refine n_of (N' := KK9) kk9 ?_
    refine n_of (N' := NN8) nn8 ?_
    refine c_ret ?_
    refine n_of (N' := R0) hR ?_
    exact ⟨[], rfl, rfl, congrArg (exi .i64) (sz_neg' h0)⟩
  · skip
    have q0 := of_decide_eq_false h0
    (try dsimp only at q0)
    (try simp only [Dat.len] at q0)
    refine c_skip ?_
    refine n_of (N' := NN5) nn5 ?_
    refine c_seq fun NN10 nn10 => ?_
    refine c_region fun KK11 kk11 => ?_
    refine n_of (N' := KK11) kk11 ?_
    refine n_of (N' := NN10) nn10 ?_
    refine c_ret ?_
    refine n_of (N' := R0) hR ?_
    exact ⟨[], rfl, rfl, rfl⟩

theorem s66 (x y z : Nat) : SP 66 [] [.agg [.fl .f32 x, .fl .f32 y, .fl .f32 z]] [] (.v (.agg [.fl .f32 x, .fl .f32 y, .fl .f32 z])) := by
  refine spec_of_codeR (fn := Try.f66) tyOK mixes Try.func66 rfl rfl rfl rfl fun hg R0 hR => ?_
  refine c_seq fun NN1 nn1 => ?_
  refine c_region fun KK2 kk2 => ?_
  refine n_of (N' := KK2) kk2 ?_
  refine n_of (N' := NN1) nn1 ?_
  refine c_seq fun NN3 nn3 => ?_
  refine c_region fun KK4 kk4 => ?_
  refine n_of (N' := KK4) kk4 ?_
  refine n_of (N' := NN3) nn3 ?_
  refine c_seq fun NN5 nn5 => ?_
  refine c_region fun KK6 kk6 => ?_
  refine n_of (N' := KK6) kk6 ?_
  refine n_of (N' := NN5) nn5 ?_
  refine c_seq fun NN7 nn7 => ?_
  refine c_region fun KK8 kk8 => ?_
  refine n_of (N' := KK8) kk8 ?_
  refine n_of (N' := NN7) nn7 ?_
  refine c_seq fun NN9 nn9 => ?_
  refine c_region fun KK10 kk10 => ?_
  refine n_of (N' := KK10) kk10 ?_
  refine n_of (N' := NN9) nn9 ?_
  refine c_seq fun NN11 nn11 => ?_
  refine c_region fun KK12 kk12 => ?_
  refine n_of (N' := KK12) kk12 ?_
  refine n_of (N' := NN11) nn11 ?_
  refine c_ret ?_
  refine n_of (N' := R0) hR ?_
  exact ⟨[], rfl, rfl, rfl⟩

theorem s33 (o : Bool) (xs : List (Nat × Nat × Nat)) (hn : xs.length ≤ 1048576) : SP 33 [arQ o xs] [.one (.sl 0)] [arQ o xs, arP true xs] (one (.sl 1)) := by
  refine spec_of_codeR (fn := Try.f33) tyOK mixes Try.func33 rfl rfl rfl ⟨.inl rfl, rfl⟩ fun hg R0 hR => ?_
  refine c_seq fun NN1 nn1 => ?_
  refine c_region fun KK2 kk2 => ?_
  refine n_of (N' := KK2) kk2 ?_
  refine n_of (N' := NN1) nn1 ?_
  refine c_seq fun NN3 nn3 => ?_
  refine c_region fun KK4 kk4 => ?_
  refine And.intro ?_ ?_
  · (refine ⟨rfl, ?_, ?_, by decide⟩ <;> (try dsimp only) <;> (try simp only [Dat.len, Int.toNat_natCast, List.length_append, List.length_replicate, List.length_take]) <;> omega)   -- 0 make
  refine n_of (N' := KK4) kk4 ?_
  refine n_of (N' := NN3) nn3 ?_
  refine c_seq fun NN5 nn5 => ?_
  refine c_seq fun NN6 nn6 => ?_
  refine c_region fun KK7 kk7 => ?_
  refine n_of (N' := KK7) kk7 ?_
  refine n_of (N' := NN6) nn6 ?_
  refine c_block fun XX8 xx8 => ?_
  refine loop_keep [] [0, 3] (ι := { i : Nat // i ≤ xs.length }) (fun i => [(4, exi .i64 i.1)]) (fun i => [(1, arP true (xs.take i.1 ++ List.replicate (xs.length - i.1) (0, 0, 0)))]) (fun i => xs.length - i.1) ⟨0, Nat.zero_le _⟩ trivial rfl ?_
  refine ⟨?_, ?_, ?_⟩
  · exact ⟨.inr rfl, trivial⟩
  · exact ⟨rfl, congrArg (arP true) (by simp [Dat.len]), trivial⟩
  refine fun ⟨i, hi⟩ NL9 nl9 => ?_
  refine c_norm rfl rfl ?_
  refine c_seq fun NN10 nn10 => ?_
  refine c_seq fun NN11 nn11 => ?_
  refine c_region fun KK12 kk12 => ?_
  refine n_of (N' := KK12) kk12 ?_
  refine n_of (N' := NN11) nn11 ?_
  refine c_cond rfl (fun h0 => ?_) (fun h0 => ?_)
  · skip
    have q0 := of_decide_eq_true h0
    (try dsimp only at q0)
    (try simp only [Dat.len, List.length_append, List.length_replicate, List.length_take] at q0)
    refine c_skip ?_
    refine n_of (N' := NN10) nn10 ?_
    refine c_seq fun NN13 nn13 => ?_
    refine c_block fun XX14 xx14 => ?_
    refine c_region fun KK15 kk15 => ?_
    refine And.intro ?_ ?_
    · ((try dsimp only); (try simp only [Dat.len, Int.toNat_natCast, List.length_append, List.length_replicate, List.length_take]); omega)   -- 1 index
    refine And.intro ?_ ?_
    · ((try dsimp only); (try simp only [Dat.len, Int.toNat_natCast, List.length_append, List.length_replicate, List.length_take]); omega)   -- 2 load
    refine ⟨rfl, _, _, (s66 _ _ _), ?_⟩
    refine And.intro ?_ ?_
    · ((try dsimp only); (try simp only [Dat.len, Int.toNat_natCast, List.length_append, List.length_replicate, List.length_take]); omega)   -- 3 index
    refine And.intro ?_ ?_
    · ((try dsimp only); (try simp only [Dat.len, Int.toNat_natCast, List.length_append, List.length_replicate, List.length_take]); omega)   -- 4 store
    refine n_of (N' := KK15) kk15 ?_
    refine n_of (N' := NN13) nn13 ?_
    refine c_region fun KK16 kk16 => ?_
    refine n_of (N' := KK16) kk16 ?_
    refine n_of (N' := NL9) nl9 ?_
    refine ⟨⟨i + 1, by omega⟩, ?_, [0, 1], rfl, ?_, ?_⟩
    · (dsimp only; omega)
    · exact LEq.eq ⟨rfl, congrArg (arP true) (take_put (0, 0, 0) (0, 0, 0) xs (i := i) (by omega) rfl), trivial⟩
    · exact ⟨.inr (congrArg (exi .i64) (wr64 (n := (i : Int) + 1) (by omega) (by omega))), .inr rfl, .inr rfl, trivial⟩
  · skip
    have q0 := of_decide_eq_false h0
    (try dsimp only at q0)
    (try simp only [Dat.len, List.length_append, List.length_replicate, List.length_take] at q0)
    refine c_exit ?_
    refine x_here xx8 ?_
    refine n_of (N' := NN5) nn5 ?_
    refine c_seq fun NN17 nn17 => ?_
    refine c_region fun KK18 kk18 => ?_
    refine n_of (N' := KK18) kk18 ?_
    refine n_of (N' := NN17) nn17 ?_
    refine c_ret ?_
    refine n_of (N' := R0) hR ?_
    have e : i = xs.length := by omega
    subst e
    exact ⟨[], rfl, congrArg (fun ys => [arQ o xs, arP true ys]) (by simp), rfl⟩

theorem s10 (o : Bool) (xs : List (Nat × Nat × Nat)) (s : Nat) (hn : xs.length ≤ 1048576) : SP 10 [arQ o xs] [.agg [.sl 0, .fl .f32 s]] [arQ o xs, arP true xs] (.v (.agg [.sl 1, .fl .f32 s])) := by
  refine spec_of_codeR (fn := Try.f10) tyOK mixes Try.func10 rfl rfl rfl ⟨.inl rfl, rfl⟩ fun hg R0 hR => ?_
  refine c_seq fun NN1 nn1 => ?_
  refine c_region fun KK2 kk2 => ?_
  refine n_of (N' := KK2) kk2 ?_
  refine n_of (N' := NN1) nn1 ?_
  refine c_seq fun NN3 nn3 => ?_
  refine c_region fun KK4 kk4 => ?_
  refine n_of (N' := KK4) kk4 ?_
  refine n_of (N' := NN3) nn3 ?_
  refine c_seq fun NN5 nn5 => ?_
  refine c_region fun KK6 kk6 => ?_
  refine ⟨rfl, _, _, (s33 _ _ (by ((try dsimp only); first | assumption | omega | (simp (disch := omega) only [wr64]; omega)))), ?_⟩
  refine n_of (N' := KK6) kk6 ?_
  refine n_of (N' := NN5) nn5 ?_
  refine c_seq fun NN7 nn7 => ?_
  refine c_region fun KK8 kk8 => ?_
  refine n_of (N' := KK8) kk8 ?_
  refine n_of (N' := NN7) nn7 ?_
  refine c_seq fun NN9 nn9 => ?_
  refine c_region fun KK10 kk10 => ?_
  refine n_of (N' := KK10) kk10 ?_
  refine n_of (N' := NN9) nn9 ?_
  refine c_ret ?_
  refine n_of (N' := R0) hR ?_
  exact ⟨[], rfl, rfl, rfl⟩

theorem s40 (x : Nat) : SP 40 [] [.one (.fl .f64 x), .one (.fl .f64 x)] [] (exb true) := by
  refine spec_of_codeR (fn := Try.f40) tyOK mixes Try.func40 rfl rfl rfl rfl fun hg R0 hR => ?_
  refine c_seq fun NN1 nn1 => ?_
  refine c_region fun KK2 kk2 => ?_
  refine n_of (N' := KK2) kk2 ?_
  refine n_of (N' := NN1) nn1 ?_
  refine c_seq fun NN3 nn3 => ?_
  refine c_seq fun NN4 nn4 => ?_
  refine c_region fun KK5 kk5 => ?_
  refine And.intro (fun h0 => ?_) (fun h0 => ?_)
  · skip
    refine n_of (N' := KK5) kk5 ?_
    refine n_of (N' := NN4) nn4 ?_
    refine c_cond rfl (fun _ => ?_) (fun h => nomatch h)
    refine c_seq fun NN6 nn6 => ?_
    refine c_region fun KK7 kk7 => ?_
    refine And.intro (fun h1 => ?_) (fun h1 => ?_)
    · skip
      refine n_of (N' := KK7) kk7 ?_
      refine n_of (N' := NN6) nn6 ?_
      refine c_ret ?_
      refine n_of (N' := R0) hR ?_
      exact ⟨[], rfl, rfl, congrArg exb h1⟩
    · skip
      refine n_of (N' := KK7) kk7 ?_
      refine n_of (N' := NN6) nn6 ?_
      refine c_ret ?_
      refine n_of (N' := R0) hR ?_
      exact nomatch h0.symm.trans h1
  · skip
    refine n_of (N' := KK5) kk5 ?_
    refine n_of (N' := NN4) nn4 ?_
    refine c_cond rfl (fun h1 => ?_) (fun h1 => ?_)
    · skip
      refine c_seq fun NN8 nn8 => ?_
      refine c_region fun KK9 kk9 => ?_
      refine And.intro (fun h2 => ?_) (fun h2 => ?_)
      · skip
        refine n_of (N' := KK9) kk9 ?_
        refine n_of (N' := NN8) nn8 ?_
        refine c_ret ?_
        refine n_of (N' := R0) hR ?_
        exact nomatch h1.symm.trans h0
      · skip
        refine n_of (N' := KK9) kk9 ?_
        refine n_of (N' := NN8) nn8 ?_
        refine c_ret ?_
        refine n_of (N' := R0) hR ?_
        exact nomatch h1.symm.trans h0
    · skip
      refine c_skip ?_
      refine n_of (N' := NN3) nn3 ?_
      refine c_seq fun NN10 nn10 => ?_
      refine c_seq fun NN11 nn11 => ?_
      refine c_region fun KK12 kk12 => ?_
      refine And.intro (fun h2 => ?_) (fun h2 => ?_)
      · skip
        refine n_of (N' := KK12) kk12 ?_
        refine n_of (N' := NN11) nn11 ?_
        refine c_cond rfl (fun h3 => ?_) (fun h3 => ?_)
        · skip
          refine c_seq fun NN13 nn13 => ?_
          refine c_region fun KK14 kk14 => ?_
          refine n_of (N' := KK14) kk14 ?_
          refine n_of (N' := NN13) nn13 ?_
          refine c_ret ?_
          refine n_of (N' := R0) hR ?_
          exact ⟨[], rfl, rfl, congrArg exb (beq_self_eq_true _)⟩
        · skip
          refine c_skip ?_
          refine n_of (N' := NN10) nn10 ?_
          refine c_seq fun NN15 nn15 => ?_
          refine c_region fun KK16 kk16 => ?_
          refine n_of (N' := KK16) kk16 ?_
          refine n_of (N' := NN15) nn15 ?_
          refine c_ret ?_
          refine n_of (N' := R0) hR ?_
          exact nomatch h2.symm.trans h3
      · skip
        refine n_of (N' := KK12) kk12 ?_
        refine n_of (N' := NN11) nn11 ?_
        refine c_cond rfl (fun h => nomatch h) (fun _ => ?_)
        refine c_skip ?_
        refine n_of (N' := NN10) nn10 ?_
        refine c_seq fun NN17 nn17 => ?_
        refine c_region fun KK18 kk18 => ?_
        refine n_of (N' := KK18) kk18 ?_
        refine n_of (N' := NN17) nn17 ?_
        refine c_ret ?_
        refine n_of (N' := R0) hR ?_
        exact ⟨[], rfl, rfl, congrArg exb (not_f ((fcmp_neq _ _ _).symm.trans h0))⟩

theorem s68 (x y z : Nat) : SP 68 [] [.agg [.fl .f32 x, .fl .f32 y, .fl .f32 z], .agg [.fl .f32 x, .fl .f32 y, .fl .f32 z]] [] (exb true) := by
  refine spec_of_codeR (fn := Try.f68) tyOK mixes Try.func68 rfl rfl rfl rfl fun hg R0 hR => ?_
  refine c_seq fun NN1 nn1 => ?_
  refine c_region fun KK2 kk2 => ?_
  refine n_of (N' := KK2) kk2 ?_
  refine n_of (N' := NN1) nn1 ?_
  refine c_seq fun NN3 nn3 => ?_
  refine c_seq fun NN4 nn4 => ?_
  refine c_region fun KK5 kk5 => ?_
  refine ⟨rfl, _, _, (s40 _), ?_⟩
  refine n_of (N' := KK5) kk5 ?_
  refine n_of (N' := NN4) nn4 ?_
  refine c_cond rfl (fun h0 => ?_) (fun h0 => ?_)
  · skip
    cases h0
  · skip
    refine c_skip ?_
    refine n_of (N' := NN3) nn3 ?_
    refine c_seq fun NN6 nn6 => ?_
    refine c_seq fun NN7 nn7 => ?_
    refine c_region fun KK8 kk8 => ?_
    refine ⟨rfl, _, _, (s40 _), ?_⟩
    refine n_of (N' := KK8) kk8 ?_
    refine n_of (N' := NN7) nn7 ?_
    refine c_cond rfl (fun h1 => ?_) (fun h1 => ?_)
    · skip
      cases h1
    · skip
      refine c_skip ?_
      refine n_of (N' := NN6) nn6 ?_
      refine c_seq fun NN9 nn9 => ?_
      refine c_seq fun NN10 nn10 => ?_
      refine c_region fun KK11 kk11 => ?_
      refine ⟨rfl, _, _, (s40 _), ?_⟩
      refine n_of (N' := KK11) kk11 ?_
      refine n_of (N' := NN10) nn10 ?_
      refine c_cond rfl (fun h2 => ?_) (fun h2 => ?_)
      · skip
        cases h2
      · skip
        refine c_skip ?_
        refine n_of (N' := NN9) nn9 ?_
        refine c_seq fun NN12 nn12 => ?_
        refine c_region fun KK13 kk13 => ?_
        refine n_of (N' := KK13) kk13 ?_
        refine n_of (N' := NN12) nn12 ?_
        refine c_ret ?_
        refine n_of (N' := R0) hR ?_
        exact ⟨[], rfl, rfl, rfl⟩

theorem s39 (o o2 : Bool) (xs : List (Nat × Nat × Nat)) : SP 39 [arP o xs, arP o2 xs] [.one (.sl 0), .one (.sl 1)] [arP o xs, arP o2 xs] (exb true) := by
  refine spec_of_codeR (fn := Try.f39) tyOK mixes Try.func39 rfl rfl rfl ⟨.inl rfl, ⟨.inl rfl, rfl⟩⟩ fun hg R0 hR => ?_
  have hlen : xs.length ≤ maxLen := hg.1.1.1
  have hml : maxLen = 9223372036854775807 := by decide
  refine c_seq fun NN1 nn1 => ?_
  refine c_region fun KK2 kk2 => ?_
  refine n_of (N' := KK2) kk2 ?_
  refine n_of (N' := NN1) nn1 ?_
  refine c_seq fun NN3 nn3 => ?_
  refine c_seq fun NN4 nn4 => ?_
  refine c_region fun KK5 kk5 => ?_
  refine n_of (N' := KK5) kk5 ?_
  refine n_of (N' := NN4) nn4 ?_
  refine c_cond rfl (fun h0 => ?_) (fun h0 => ?_)
  · skip
    have q0 := ne_of_bneT h0
    (try dsimp only at q0)
    (try simp only [Dat.len] at q0)
    refine c_seq fun NN6 nn6 => ?_
    refine c_region fun KK7 kk7 => ?_
    refine n_of (N' := KK7) kk7 ?_
    refine n_of (N' := NN6) nn6 ?_
    refine c_ret ?_
    refine n_of (N' := R0) hR ?_
    simp [bne, Dat.len] at h0
  · skip
    have q0 := eq_of_bneF h0
    (try dsimp only at q0)
    (try simp only [Dat.len] at q0)
    refine c_skip ?_
    refine n_of (N' := NN3) nn3 ?_
    refine c_seq fun NN8 nn8 => ?_
    refine c_seq fun NN9 nn9 => ?_
    refine c_region fun KK10 kk10 => ?_
    refine n_of (N' := KK10) kk10 ?_
    refine n_of (N' := NN9) nn9 ?_
    refine c_block fun XX11 xx11 => ?_
    refine loop_keep [] [0, 1] (ι := { i : Nat // i ≤ xs.length }) (fun i => [(5, exi .i64 i.1)]) (fun i => []) (fun i => xs.length - i.1) ⟨0, Nat.zero_le _⟩ trivial rfl ?_
    refine ⟨?_, ?_, ?_⟩
    · exact ⟨.inr rfl, trivial⟩
    · exact ⟨rfl, rfl, trivial⟩
    refine fun ⟨i, hi⟩ NL12 nl12 => ?_
    refine c_norm rfl rfl ?_
    refine c_seq fun NN13 nn13 => ?_
    refine c_seq fun NN14 nn14 => ?_
    refine c_region fun KK15 kk15 => ?_
    refine n_of (N' := KK15) kk15 ?_
    refine n_of (N' := NN14) nn14 ?_
    refine c_cond rfl (fun h1 => ?_) (fun h1 => ?_)
    · skip
      have q1 := of_decide_eq_true h1
      (try dsimp only at q1)
      (try simp only [Dat.len] at q1)
      refine c_skip ?_
      refine n_of (N' := NN13) nn13 ?_
      refine c_seq fun NN16 nn16 => ?_
      refine c_block fun XX17 xx17 => ?_
      refine c_seq fun NN18 nn18 => ?_
      refine c_draw 8 [0, 1, 2, 3, 4, 5, 6, 7] (by kernel_rfl) fun KK19 kk19 => ?_
      refine And.intro ?_ ?_
      · ((try dsimp only); (try simp only [Dat.len, Int.toNat_natCast]); omega)   -- 0 index
      refine And.intro ?_ ?_
      · ((try dsimp only); (try simp only [Dat.len, Int.toNat_natCast]); omega)   -- 1 load
      refine And.intro ?_ ?_
      · ((try dsimp only); (try simp only [Dat.len, Int.toNat_natCast]); omega)   -- 2 index
      refine And.intro ?_ ?_
      · ((try dsimp only); (try simp only [Dat.len, Int.toNat_natCast]); omega)   -- 3 load
      refine ⟨rfl, _, _, s68 _ _ _, ?_⟩
      refine n_of (N' := KK19) kk19 ?_
      refine n_of (N' := NN18) nn18 ?_
      refine c_cond rfl (fun h2 => ?_) (fun h2 => ?_)
      · skip
        refine c_seq fun NN20 nn20 => ?_
        refine c_region fun KK21 kk21 => ?_
        refine n_of (N' := KK21) kk21 ?_
        refine n_of (N' := NN20) nn20 ?_
        refine c_ret ?_
        refine n_of (N' := R0) hR ?_
        exact nomatch h2
      · skip
        refine c_skip ?_
        refine n_of (N' := NN16) nn16 ?_
        refine c_region fun KK22 kk22 => ?_
        refine n_of (N' := KK22) kk22 ?_
        refine n_of (N' := NL12) nl12 ?_
        refine ⟨⟨i + 1, by omega⟩, ?_, [0, 1], rfl, ?_, ?_⟩
        · (dsimp only; omega)
        · exact LEq.eq ⟨rfl, rfl, trivial⟩
        · exact ⟨.inr (congrArg (exi .i64) (wr64 (n := (i : Int) + 1) (by omega) (by omega))), .inr rfl, .inr rfl, trivial⟩
    · skip
      have q1 := of_decide_eq_false h1
      (try dsimp only at q1)
      (try simp only [Dat.len] at q1)
      refine c_exit ?_
      refine x_here xx11 ?_
      refine n_of (N' := NN8) nn8 ?_
      refine c_seq fun NN23 nn23 => ?_
      refine c_region fun KK24 kk24 => ?_
      refine n_of (N' := KK24) kk24 ?_
      refine n_of (N' := NN23) nn23 ?_
      refine c_ret ?_
      refine n_of (N' := R0) hR ?_
      exact ⟨[], rfl, rfl, rfl⟩

theorem s39' (o : Bool) (xs : List (Nat × Nat × Nat)) : SP 39 [arP o xs] [.one (.sl 0), .one (.sl 0)] [arP o xs] (exb true) := by
  refine spec_of_codeR (fn := Try.f39) tyOK mixes Try.func39 rfl rfl rfl ⟨.inl rfl, rfl⟩ fun hg R0 hR => ?_
  have hlen : xs.length ≤ maxLen := hg.1.1.1
  have hml : maxLen = 9223372036854775807 := by decide
  refine c_seq fun NN1 nn1 => ?_
  refine c_region fun KK2 kk2 => ?_
  refine n_of (N' := KK2) kk2 ?_
  refine n_of (N' := NN1) nn1 ?_
  refine c_seq fun NN3 nn3 => ?_
  refine c_seq fun NN4 nn4 => ?_
  refine c_region fun KK5 kk5 => ?_
  refine n_of (N' := KK5) kk5 ?_
  refine n_of (N' := NN4) nn4 ?_
  refine c_cond rfl (fun h0 => ?_) (fun h0 => ?_)
  · skip
    have q0 := ne_of_bneT h0
    (try dsimp only at q0)
    (try simp only [Dat.len] at q0)
    refine c_seq fun NN6 nn6 => ?_
    refine c_region fun KK7 kk7 => ?_
    refine n_of (N' := KK7) kk7 ?_
    refine n_of (N' := NN6) nn6 ?_
    refine c_ret ?_
    refine n_of (N' := R0) hR ?_
    simp [bne, Dat.len] at h0
  · skip
    have q0 := eq_of_bneF h0
    (try dsimp only at q0)
    (try simp only [Dat.len] at q0)
    refine c_skip ?_
    refine n_of (N' := NN3) nn3 ?_
    refine c_seq fun NN8 nn8 => ?_
    refine c_seq fun NN9 nn9 => ?_
    refine c_region fun KK10 kk10 => ?_
    refine n_of (N' := KK10) kk10 ?_
    refine n_of (N' := NN9) nn9 ?_
    refine c_block fun XX11 xx11 => ?_
    refine loop_keep [] [0, 1] (ι := { i : Nat // i ≤ xs.length }) (fun i => [(5, exi .i64 i.1)]) (fun i => []) (fun i => xs.length - i.1) ⟨0, Nat.zero_le _⟩ trivial rfl ?_
    refine ⟨?_, ?_, ?_⟩
    · exact ⟨.inr rfl, trivial⟩
    · exact ⟨rfl, trivial⟩
    refine fun ⟨i, hi⟩ NL12 nl12 => ?_
    refine c_norm rfl rfl ?_
    refine c_seq fun NN13 nn13 => ?_
    refine c_seq fun NN14 nn14 => ?_
    refine c_region fun KK15 kk15 => ?_
    refine n_of (N' := KK15) kk15 ?_
    refine n_of (N' := NN14) nn14 ?_
    refine c_cond rfl (fun h1 => ?_) (fun h1 => ?_)
    · skip
      have q1 := of_decide_eq_true h1
      (try dsimp only at q1)
      (try simp only [Dat.len] at q1)
      refine c_skip ?_
      refine n_of (N' := NN13) nn13 ?_
      refine c_seq fun NN16 nn16 => ?_
      refine c_block fun XX17 xx17 => ?_
      refine c_seq fun NN18 nn18 => ?_
      refine c_draw 8 [0, 1, 2, 3, 4, 5, 6, 7] (by kernel_rfl) fun KK19 kk19 => ?_
      refine And.intro ?_ ?_
      · ((try dsimp only); (try simp only [Dat.len, Int.toNat_natCast]); omega)   -- 0 index
      refine And.intro ?_ ?_
      · ((try dsimp only); (try simp only [Dat.len, Int.toNat_natCast]); omega)   -- 1 load
      refine And.intro ?_ ?_
      · ((try dsimp only); (try simp only [Dat.len, Int.toNat_natCast]); omega)   -- 2 index
      refine And.intro ?_ ?_
      · ((try dsimp only); (try simp only [Dat.len, Int.toNat_natCast]); omega)   -- 3 load
      refine ⟨rfl, _, _, s68 _ _ _, ?_⟩
      refine n_of (N' := KK19) kk19 ?_
      refine n_of (N' := NN18) nn18 ?_
      refine c_cond rfl (fun h2 => ?_) (fun h2 => ?_)
      · skip
        refine c_seq fun NN20 nn20 => ?_
        refine c_region fun KK21 kk21 => ?_
        refine n_of (N' := KK21) kk21 ?_
        refine n_of (N' := NN20) nn20 ?_
        refine c_ret ?_
        refine n_of (N' := R0) hR ?_
        exact nomatch h2
      · skip
        refine c_skip ?_
        refine n_of (N' := NN16) nn16 ?_
        refine c_region fun KK22 kk22 => ?_
        refine n_of (N' := KK22) kk22 ?_
        refine n_of (N' := NL12) nl12 ?_
        refine ⟨⟨i + 1, by omega⟩, ?_, [0], rfl, ?_, ?_⟩
        · (dsimp only; omega)
        · exact LEq.eq ⟨rfl, trivial⟩
        · exact ⟨.inr (congrArg (exi .i64) (wr64 (n := (i : Int) + 1) (by omega) (by omega))), .inr rfl, .inr rfl, trivial⟩
    · skip
      have q1 := of_decide_eq_false h1
      (try dsimp only at q1)
      (try simp only [Dat.len] at q1)
      refine c_exit ?_
      refine x_here xx11 ?_
      refine n_of (N' := NN8) nn8 ?_
      refine c_seq fun NN23 nn23 => ?_
      refine c_region fun KK24 kk24 => ?_
      refine n_of (N' := KK24) kk24 ?_
      refine n_of (N' := NN23) nn23 ?_
      refine c_ret ?_
      refine n_of (N' := R0) hR ?_
      exact ⟨[], rfl, rfl, rfl⟩


theorem s12 (o o2 : Bool) (xs : List (Nat × Nat × Nat)) (s : Nat) : SP 12 [arP o xs, arP o2 xs] [.agg [.sl 0, .fl .f32 s], .agg [.sl 1, .fl .f32 s]] [arP o xs, arP o2 xs] (exb true) := by
  refine spec_of_codeR (fn := Try.f12) tyOK mixes Try.func12 rfl rfl rfl ⟨.inl rfl, ⟨.inl rfl, rfl⟩⟩ fun hg R0 hR => ?_
  refine c_seq fun NN1 nn1 => ?_
  refine c_region fun KK2 kk2 => ?_
  refine n_of (N' := KK2) kk2 ?_
  refine n_of (N' := NN1) nn1 ?_
  refine c_seq fun NN3 nn3 => ?_
  refine c_seq fun NN4 nn4 => ?_
  refine c_region fun KK5 kk5 => ?_
  refine ⟨rfl, _, _, s39 _ _ _, ?_⟩
  refine n_of (N' := KK5) kk5 ?_
  refine n_of (N' := NN4) nn4 ?_
  refine c_cond rfl (fun h0 => ?_) (fun h0 => ?_)
  · skip
    cases h0
  · skip
    refine c_skip ?_
    refine n_of (N' := NN3) nn3 ?_
    refine c_seq fun NN6 nn6 => ?_
    refine c_seq fun NN7 nn7 => ?_
    refine c_region fun KK8 kk8 => ?_
    refine ⟨rfl, _, _, (s40 _), ?_⟩
    refine n_of (N' := KK8) kk8 ?_
    refine n_of (N' := NN7) nn7 ?_
    refine c_cond rfl (fun h1 => ?_) (fun h1 => ?_)
    · skip
      cases h1
    · skip
      refine c_skip ?_
      refine n_of (N' := NN6) nn6 ?_
      refine c_seq fun NN9 nn9 => ?_
      refine c_region fun KK10 kk10 => ?_
      refine n_of (N' := KK10) kk10 ?_
      refine n_of (N' := NN9) nn9 ?_
      refine c_ret ?_
      refine n_of (N' := R0) hR ?_
      exact ⟨[], rfl, rfl, rfl⟩

theorem s3 (o : Bool) (xs : List (Nat × Nat × Nat)) (s : Nat) : SP 3 [arQ o xs] [.agg [.sl 0, .fl .f32 s]] [arQ o xs] (exb true) := by
  refine spec_of_codeR (fn := Try.f3) tyOK mixes Try.func3 rfl rfl rfl ⟨.inl rfl, rfl⟩ fun hg R0 hR => ?_
  refine c_seq fun NN1 nn1 => ?_
  refine c_region fun KK2 kk2 => ?_
  refine n_of (N' := KK2) kk2 ?_
  refine n_of (N' := NN1) nn1 ?_
  refine c_seq fun NN3 nn3 => ?_
  refine c_region fun KK4 kk4 => ?_
  refine n_of (N' := KK4) kk4 ?_
  refine n_of (N' := NN3) nn3 ?_
  refine c_seq fun NN5 nn5 => ?_
  refine c_region fun KK6 kk6 => ?_
  refine ⟨rfl, _, _, (s8 _ _ _ _), ?_⟩
  refine n_of (N' := KK6) kk6 ?_
  refine n_of (N' := NN5) nn5 ?_
  refine c_seq fun NN7 nn7 => ?_
  refine c_seq fun NN8 nn8 => ?_
  refine c_region fun KK9 kk9 => ?_
  refine n_of (N' := KK9) kk9 ?_
  refine n_of (N' := NN8) nn8 ?_
  refine c_cond rfl (fun h0 => ?_) (fun h0 => ?_)
  · skip
    have q0 := of_decide_eq_true h0
    (try dsimp only at q0)
    (try simp only [Dat.len] at q0)
    refine c_seq fun NN10 nn10 => ?_
    refine c_region fun KK11 kk11 => ?_
    refine n_of (N' := KK11) kk11 ?_
    refine n_of (N' := NN10) nn10 ?_
    refine c_ret ?_
    refine n_of (N' := R0) hR ?_
    exact ⟨[], rfl, rfl, rfl⟩
  · skip
    have q0 := of_decide_eq_false h0
    (try dsimp only at q0)
    (try simp only [Dat.len] at q0)
    have hn : xs.length ≤ 1048576 := sz_le h0 hg.1.1.1
    refine c_skip ?_
    refine n_of (N' := NN7) nn7 ?_
    refine c_seq fun NN12 nn12 => ?_
    refine c_region fun KK13 kk13 => ?_
    refine ⟨rfl, _, _, s10 _ _ _ hn, ?_⟩
    refine ⟨rfl, _, _, (s9 _ _ _), ?_⟩
    refine n_of (N' := KK13) kk13 ?_
    refine n_of (N' := NN12) nn12 ?_
    refine c_seq fun NN14 nn14 => ?_
    refine c_region fun KK15 kk15 => ?_
    refine ⟨rfl, _, _, s10 _ _ _ hn, ?_⟩
    refine n_of (N' := KK15) kk15 ?_
    refine n_of (N' := NN14) nn14 ?_
    refine c_seq fun NN16 nn16 => ?_
    refine c_region fun KK17 kk17 => ?_
    refine ⟨rfl, _, _, (s11 _ _ _), ?_⟩
    refine n_of (N' := KK17) kk17 ?_
    refine n_of (N' := NN16) nn16 ?_
    refine c_seq fun NN18 nn18 => ?_
    refine c_seq fun NN19 nn19 => ?_
    refine c_region fun KK20 kk20 => ?_
    refine n_of (N' := KK20) kk20 ?_
    refine n_of (N' := NN19) nn19 ?_
    refine c_cond rfl (fun h1 => ?_) (fun h1 => ?_)
    · skip
      (first | (cases h1; done) | exact bnn h1 | (have q := of_decide_eq_true h1; exfalso; omega) | exact absurd rfl (ne_of_bneT h1))
    · skip
      refine c_skip ?_
      refine n_of (N' := NN18) nn18 ?_
      refine c_seq fun NN21 nn21 => ?_
      refine c_seq fun NN22 nn22 => ?_
      refine c_draw 3 [0, 1, 2] (by kernel_rfl) fun KK23 kk23 => ?_
      refine ⟨rfl, _, _, s10 _ _ _ hn, rfl, ?_⟩
      refine ⟨rfl, _, _, s12 _ _ _ _, ?_⟩
      refine n_of (N' := KK23) kk23 ?_
      refine n_of (N' := NN22) nn22 ?_
      refine c_cond rfl (fun h2 => ?_) (fun h2 => ?_)
      · skip
        (first | (cases h2; done) | exact bnn h2 | (have q := of_decide_eq_true h2; exfalso; omega) | exact absurd rfl (ne_of_bneT h2))
      · skip
        refine c_skip ?_
        refine n_of (N' := NN21) nn21 ?_
        refine c_seq fun NN24 nn24 => ?_
        refine c_region fun KK25 kk25 => ?_
        refine n_of (N' := KK25) kk25 ?_
        refine n_of (N' := NN24) nn24 ?_
        refine c_ret ?_
        refine n_of (N' := R0) hR ?_
        exact ⟨[], rfl, rfl, rfl⟩

end
end Go.AX
