/- What the functions of this program do, one contract a function, by that walk: each under what its own statement says. -/
import Derived.Test.YtfhgggjpdimaoaaSqC1
import Derived.Test.YtfhgggjpdimaoaaSqAxW
set_option linter.unusedVariables false
set_option linter.unusedSimpArgs false
namespace Go.AX
noncomputable section
open Go.RowKit Go.Proofs
set_option maxRecDepth 100000
set_option maxHeartbeats 4000000
open Go

/-! Sheets -/
abbrev sh (k l : Nat) (c : Bool) : A1 := .agg [.sl k, .sl l, .ex (.bool c)]
abbrev shV (k l : Nat) (c : Bool) : Ent := .var 37 [.sl k, .sl l, .ex (.bool c)]
def isSh (ps : List (Nat × Nat)) (ss : List Nat) : Bool := inB ps.length 2 48 && (((ss.length : Int) == (ps.length : Int)) && (ps.all finC && ss.all finB))
abbrev toldS (b c : Bool) (k l : Nat) : AV := .tup [.agg [.sl k, .sl l, .ex (.bool (b && c))], .one (.ex (.bool b))]
def above (x : Nat) : Bool := finB x && fcmp .gtr .f32 x (cn .f32 0)
theorem gtr_leq {x : Nat} (h : finB x = true) : fcmp .gtr .f32 x (cn .f32 0) = !fcmp .leq .f32 x (cn .f32 0) := by
  rw [finB_num] at h
  unfold isNum at h
  have r0 : FloatKind.f32.format.read (cn .f32 0) = .number false 0 (-149) := by decide
  rw [fcmp_def, fcmp_def]; unfold fcmp0 Ieee.Format.order
  rw [r0]
  cases hx : FloatKind.f32.format.read x with
  | nan s f => rw [hx] at h; cases h
  | infinity s => rw [hx] at h; cases h
  | number s m e =>
    obtain ⟨o, ho⟩ : ∃ o, Ieee.Datum.order (.number s m e) (.number false 0 (-149)) = some o := ⟨_, rfl⟩
    simp only [ho]
    cases o <;> rfl
theorem isSh_len {ps : List (Nat × Nat)} {ss : List Nat} (h : isSh ps ss = true) : ps.length ≤ 48 ∧ ss.length ≤ 48 := by
  unfold isSh at h
  simp only [Bool.and_eq_true, beq_iff_eq] at h
  have := inB_le h.1
  omega

theorem s103 (x y : Nat) : SP 103 [] [c64 x y] [] (exb (finC (x, y))) := by
  refine spec_of_codeR (fn := Try.f103) tyOK mixes Try.func103 rfl rfl rfl rfl fun hg R0 hR => ?_
  refine c_seq fun NN1 nn1 => ?_
  refine c_region fun KK2 kk2 => ?_
  refine n_of (N' := KK2) kk2 ?_
  refine n_of (N' := NN1) nn1 ?_
  refine c_seq fun NN3 nn3 => ?_
  refine c_region fun KK4 kk4 => ?_
  refine ⟨rfl, _, _, s52 _ _, ?_⟩
  refine n_of (N' := KK4) kk4 ?_
  refine n_of (N' := NN3) nn3 ?_
  refine c_ret ?_
  refine n_of (N' := R0) hR ?_
  exact ⟨[], rfl, rfl, congrArg exb (by simp only [List.all_cons, List.all_nil, finC, Bool.and_true])⟩

theorem s105 (x y : Nat) : SP 105 [] [c64 x y] [] (exb (!finC (x, y))) := by
  refine spec_of_codeR (fn := Try.f105) tyOK mixes Try.func105 rfl rfl rfl rfl fun hg R0 hR => ?_
  refine c_seq fun NN1 nn1 => ?_
  refine c_region fun KK2 kk2 => ?_
  refine n_of (N' := KK2) kk2 ?_
  refine n_of (N' := NN1) nn1 ?_
  refine c_seq fun NN3 nn3 => ?_
  refine c_region fun KK4 kk4 => ?_
  refine ⟨rfl, _, _, (s103 _ _), ?_⟩
  refine n_of (N' := KK4) kk4 ?_
  refine n_of (N' := NN3) nn3 ?_
  refine c_ret ?_
  refine n_of (N' := R0) hR ?_
  exact ⟨[], rfl, rfl, rfl⟩

theorem s108 (o : Bool) (xs : List (Nat × Nat)) : SP 108 [arC o xs] [.one (.sl 0), .one (.fn 105 [] [])] [arC o xs] (exi .i64 (fi (fun x => (!finC x)) xs)) := by
  refine spec_of_codeR (fn := Try.f108) tyOK mixes Try.func108 rfl rfl rfl ⟨.inl rfl, rfl⟩ fun hg R0 hR => ?_
  have hlen : xs.length ≤ maxLen := hg.1.1.1
  have hml : maxLen = 9223372036854775807 := by decide
  refine c_seq fun NN1 nn1 => ?_
  refine c_region fun KK2 kk2 => ?_
  refine n_of (N' := KK2) kk2 ?_
  refine n_of (N' := NN1) nn1 ?_
  refine c_seq fun NN3 nn3 => ?_
  refine c_seq fun NN4 nn4 => ?_
  refine c_region fun KK5 kk5 => ?_
  refine n_of (N' := KK5) kk5 ?_
  refine n_of (N' := NN4) nn4 ?_
  refine c_block fun XX6 xx6 => ?_
  refine loop_keep [] [0, 1, 7] (ι := { i : Nat // i ≤ xs.length ∧ ∀ j, j < i → (!finC (xs.getD j (0, 0))) = false }) (fun i => [(8, exi .i64 i.1)]) (fun i => []) (fun i => xs.length - i.1) ⟨0, Nat.zero_le _, fun j hj => absurd hj (Nat.not_lt_zero j)⟩ trivial rfl ?_
  refine ⟨?_, ?_, ?_⟩
  · exact ⟨.inr rfl, trivial⟩
  · exact ⟨rfl, trivial⟩
  refine fun ⟨i, hi, hx⟩ NL7 nl7 => ?_
  refine c_norm rfl rfl ?_
  refine c_seq fun NN8 nn8 => ?_
  refine c_region fun KK9 kk9 => ?_
  refine n_of (N' := KK9) kk9 ?_
  refine n_of (N' := NN8) nn8 ?_
  refine c_seq fun NN10 nn10 => ?_
  refine c_cond rfl (fun h0 => ?_) (fun h0 => ?_)
  · skip
    have q0 := of_decide_eq_true h0
    (try dsimp only at q0)
    (try simp only [Dat.len] at q0)
    refine c_skip ?_
    refine n_of (N' := NN10) nn10 ?_
    refine c_seq fun NN11 nn11 => ?_
    refine c_block fun XX12 xx12 => ?_
    refine c_seq fun NN13 nn13 => ?_
    refine c_region fun KK14 kk14 => ?_
    refine n_of (N' := KK14) kk14 ?_
    refine n_of (N' := NN13) nn13 ?_
    refine c_seq fun NN15 nn15 => ?_
    refine c_region fun KK16 kk16 => ?_
    refine And.intro ?_ ?_
    · ((try dsimp only); (try simp only [Dat.len, Int.toNat_natCast]); omega)   -- 0 index
    refine And.intro ?_ ?_
    · ((try dsimp only); (try simp only [Dat.len, Int.toNat_natCast]); omega)   -- 1 load
    refine ⟨rfl, _, _, s105 _ _, ?_⟩
    refine n_of (N' := KK16) kk16 ?_
    refine n_of (N' := NN15) nn15 ?_
    refine c_cond rfl (fun h1 => ?_) (fun h1 => ?_)
    · skip
      refine c_seq fun NN17 nn17 => ?_
      refine c_region fun KK18 kk18 => ?_
      refine n_of (N' := KK18) kk18 ?_
      refine n_of (N' := NN17) nn17 ?_
      refine c_ret ?_
      refine n_of (N' := R0) hR ?_
      exact ⟨[], rfl, rfl, congrArg (exi .i64) (fi_at (0, 0) (i := i) (by omega) h1 hx).symm⟩
    · skip
      refine c_skip ?_
      refine n_of (N' := NN11) nn11 ?_
      refine c_region fun KK19 kk19 => ?_
      refine n_of (N' := KK19) kk19 ?_
      refine n_of (N' := NL7) nl7 ?_
      refine ⟨⟨i + 1, by omega, fun j hj => (Nat.lt_or_eq_of_le (Nat.le_of_lt_succ hj)).elim (hx j) (fun e => by subst e; exact h1)⟩, ?_, [0], rfl, ?_, ?_⟩
      · (dsimp only; omega)
      · exact LEq.eq ⟨rfl, trivial⟩
      · exact ⟨.inr (congrArg (exi .i64) (wr64 (n := (i : Int) + 1) (by omega) (by omega))), .inr rfl, .inr rfl, .inr rfl, trivial⟩
  · skip
    have q0 := of_decide_eq_false h0
    (try dsimp only at q0)
    (try simp only [Dat.len] at q0)
    refine c_exit ?_
    refine x_here xx6 ?_
    refine n_of (N' := NN3) nn3 ?_
    refine c_seq fun NN20 nn20 => ?_
    refine c_region fun KK21 kk21 => ?_
    refine n_of (N' := KK21) kk21 ?_
    refine n_of (N' := NN20) nn20 ?_
    refine c_ret ?_
    refine n_of (N' := R0) hR ?_
    exact ⟨[], rfl, rfl, congrArg (exi .i64) (fi_none (0, 0) fun j hj => hx j (by omega)).symm⟩

theorem s104 (o : Bool) (xs : List (Nat × Nat)) : SP 104 [arC o xs] [.one (.sl 0), .one (.fn 105 [] [])] [arC o xs] (exb (xs.any fun x => (!finC x))) := by
  refine spec_of_codeR (fn := Try.f104) tyOK mixes Try.func104 rfl rfl rfl ⟨.inl rfl, rfl⟩ fun hg R0 hR => ?_
  refine c_seq fun NN1 nn1 => ?_
  refine c_region fun KK2 kk2 => ?_
  refine n_of (N' := KK2) kk2 ?_
  refine n_of (N' := NN1) nn1 ?_
  refine c_seq fun NN3 nn3 => ?_
  refine c_region fun KK4 kk4 => ?_
  refine ⟨rfl, _, _, (s108 _ _), ?_⟩
  refine n_of (N' := KK4) kk4 ?_
  refine n_of (N' := NN3) nn3 ?_
  refine c_ret ?_
  refine n_of (N' := R0) hR ?_
  exact ⟨[], rfl, rfl, congrArg exb fi_ge⟩

theorem s98 (o : Bool) (xs : List (Nat × Nat)) : SP 98 [arC o xs] [.one (.sl 0)] [arC o xs] (exb (xs.all finC)) := by
  refine spec_of_codeR (fn := Try.f98) tyOK mixes Try.func98 rfl rfl rfl ⟨.inl rfl, rfl⟩ fun hg R0 hR => ?_
  refine c_seq fun NN1 nn1 => ?_
  refine c_region fun KK2 kk2 => ?_
  refine n_of (N' := KK2) kk2 ?_
  refine n_of (N' := NN1) nn1 ?_
  refine c_seq fun NN3 nn3 => ?_
  refine c_region fun KK4 kk4 => ?_
  refine ⟨rfl, _, _, (s104 _ _), ?_⟩
  refine n_of (N' := KK4) kk4 ?_
  refine n_of (N' := NN3) nn3 ?_
  refine c_ret ?_
  refine n_of (N' := R0) hR ?_
  exact ⟨[], rfl, rfl, congrArg exb (any_all finC xs)⟩

theorem s88 (x y : Nat) : SP 88 [] [c64 x y] [] (exb (finC (x, y))) := by
  refine spec_of_codeR (fn := Try.f88) tyOK mixes Try.func88 rfl rfl rfl rfl fun hg R0 hR => ?_
  refine c_seq fun NN1 nn1 => ?_
  refine c_region fun KK2 kk2 => ?_
  refine n_of (N' := KK2) kk2 ?_
  refine n_of (N' := NN1) nn1 ?_
  refine c_seq fun NN3 nn3 => ?_
  refine c_region fun KK4 kk4 => ?_
  refine ⟨rfl, _, _, (s64 _), ?_⟩
  refine And.intro (fun h0 => ?_) (fun h0 => ?_)
  · skip
    refine ⟨rfl, _, _, (s64 _), ?_⟩
    refine n_of (N' := KK4) kk4 ?_
    refine n_of (N' := NN3) nn3 ?_
    refine c_ret ?_
    refine n_of (N' := R0) hR ?_
    exact ⟨[], rfl, rfl, congrArg exb (by simp only [finC, h0, Bool.false_and, Bool.true_and, Bool.not_true, Bool.and_true, Bool.and_false, Bool.not_false, Bool.or_false, Bool.or_true, Bool.false_or, Bool.true_or])⟩
  · skip
    refine n_of (N' := KK4) kk4 ?_
    refine n_of (N' := NN3) nn3 ?_
    refine c_ret ?_
    refine n_of (N' := R0) hR ?_
    exact ⟨[], rfl, rfl, congrArg exb (by simp only [finC, h0, Bool.false_and, Bool.true_and, Bool.not_true, Bool.and_true, Bool.and_false, Bool.not_false, Bool.or_false, Bool.or_true, Bool.false_or, Bool.true_or])⟩

theorem s90 (o o2 : Bool) (ps : List (Nat × Nat)) (ss : List Nat) (c : Bool) : SP 90 [arC o ps, ar o2 ss] [sh 0 1 c] [arC o ps, ar o2 ss] (exb (isSh ps ss)) := by
  refine spec_of_codeR (fn := Try.f90) tyOK mixes Try.func90 rfl rfl rfl ⟨.inl rfl, ⟨.inl rfl, rfl⟩⟩ fun hg R0 hR => ?_
  refine c_seq fun NN1 nn1 => ?_
  refine c_region fun KK2 kk2 => ?_
  refine n_of (N' := KK2) kk2 ?_
  refine n_of (N' := NN1) nn1 ?_
  refine c_seq fun NN3 nn3 => ?_
  refine c_region fun KK4 kk4 => ?_
  refine ⟨rfl, _, _, (s37 _ _ _), ?_⟩
  refine And.intro (fun h0 => ?_) (fun h0 => ?_)
  · skip
    refine And.intro (fun h1 => ?_) (fun h1 => ?_)
    · skip
      refine ⟨rfl, _, _, (s98 _ _), ?_⟩
      refine And.intro (fun h2 => ?_) (fun h2 => ?_)
      · skip
        refine ⟨rfl, _, _, (s52 _ _), ?_⟩
        refine n_of (N' := KK4) kk4 ?_
        refine n_of (N' := NN3) nn3 ?_
        refine c_ret ?_
        refine n_of (N' := R0) hR ?_
        (try simp only [Dat.len] at h0)
        (try simp only [Dat.len] at h1)
        (try simp only [Dat.len] at h2)
        exact ⟨[], rfl, rfl, congrArg exb (by unfold isSh; simp only [h0, h1, h2, Bool.false_and, Bool.true_and, Bool.not_true, Bool.and_true, Bool.and_false, Bool.not_false, Bool.or_false, Bool.or_true, Bool.false_or, Bool.true_or])⟩
      · skip
        refine n_of (N' := KK4) kk4 ?_
        refine n_of (N' := NN3) nn3 ?_
        refine c_ret ?_
        refine n_of (N' := R0) hR ?_
        (try simp only [Dat.len] at h0)
        (try simp only [Dat.len] at h1)
        (try simp only [Dat.len] at h2)
        exact ⟨[], rfl, rfl, congrArg exb (by unfold isSh; simp only [h0, h1, h2, Bool.false_and, Bool.true_and, Bool.not_true, Bool.and_true, Bool.and_false, Bool.not_false, Bool.or_false, Bool.or_true, Bool.false_or, Bool.true_or])⟩
    · skip
      refine And.intro (fun h => nomatch h) (fun _ => ?_)
      refine n_of (N' := KK4) kk4 ?_
      refine n_of (N' := NN3) nn3 ?_
      refine c_ret ?_
      refine n_of (N' := R0) hR ?_
      (try simp only [Dat.len] at h0)
      (try simp only [Dat.len] at h1)
      exact ⟨[], rfl, rfl, congrArg exb (by unfold isSh; simp only [h0, h1, Bool.false_and, Bool.true_and, Bool.not_true, Bool.and_true, Bool.and_false, Bool.not_false, Bool.or_false, Bool.or_true, Bool.false_or, Bool.true_or])⟩
  · skip
    refine And.intro (fun h => nomatch h) (fun _ => ?_)
    refine And.intro (fun h => nomatch h) (fun _ => ?_)
    refine n_of (N' := KK4) kk4 ?_
    refine n_of (N' := NN3) nn3 ?_
    refine c_ret ?_
    refine n_of (N' := R0) hR ?_
    (try simp only [Dat.len] at h0)
    exact ⟨[], rfl, rfl, congrArg exb (by unfold isSh; simp only [h0, Bool.false_and, Bool.true_and, Bool.not_true, Bool.and_true, Bool.and_false, Bool.not_false, Bool.or_false, Bool.or_true, Bool.false_or, Bool.true_or])⟩

theorem s69 (o o2 : Bool) (ps : List (Nat × Nat)) (ss : List Nat) (c : Bool) : SP 69 [shV 1 2 c, arC o ps, ar o2 ss] [.one (.pv 0 0)] [shV 1 2 c, arC o ps, ar o2 ss] (exb (isSh ps ss)) := by
  refine spec_of_codeR (fn := Try.f69) tyOK mixes Try.func69 rfl rfl rfl ⟨.inl rfl, ⟨.inl rfl, ⟨.inl rfl, rfl⟩⟩⟩ fun hg R0 hR => ?_
  have hlen : ps.length ≤ maxLen := hg.1.2.1.1
  have hml : maxLen = 9223372036854775807 := by decide
  refine c_seq fun NN1 nn1 => ?_
  refine c_region fun KK2 kk2 => ?_
  refine n_of (N' := KK2) kk2 ?_
  refine n_of (N' := NN1) nn1 ?_
  refine c_seq fun NN3 nn3 => ?_
  refine c_region fun KK4 kk4 => ?_
  refine n_of (N' := KK4) kk4 ?_
  refine n_of (N' := NN3) nn3 ?_
  refine c_seq fun NN5 nn5 => ?_
  refine c_seq fun NN6 nn6 => ?_
  refine c_region fun KK7 kk7 => ?_
  refine And.intro (fun h0 => ?_) (fun h0 => ?_)
  · skip
    have q0 := of_decide_eq_true h0
    (try dsimp only at q0)
    (try simp only [Dat.len] at q0)
    refine And.intro (fun _ => ?_) (fun h => nomatch h)
    refine n_of (N' := KK7) kk7 ?_
    refine n_of (N' := NN6) nn6 ?_
    refine c_cond rfl (fun _ => ?_) (fun h => nomatch h)
    refine c_seq fun NN8 nn8 => ?_
    refine c_region fun KK9 kk9 => ?_
    refine n_of (N' := KK9) kk9 ?_
    refine n_of (N' := NN8) nn8 ?_
    refine c_ret ?_
    refine n_of (N' := R0) hR ?_
    refine ⟨[], rfl, rfl, congrArg exb ?_⟩
    have c := of_decide_eq_true h0
    (try simp only [Dat.len] at c)
    unfold isSh inB
    rw [decide_eq_false (show ¬ (ps.length : Int) ≥ 2 by omega)]; simp
  · skip
    have q0 := of_decide_eq_false h0
    (try dsimp only at q0)
    (try simp only [Dat.len] at q0)
    have c0 := of_decide_eq_false h0
    (try simp only [Dat.len] at c0)
    refine And.intro (fun h1 => ?_) (fun h1 => ?_)
    · skip
      refine n_of (N' := KK7) kk7 ?_
      refine n_of (N' := NN6) nn6 ?_
      refine c_cond rfl (fun _ => ?_) (fun h => nomatch h)
      refine c_seq fun NN10 nn10 => ?_
      refine c_region fun KK11 kk11 => ?_
      refine n_of (N' := KK11) kk11 ?_
      refine n_of (N' := NN10) nn10 ?_
      refine c_ret ?_
      refine n_of (N' := R0) hR ?_
      refine ⟨[], rfl, rfl, congrArg exb ?_⟩
      have c := of_decide_eq_true h1
      (try simp only [Dat.len] at c)
      unfold isSh inB
      rw [decide_eq_false (show ¬ (ps.length : Int) ≤ 48 by omega)]; simp
    · skip
      have c1 := of_decide_eq_false h1
      (try simp only [Dat.len] at c1)
      refine n_of (N' := KK7) kk7 ?_
      refine n_of (N' := NN6) nn6 ?_
      refine c_cond rfl (fun h2 => ?_) (fun h2 => ?_)
      · skip
        refine c_seq fun NN12 nn12 => ?_
        refine c_region fun KK13 kk13 => ?_
        refine n_of (N' := KK13) kk13 ?_
        refine n_of (N' := NN12) nn12 ?_
        refine c_ret ?_
        refine n_of (N' := R0) hR ?_
        refine ⟨[], rfl, rfl, congrArg exb ?_⟩
        have c := ne_of_bneT h2
        (try simp only [Dat.len] at c)
        unfold isSh
        rw [beq_eq_false_iff_ne.2 c]; simp
      · skip
        have hl := eq_of_bneF h2
        (try simp only [Dat.len] at hl)
        refine c_skip ?_
        refine n_of (N' := NN5) nn5 ?_
        refine c_seq fun NN14 nn14 => ?_
        refine c_seq fun NN15 nn15 => ?_
        refine c_region fun KK16 kk16 => ?_
        refine n_of (N' := KK16) kk16 ?_
        refine n_of (N' := NN15) nn15 ?_
        refine c_block fun XX17 xx17 => ?_
        refine loop_keep [] [0, 29] (ι := { i : Nat // i ≤ ps.length ∧ ∀ j, j < i → finC (ps.getD j (0, 0)) = true ∧ finB (ss.getD j 0) = true }) (fun i => [(30, exi .i64 i.1)]) (fun i => []) (fun i => ps.length - i.1) ⟨0, Nat.zero_le _, fun j hj => absurd hj (Nat.not_lt_zero j)⟩ trivial rfl ?_
        refine ⟨?_, ?_, ?_⟩
        · exact ⟨.inr rfl, trivial⟩
        · exact ⟨rfl, rfl, rfl, trivial⟩
        refine fun ⟨i, hi, hx⟩ NL18 nl18 => ?_
        refine c_norm rfl rfl ?_
        refine c_seq fun NN19 nn19 => ?_
        refine c_region fun KK20 kk20 => ?_
        refine n_of (N' := KK20) kk20 ?_
        refine n_of (N' := NN19) nn19 ?_
        refine c_seq fun NN21 nn21 => ?_
        refine c_cond rfl (fun h3 => ?_) (fun h3 => ?_)
        · skip
          have q3 := of_decide_eq_true h3
          (try dsimp only at q3)
          (try simp only [Dat.len] at q3)
          refine c_skip ?_
          refine n_of (N' := NN21) nn21 ?_
          refine c_seq fun NN22 nn22 => ?_
          refine c_block fun XX23 xx23 => ?_
          refine c_seq fun NN24 nn24 => ?_
          refine c_region fun KK25 kk25 => ?_
          refine n_of (N' := KK25) kk25 ?_
          refine n_of (N' := NN24) nn24 ?_
          refine c_seq fun NN26 nn26 => ?_
          refine c_region fun KK27 kk27 => ?_
          refine And.intro ?_ ?_
          · ((try dsimp only); (try simp only [Dat.len, Int.toNat_natCast]); omega)   -- 0 index
          refine And.intro ?_ ?_
          · ((try dsimp only); (try simp only [Dat.len, Int.toNat_natCast]); omega)   -- 1 load
          refine ⟨rfl, _, _, s88 _ _, ?_⟩
          refine And.intro (fun h4 => ?_) (fun h4 => ?_)
          · skip
            refine n_of (N' := KK27) kk27 ?_
            refine n_of (N' := NN26) nn26 ?_
            refine c_cond rfl (fun _ => ?_) (fun h => nomatch h)
            refine c_seq fun NN28 nn28 => ?_
            refine c_region fun KK29 kk29 => ?_
            refine n_of (N' := KK29) kk29 ?_
            refine n_of (N' := NN28) nn28 ?_
            refine c_ret ?_
            refine n_of (N' := R0) hR ?_
            refine ⟨[], rfl, rfl, congrArg exb ?_⟩
            unfold isSh
            rw [all_not (0, 0) (i := i) (by omega) (not_t h4)]; simp
          · skip
            refine And.intro ?_ ?_
            · ((try dsimp only); (try simp only [Dat.len, Int.toNat_natCast]); omega)   -- 2 index
            refine And.intro ?_ ?_
            · ((try dsimp only); (try simp only [Dat.len, Int.toNat_natCast]); omega)   -- 3 load
            refine ⟨rfl, _, _, s64 _, ?_⟩
            refine n_of (N' := KK27) kk27 ?_
            refine n_of (N' := NN26) nn26 ?_
            refine c_cond rfl (fun h5 => ?_) (fun h5 => ?_)
            · skip
              refine c_seq fun NN30 nn30 => ?_
              refine c_region fun KK31 kk31 => ?_
              refine n_of (N' := KK31) kk31 ?_
              refine n_of (N' := NN30) nn30 ?_
              refine c_ret ?_
              refine n_of (N' := R0) hR ?_
              refine ⟨[], rfl, rfl, congrArg exb ?_⟩
              unfold isSh
              rw [all_not 0 (i := i) (by omega) (not_t h5)]; simp
            · skip
              refine c_skip ?_
              refine n_of (N' := NN22) nn22 ?_
              refine c_region fun KK32 kk32 => ?_
              refine n_of (N' := KK32) kk32 ?_
              refine n_of (N' := NL18) nl18 ?_
              refine ⟨⟨i + 1, by omega, fun j hj => (Nat.lt_or_eq_of_le (Nat.le_of_lt_succ hj)).elim (hx j) (fun e => by subst e; exact ⟨not_f h4, not_f h5⟩)⟩, ?_, [0, 1, 2], rfl, ?_, ?_⟩
              · (dsimp only; omega)
              · exact LEq.eq ⟨rfl, rfl, rfl, trivial⟩
              · exact ⟨.inr (congrArg (exi .i64) (wr64 (n := (i : Int) + 1) (by omega) (by omega))), .inr rfl, .inr rfl, trivial⟩
        · skip
          have q3 := of_decide_eq_false h3
          (try dsimp only at q3)
          (try simp only [Dat.len] at q3)
          refine c_exit ?_
          refine x_here xx17 ?_
          refine n_of (N' := NN14) nn14 ?_
          refine c_seq fun NN33 nn33 => ?_
          refine c_region fun KK34 kk34 => ?_
          refine n_of (N' := KK34) kk34 ?_
          refine n_of (N' := NN33) nn33 ?_
          refine c_ret ?_
          refine n_of (N' := R0) hR ?_
          refine ⟨[], rfl, rfl, congrArg exb ?_⟩
          have e : i = ps.length := by omega
          subst e
          unfold isSh inB
          rw [decide_eq_true (show (ps.length : Int) ≥ 2 by omega), decide_eq_true (show (ps.length : Int) ≤ 48 by omega), beq_iff_eq.2 hl, all_of (0, 0) fun j hj => (hx j hj).1, all_of 0 fun j hj => (hx j (by omega)).2]; rfl

theorem s72 (ps : List (Nat × Nat)) (ss : List Nat) (c : Bool) : SP 72 [arC true ps, ar true ss] [sh 0 1 c] [.dead, .dead, arC true (gR (isSh ps ss) ps), ar true (gR (isSh ps ss) ss)] (toldS (isSh ps ss) c 2 3) := by
  refine spec_of_codeR (fn := Try.f72) tyOK mixes Try.func72 rfl rfl rfl ⟨.inr rfl, ⟨.inr rfl, rfl⟩⟩ fun hg R0 hR => ?_
  refine c_seq fun NN1 nn1 => ?_
  refine c_region fun KK2 kk2 => ?_
  refine n_of (N' := KK2) kk2 ?_
  refine n_of (N' := NN1) nn1 ?_
  refine c_seq fun NN3 nn3 => ?_
  refine c_seq fun NN4 nn4 => ?_
  refine c_region fun KK5 kk5 => ?_
  refine ⟨rfl, _, _, s90 _ _ _ _ _, ?_⟩
  refine n_of (N' := KK5) kk5 ?_
  refine n_of (N' := NN4) nn4 ?_
  refine c_cond rfl (fun h0 => ?_) (fun h0 => ?_)
  · skip
    refine c_seq fun NN6 nn6 => ?_
    refine c_region fun KK7 kk7 => ?_
    refine n_of (N' := KK7) kk7 ?_
    refine n_of (N' := NN6) nn6 ?_
    refine c_ret ?_
    refine n_of (N' := R0) hR ?_
    have ok : isSh ps ss = false := not_t h0
    exact ⟨[.nil 66 (.c []), .nil 23 (.f []), .drop 0, .drop 1], rfl, rfl, rfl, by rw [ok]; rfl, by rw [ok]; rfl⟩
  · skip
    refine c_skip ?_
    refine n_of (N' := NN3) nn3 ?_
    refine c_seq fun NN8 nn8 => ?_
    refine c_region fun KK9 kk9 => ?_
    refine n_of (N' := KK9) kk9 ?_
    refine n_of (N' := NN8) nn8 ?_
    refine c_ret ?_
    refine n_of (N' := R0) hR ?_
    have ok : isSh ps ss = true := not_f h0
    exact ⟨[.mv 0, .mv 1], rfl, by rw [ok]; rfl, by rw [ok]; rfl⟩

theorem s43 (ps : List (Nat × Nat)) (ss : List Nat) (c : Bool) : SP 43 [arC true ps, ar true ss] [sh 0 1 c] [.dead, .dead, arC true (gR (isSh ps ss) ps), ar true (gR (isSh ps ss) ss)] (toldS (isSh ps ss) c 2 3) := by
  refine spec_of_codeR (fn := Try.f43) tyOK mixes Try.func43 rfl rfl rfl ⟨.inr rfl, ⟨.inr rfl, rfl⟩⟩ fun hg R0 hR => ?_
  refine c_seq fun NN1 nn1 => ?_
  refine c_region fun KK2 kk2 => ?_
  refine n_of (N' := KK2) kk2 ?_
  refine n_of (N' := NN1) nn1 ?_
  refine c_seq fun NN3 nn3 => ?_
  refine c_seq fun NN4 nn4 => ?_
  refine c_region fun KK5 kk5 => ?_
  refine ⟨rfl, _, _, s69 _ _ _ _ _, ?_⟩
  refine n_of (N' := KK5) kk5 ?_
  refine n_of (N' := NN4) nn4 ?_
  refine c_cond rfl (fun h0 => ?_) (fun h0 => ?_)
  · skip
    refine c_seq fun NN6 nn6 => ?_
    refine c_region fun KK7 kk7 => ?_
    refine n_of (N' := KK7) kk7 ?_
    refine n_of (N' := NN6) nn6 ?_
    refine c_ret ?_
    refine n_of (N' := R0) hR ?_
    have ok : isSh ps ss = false := not_t h0
    exact ⟨[.nil 66 (.c []), .nil 23 (.f []), .drop 0, .drop 1], rfl, rfl, rfl, by rw [ok]; rfl, by rw [ok]; rfl⟩
  · skip
    refine c_skip ?_
    refine n_of (N' := NN3) nn3 ?_
    refine c_seq fun NN8 nn8 => ?_
    refine c_region fun KK9 kk9 => ?_
    refine n_of (N' := KK9) kk9 ?_
    refine n_of (N' := NN8) nn8 ?_
    refine c_ret ?_
    refine n_of (N' := R0) hR ?_
    have ok : isSh ps ss = true := not_f h0
    exact ⟨[.mv 0, .mv 1], rfl, by rw [ok]; rfl, by rw [ok]; rfl⟩

theorem s71 (x : Nat) : SP 71 [] [f32 x] [] (exb (fcmp .leq .f32 x (cn .f32 0))) := by
  refine spec_of_codeR (fn := Try.f71) tyOK mixes Try.func71 rfl rfl rfl rfl fun hg R0 hR => ?_
  refine c_seq fun NN1 nn1 => ?_
  refine c_region fun KK2 kk2 => ?_
  refine n_of (N' := KK2) kk2 ?_
  refine n_of (N' := NN1) nn1 ?_
  refine c_seq fun NN3 nn3 => ?_
  refine c_region fun KK4 kk4 => ?_
  refine n_of (N' := KK4) kk4 ?_
  refine n_of (N' := NN3) nn3 ?_
  refine c_ret ?_
  refine n_of (N' := R0) hR ?_
  exact ⟨[], rfl, rfl, rfl⟩

theorem s89b (o : Bool) (xs : List Nat) : SP 89 [ar o xs] [.one (.sl 0), .one (.fn 71 [] [])] [ar o xs] (exi .i64 (fi (fun x => (fcmp .leq .f32 x (cn .f32 0))) xs)) := by
  refine spec_of_codeR (fn := Try.f89) tyOK mixes Try.func89 rfl rfl rfl ⟨.inl rfl, rfl⟩ fun hg R0 hR => ?_
  have hlen : xs.length ≤ maxLen := hg.1.1.1
  have hml : maxLen = 9223372036854775807 := by decide
  refine c_seq fun NN1 nn1 => ?_
  refine c_region fun KK2 kk2 => ?_
  refine n_of (N' := KK2) kk2 ?_
  refine n_of (N' := NN1) nn1 ?_
  refine c_seq fun NN3 nn3 => ?_
  refine c_seq fun NN4 nn4 => ?_
  refine c_region fun KK5 kk5 => ?_
  refine n_of (N' := KK5) kk5 ?_
  refine n_of (N' := NN4) nn4 ?_
  refine c_block fun XX6 xx6 => ?_
  refine loop_keep [] [0, 1, 7] (ι := { i : Nat // i ≤ xs.length ∧ ∀ j, j < i → (fcmp .leq .f32 (xs.getD j 0) (cn .f32 0)) = false }) (fun i => [(8, exi .i64 i.1)]) (fun i => []) (fun i => xs.length - i.1) ⟨0, Nat.zero_le _, fun j hj => absurd hj (Nat.not_lt_zero j)⟩ trivial rfl ?_
  refine ⟨?_, ?_, ?_⟩
  · exact ⟨.inr rfl, trivial⟩
  · exact ⟨rfl, trivial⟩
  refine fun ⟨i, hi, hx⟩ NL7 nl7 => ?_
  refine c_norm rfl rfl ?_
  refine c_seq fun NN8 nn8 => ?_
  refine c_region fun KK9 kk9 => ?_
  refine n_of (N' := KK9) kk9 ?_
  refine n_of (N' := NN8) nn8 ?_
  refine c_seq fun NN10 nn10 => ?_
  refine c_cond rfl (fun h0 => ?_) (fun h0 => ?_)
  · skip
    have q0 := of_decide_eq_true h0
    (try dsimp only at q0)
    (try simp only [Dat.len] at q0)
    refine c_skip ?_
    refine n_of (N' := NN10) nn10 ?_
    refine c_seq fun NN11 nn11 => ?_
    refine c_block fun XX12 xx12 => ?_
    refine c_seq fun NN13 nn13 => ?_
    refine c_region fun KK14 kk14 => ?_
    refine n_of (N' := KK14) kk14 ?_
    refine n_of (N' := NN13) nn13 ?_
    refine c_seq fun NN15 nn15 => ?_
    refine c_region fun KK16 kk16 => ?_
    refine And.intro ?_ ?_
    · ((try dsimp only); (try simp only [Dat.len, Int.toNat_natCast]); omega)   -- 0 index
    refine And.intro ?_ ?_
    · ((try dsimp only); (try simp only [Dat.len, Int.toNat_natCast]); omega)   -- 1 load
    refine ⟨rfl, _, _, s71 _, ?_⟩
    refine n_of (N' := KK16) kk16 ?_
    refine n_of (N' := NN15) nn15 ?_
    refine c_cond rfl (fun h1 => ?_) (fun h1 => ?_)
    · skip
      refine c_seq fun NN17 nn17 => ?_
      refine c_region fun KK18 kk18 => ?_
      refine n_of (N' := KK18) kk18 ?_
      refine n_of (N' := NN17) nn17 ?_
      refine c_ret ?_
      refine n_of (N' := R0) hR ?_
      exact ⟨[], rfl, rfl, congrArg (exi .i64) (fi_at 0 (i := i) (by omega) h1 hx).symm⟩
    · skip
      refine c_skip ?_
      refine n_of (N' := NN11) nn11 ?_
      refine c_region fun KK19 kk19 => ?_
      refine n_of (N' := KK19) kk19 ?_
      refine n_of (N' := NL7) nl7 ?_
      refine ⟨⟨i + 1, by omega, fun j hj => (Nat.lt_or_eq_of_le (Nat.le_of_lt_succ hj)).elim (hx j) (fun e => by subst e; exact h1)⟩, ?_, [0], rfl, ?_, ?_⟩
      · (dsimp only; omega)
      · exact LEq.eq ⟨rfl, trivial⟩
      · exact ⟨.inr (congrArg (exi .i64) (wr64 (n := (i : Int) + 1) (by omega) (by omega))), .inr rfl, .inr rfl, .inr rfl, trivial⟩
  · skip
    have q0 := of_decide_eq_false h0
    (try dsimp only at q0)
    (try simp only [Dat.len] at q0)
    refine c_exit ?_
    refine x_here xx6 ?_
    refine n_of (N' := NN3) nn3 ?_
    refine c_seq fun NN20 nn20 => ?_
    refine c_region fun KK21 kk21 => ?_
    refine n_of (N' := KK21) kk21 ?_
    refine n_of (N' := NN20) nn20 ?_
    refine c_ret ?_
    refine n_of (N' := R0) hR ?_
    exact ⟨[], rfl, rfl, congrArg (exi .i64) (fi_none 0 fun j hj => hx j (by omega)).symm⟩

theorem s70b (o : Bool) (xs : List Nat) : SP 70 [ar o xs] [.one (.sl 0), .one (.fn 71 [] [])] [ar o xs] (exb (xs.any fun x => fcmp .leq .f32 x (cn .f32 0))) := by
  refine spec_of_codeR (fn := Try.f70) tyOK mixes Try.func70 rfl rfl rfl ⟨.inl rfl, rfl⟩ fun hg R0 hR => ?_
  refine c_seq fun NN1 nn1 => ?_
  refine c_region fun KK2 kk2 => ?_
  refine n_of (N' := KK2) kk2 ?_
  refine n_of (N' := NN1) nn1 ?_
  refine c_seq fun NN3 nn3 => ?_
  refine c_region fun KK4 kk4 => ?_
  refine ⟨rfl, _, _, s89b _ _, ?_⟩
  refine n_of (N' := KK4) kk4 ?_
  refine n_of (N' := NN3) nn3 ?_
  refine c_ret ?_
  refine n_of (N' := R0) hR ?_
  exact ⟨[], rfl, rfl, congrArg exb fi_ge⟩

theorem s44 (o : Bool) (x : Nat) : SP 44 [ar o [x]] [.one (.sl 0)] [ar o [x]] (exb (above x)) := by
  refine spec_of_codeR (fn := Try.f44) tyOK mixes Try.func44 rfl rfl rfl ⟨.inl rfl, rfl⟩ fun hg R0 hR => ?_
  refine c_seq fun NN1 nn1 => ?_
  refine c_region fun KK2 kk2 => ?_
  refine n_of (N' := KK2) kk2 ?_
  refine n_of (N' := NN1) nn1 ?_
  refine c_seq fun NN3 nn3 => ?_
  refine c_region fun KK4 kk4 => ?_
  refine ⟨rfl, _, _, s52 _ _, ?_⟩
  refine And.intro (fun h0 => ?_) (fun h0 => ?_)
  · skip
    refine ⟨rfl, _, _, s70b _ _, ?_⟩
    refine n_of (N' := KK4) kk4 ?_
    refine n_of (N' := NN3) nn3 ?_
    refine c_ret ?_
    refine n_of (N' := R0) hR ?_
    simp only [List.all_cons, List.all_nil, Bool.and_true] at h0
    exact ⟨[], rfl, rfl, congrArg exb (by unfold above; rw [h0, gtr_leq h0]; simp only [List.any_cons, List.any_nil, Bool.or_false, Bool.true_and])⟩
  · skip
    refine n_of (N' := KK4) kk4 ?_
    refine n_of (N' := NN3) nn3 ?_
    refine c_ret ?_
    refine n_of (N' := R0) hR ?_
    simp only [List.all_cons, List.all_nil, Bool.and_true] at h0
    exact ⟨[], rfl, rfl, congrArg exb (by unfold above; rw [h0]; rfl)⟩

theorem s42 (x : Nat) : SP 42 [] [f32 x] [] (exb (above x)) := by
  refine spec_of_codeR (fn := Try.f42) tyOK mixes Try.func42 rfl rfl rfl rfl fun hg R0 hR => ?_
  refine c_seq fun NN1 nn1 => ?_
  refine c_region fun KK2 kk2 => ?_
  refine n_of (N' := KK2) kk2 ?_
  refine n_of (N' := NN1) nn1 ?_
  refine c_seq fun NN3 nn3 => ?_
  refine c_region fun KK4 kk4 => ?_
  refine ⟨rfl, _, _, (s64 _), ?_⟩
  refine And.intro (fun h0 => ?_) (fun h0 => ?_)
  · skip
    refine n_of (N' := KK4) kk4 ?_
    refine n_of (N' := NN3) nn3 ?_
    refine c_ret ?_
    refine n_of (N' := R0) hR ?_
    exact ⟨[], rfl, rfl, congrArg exb (by simp only [above, h0, Bool.false_and, Bool.true_and, Bool.not_true, Bool.and_true, Bool.and_false, Bool.not_false, Bool.or_false, Bool.or_true, Bool.false_or, Bool.true_or])⟩
  · skip
    refine n_of (N' := KK4) kk4 ?_
    refine n_of (N' := NN3) nn3 ?_
    refine c_ret ?_
    refine n_of (N' := R0) hR ?_
    exact ⟨[], rfl, rfl, congrArg exb (by simp only [above, h0, Bool.false_and, Bool.true_and, Bool.not_true, Bool.and_true, Bool.and_false, Bool.not_false, Bool.or_false, Bool.or_true, Bool.false_or, Bool.true_or])⟩

def Fflat (g : Nat) (k : Nat) : Nat × Nat := (fop .mul .f32 (fint .f32 (k : Int)) g, cn .f32 0)

theorem s46 (g k : Nat) : SP 46 [.var 23 [.fl .f32 g]] [i64 k, .one (.pv 0 0)] [.var 23 [.fl .f32 g]] (.v (c64 (Fflat g k).1 (Fflat g k).2)) := by
  refine spec_of_codeR (fn := Try.f46) tyOK mixes Try.func46 rfl rfl rfl ⟨.inl rfl, rfl⟩ fun hg R0 hR => ?_
  refine c_seq fun NN1 nn1 => ?_
  refine c_region fun KK2 kk2 => ?_
  refine n_of (N' := KK2) kk2 ?_
  refine n_of (N' := NN1) nn1 ?_
  refine c_seq fun NN3 nn3 => ?_
  refine c_region fun KK4 kk4 => ?_
  refine n_of (N' := KK4) kk4 ?_
  refine n_of (N' := NN3) nn3 ?_
  refine c_ret ?_
  refine n_of (N' := R0) hR ?_
  exact ⟨[], rfl, rfl, rfl⟩

theorem s45flat (g : Nat) (N : Nat) (hN : N ≤ 48) (s : Nat) (c : Bool) : SP 45 [.var 23 [.fl .f32 g]] [i64 N, f32 s, .one (.ex (.bool c)), .one (.fn 46 [] [0])] [.var 23 [.fl .f32 g], arC true (gR (isSh (bld (Fflat g) N) (bld (fun _ => s) N)) (bld (Fflat g) N)), ar true (gR (isSh (bld (Fflat g) N) (bld (fun _ => s) N)) (bld (fun _ => s) N))] (toldS (isSh (bld (Fflat g) N) (bld (fun _ => s) N)) c 1 2) := by
  refine spec_of_codeR (fn := Try.f45) tyOK mixes Try.func45 rfl rfl rfl ⟨.inl rfl, rfl⟩ fun hg R0 hR => ?_
  refine c_seq fun NN1 nn1 => ?_
  refine c_region fun KK2 kk2 => ?_
  refine n_of (N' := KK2) kk2 ?_
  refine n_of (N' := NN1) nn1 ?_
  refine c_seq fun NN3 nn3 => ?_
  refine c_region fun KK4 kk4 => ?_
  refine n_of (N' := KK4) kk4 ?_
  refine n_of (N' := NN3) nn3 ?_
  refine c_seq fun NN5 nn5 => ?_
  refine c_seq fun NN6 nn6 => ?_
  refine c_region fun KK7 kk7 => ?_
  refine n_of (N' := KK7) kk7 ?_
  refine n_of (N' := NN6) nn6 ?_
  refine c_block fun XX8 xx8 => ?_
  refine loop_keep [.c 2 0 66 (.c []), .c 2 1 23 (.f [])] [1, 3, 8, 10, 14] (ι := { i : Nat // i ≤ N }) (fun i => [(15, exi .i64 i.1)]) (fun i => [(3, arC true (bld (Fflat g) i.1)), (4, ar true (bld (fun _ => s) i.1))]) (fun i => N - i.1) ⟨0, Nat.zero_le _⟩ ⟨rfl, rfl, trivial⟩ rfl ?_
  refine ⟨?_, ?_, ?_⟩
  · exact ⟨.inr rfl, trivial⟩
  · exact ⟨rfl, rfl, rfl, rfl, rfl, trivial⟩
  refine fun ⟨i, hi⟩ NL9 nl9 => ?_
  refine c_norm rfl rfl ?_
  refine c_seq fun NN10 nn10 => ?_
  refine c_region fun KK11 kk11 => ?_
  refine n_of (N' := KK11) kk11 ?_
  refine n_of (N' := NN10) nn10 ?_
  refine c_seq fun NN12 nn12 => ?_
  refine c_cond rfl (fun h0 => ?_) (fun h0 => ?_)
  · skip
    have q0 := of_decide_eq_true h0
    (try dsimp only at q0)
    (try simp only [Dat.len, bld_len, List.length_cons, List.length_nil] at q0)
    refine c_skip ?_
    refine n_of (N' := NN12) nn12 ?_
    refine c_seq fun NN13 nn13 => ?_
    refine c_block fun XX14 xx14 => ?_
    refine c_seq fun NN15 nn15 => ?_
    refine c_region fun KK16 kk16 => ?_
    refine n_of (N' := KK16) kk16 ?_
    refine n_of (N' := NN15) nn15 ?_
    refine c_drawP tyOK mixes [3, 4] 13 10 11 11 28 [0, 1, 2, 3, 7, 8, 9, 12, 4, 5, 6, 11] (by kernel_rfl) fun KK17 kk17 => ?_
    refine ⟨rfl, _, _, s46 _ _, ⟨.inr rfl, .inr rfl, .inr rfl, .inl rfl, .inl rfl, trivial⟩, ?_⟩
    refine And.intro ?_ ?_
    · (refine ⟨?_, by decide⟩; (try dsimp only); (try simp only [Dat.len, Int.toNat_natCast, bld_len, List.length_cons, List.length_nil]); omega)   -- 0 append
    refine And.intro ⟨.inr rfl, .inr rfl, .inr rfl, .inl rfl, .inl rfl, .inr rfl, trivial⟩ ?_
    refine And.intro ?_ ?_
    · (refine ⟨?_, by decide⟩; (try dsimp only); (try simp only [Dat.len, Int.toNat_natCast, bld_len, List.length_cons, List.length_nil]); omega)   -- 1 append
    refine And.intro ⟨.inr rfl, .inr rfl, .inr rfl, .inl rfl, .inl rfl, .inr rfl, .inr rfl, trivial⟩ ?_
    refine n_of (N' := KK17) kk17 ?_
    refine n_of (N' := NN13) nn13 ?_
    refine c_region fun KK18 kk18 => ?_
    refine n_of (N' := KK18) kk18 ?_
    refine n_of (N' := NL9) nl9 ?_
    refine ⟨⟨i + 1, by omega⟩, ?_, [0, 1, 2, 6, 7], rfl, ?_, ?_⟩
    · (dsimp only; omega)
    · exact LEq.eq ⟨rfl, rfl, rfl, rfl, rfl, trivial⟩
    · exact ⟨.inr (congrArg (exi .i64) (wr64 (n := (i : Int) + 1) (by omega) (by omega))), .inr rfl, .inr rfl, .inr rfl, .inr rfl, .inr rfl, trivial⟩
  · skip
    have q0 := of_decide_eq_false h0
    (try dsimp only at q0)
    (try simp only [Dat.len, bld_len, List.length_cons, List.length_nil] at q0)
    refine c_exit ?_
    refine x_here xx8 ?_
    refine n_of (N' := NN5) nn5 ?_
    refine c_seq fun NN19 nn19 => ?_
    refine c_region fun KK20 kk20 => ?_
    refine ⟨rfl, _, _, s72 _ _ _, ?_⟩
    refine n_of (N' := KK20) kk20 ?_
    refine n_of (N' := NN19) nn19 ?_
    refine c_ret ?_
    refine n_of (N' := R0) hR ?_
    have e : i = N := by omega
    subst e
    exact ⟨[], rfl, rfl, rfl⟩

def okfl (n : Int) (g s : Nat) : Bool := (inB n 2 48 && above g) && isSh (bld (Fflat g) n.toNat) (bld (fun _ => s) n.toNat)

theorem s14 (n : Int) (g s : Nat) : SP 14 [] [i64 n, f32 g, f32 s] [arC true (gR (okfl n g s) (bld (Fflat g) n.toNat)), ar true (gR (okfl n g s) (bld (fun _ => s) n.toNat))] (toldS (okfl n g s) false 0 1) := by
  refine spec_of_codeR (fn := Try.f14) tyOK mixes Try.func14 rfl rfl rfl rfl fun hg R0 hR => ?_
  refine c_seq fun NN1 nn1 => ?_
  refine c_region fun KK2 kk2 => ?_
  refine n_of (N' := KK2) kk2 ?_
  refine n_of (N' := NN1) nn1 ?_
  refine c_seq fun NN3 nn3 => ?_
  refine c_seq fun NN4 nn4 => ?_
  refine c_region fun KK5 kk5 => ?_
  refine ⟨rfl, _, _, (s37 _ _ _), ?_⟩
  refine And.intro (fun h0 => ?_) (fun h0 => ?_)
  · skip
    refine n_of (N' := KK5) kk5 ?_
    refine n_of (N' := NN4) nn4 ?_
    refine c_cond rfl (fun _ => ?_) (fun h => nomatch h)
    refine c_seq fun NN6 nn6 => ?_
    refine c_region fun KK7 kk7 => ?_
    refine n_of (N' := KK7) kk7 ?_
    refine n_of (N' := NN6) nn6 ?_
    refine c_ret ?_
    refine n_of (N' := R0) hR ?_
    have ok : okfl n g s = false := by unfold okfl; rw [not_t h0]; rfl
    exact ⟨[.nil 66 (.c []), .nil 23 (.f [])], rfl, rfl, rfl, by rw [ok]; rfl, by rw [ok]; rfl⟩
  · skip
    have hn := inB_le (not_f h0)
    obtain ⟨N, rfl⟩ : ∃ N : Nat, n = N := ⟨n.toNat, by omega⟩
    refine ⟨rfl, _, _, s44 _ _, ?_⟩
    refine n_of (N' := KK5) kk5 ?_
    refine n_of (N' := NN4) nn4 ?_
    refine c_cond rfl (fun h1 => ?_) (fun h1 => ?_)
    · skip
      refine c_seq fun NN8 nn8 => ?_
      refine c_region fun KK9 kk9 => ?_
      refine n_of (N' := KK9) kk9 ?_
      refine n_of (N' := NN8) nn8 ?_
      refine c_ret ?_
      refine n_of (N' := R0) hR ?_
      have ok : okfl N g s = false := by unfold okfl; rw [not_t h1]; simp
      exact ⟨[.nil 66 (.c []), .nil 23 (.f [])], rfl, rfl, rfl, by rw [ok]; rfl, by rw [ok]; rfl⟩
    · skip
      refine c_skip ?_
      refine n_of (N' := NN3) nn3 ?_
      refine c_seq fun NN10 nn10 => ?_
      refine c_region fun KK11 kk11 => ?_
      refine ⟨rfl, _, _, s45flat _ _ (by omega) _ _, ?_⟩
      refine n_of (N' := KK11) kk11 ?_
      refine n_of (N' := NN10) nn10 ?_
      refine c_ret ?_
      refine n_of (N' := R0) hR ?_
      have ok : okfl N g s = isSh (bld (Fflat g) N) (bld (fun _ => s) N) := by unfold okfl; rw [not_f h0, not_f h1]; rfl
      exact ⟨[], rfl, by rw [ok]; rfl, by rw [ok]⟩

theorem s13 (n : Int) (g s : Nat) : SP 13 [] [i64 n, f32 g, f32 s] [arC true (gR (okfl n g s) (bld (Fflat g) n.toNat)), ar true (gR (okfl n g s) (bld (fun _ => s) n.toNat))] (toldS (okfl n g s) false 0 1) := by
  refine spec_of_codeR (fn := Try.f13) tyOK mixes Try.func13 rfl rfl rfl rfl fun hg R0 hR => ?_
  refine c_seq fun NN1 nn1 => ?_
  refine c_region fun KK2 kk2 => ?_
  refine n_of (N' := KK2) kk2 ?_
  refine n_of (N' := NN1) nn1 ?_
  refine c_seq fun NN3 nn3 => ?_
  refine c_seq fun NN4 nn4 => ?_
  refine c_region fun KK5 kk5 => ?_
  refine ⟨rfl, _, _, (s41 _ _ _), ?_⟩
  refine And.intro (fun h0 => ?_) (fun h0 => ?_)
  · skip
    refine n_of (N' := KK5) kk5 ?_
    refine n_of (N' := NN4) nn4 ?_
    refine c_cond rfl (fun _ => ?_) (fun h => nomatch h)
    refine c_seq fun NN6 nn6 => ?_
    refine c_region fun KK7 kk7 => ?_
    refine n_of (N' := KK7) kk7 ?_
    refine n_of (N' := NN6) nn6 ?_
    refine c_ret ?_
    refine n_of (N' := R0) hR ?_
    have ok : okfl n g s = false := by unfold okfl; rw [not_t h0]; rfl
    exact ⟨[.nil 66 (.c []), .nil 23 (.f [])], rfl, rfl, rfl, by rw [ok]; rfl, by rw [ok]; rfl⟩
  · skip
    refine ⟨rfl, _, _, (s42 _), ?_⟩
    refine n_of (N' := KK5) kk5 ?_
    refine n_of (N' := NN4) nn4 ?_
    refine c_cond rfl (fun h1 => ?_) (fun h1 => ?_)
    · skip
      refine c_seq fun NN8 nn8 => ?_
      refine c_region fun KK9 kk9 => ?_
      refine n_of (N' := KK9) kk9 ?_
      refine n_of (N' := NN8) nn8 ?_
      refine c_ret ?_
      refine n_of (N' := R0) hR ?_
      have ok : okfl n g s = false := by unfold okfl; rw [not_t h1]; simp
      exact ⟨[.nil 66 (.c []), .nil 23 (.f [])], rfl, rfl, rfl, by rw [ok]; rfl, by rw [ok]; rfl⟩
    · skip
      have hn := inB_le (not_f h0)
      obtain ⟨N, rfl⟩ : ∃ N : Nat, n = N := ⟨n.toNat, by omega⟩
      refine c_skip ?_
      refine n_of (N' := NN3) nn3 ?_
      refine c_seq fun NN10 nn10 => ?_
      refine c_region fun KK11 kk11 => ?_
      refine n_of (N' := KK11) kk11 ?_
      refine n_of (N' := NN10) nn10 ?_
      refine c_seq fun NN12 nn12 => ?_
      refine c_seq fun NN13 nn13 => ?_
      refine c_region fun KK14 kk14 => ?_
      refine n_of (N' := KK14) kk14 ?_
      refine n_of (N' := NN13) nn13 ?_
      refine c_block fun XX15 xx15 => ?_
      refine loop_keep [.c 1 0 66 (.c []), .c 1 1 23 (.f [])] [0, 1, 2, 6, 8] (ι := { i : Nat // i ≤ N }) (fun i => [(9, exi .i64 i.1)]) (fun i => [(2, arC true (bld (Fflat g) i.1)), (3, ar true (bld (fun _ => s) i.1))]) (fun i => N - i.1) ⟨0, Nat.zero_le _⟩ ⟨rfl, rfl, trivial⟩ rfl ?_
      refine ⟨?_, ?_, ?_⟩
      · exact ⟨.inr rfl, trivial⟩
      · exact ⟨rfl, rfl, rfl, rfl, trivial⟩
      refine fun ⟨i, hi⟩ NL16 nl16 => ?_
      refine c_norm rfl rfl ?_
      refine c_seq fun NN17 nn17 => ?_
      refine c_seq fun NN18 nn18 => ?_
      refine c_region fun KK19 kk19 => ?_
      refine n_of (N' := KK19) kk19 ?_
      refine n_of (N' := NN18) nn18 ?_
      refine c_cond rfl (fun h2 => ?_) (fun h2 => ?_)
      · skip
        have q2 := of_decide_eq_true h2
        (try dsimp only at q2)
        (try simp only [Dat.len, bld_len, List.length_cons, List.length_nil] at q2)
        refine c_skip ?_
        refine n_of (N' := NN17) nn17 ?_
        refine c_seq fun NN20 nn20 => ?_
        refine c_block fun XX21 xx21 => ?_
        refine c_seq fun NN22 nn22 => ?_
        refine c_region fun KK23 kk23 => ?_
        refine And.intro ?_ ?_
        · (refine ⟨?_, by decide⟩; (try dsimp only); (try simp only [Dat.len, Int.toNat_natCast, bld_len, List.length_cons, List.length_nil]); omega)   -- 0 append
        refine n_of (N' := KK23) kk23 ?_
        refine n_of (N' := NN22) nn22 ?_
        refine c_region fun KK24 kk24 => ?_
        refine And.intro ?_ ?_
        · (refine ⟨?_, by decide⟩; (try dsimp only); (try simp only [Dat.len, Int.toNat_natCast, bld_len, List.length_cons, List.length_nil]); omega)   -- 1 append
        refine n_of (N' := KK24) kk24 ?_
        refine n_of (N' := NN20) nn20 ?_
        refine c_region fun KK25 kk25 => ?_
        refine n_of (N' := KK25) kk25 ?_
        refine n_of (N' := NL16) nl16 ?_
        refine ⟨⟨i + 1, by omega⟩, ?_, [0, 1, 2, 3], rfl, ?_, ?_⟩
        · (dsimp only; omega)
        · exact LEq.eq ⟨rfl, rfl, rfl, rfl, trivial⟩
        · exact ⟨.inr (congrArg (exi .i64) (wr64 (n := (i : Int) + 1) (by omega) (by omega))), .inr rfl, .inr rfl, .inr rfl, .inr rfl, .inr rfl, trivial⟩
      · skip
        have q2 := of_decide_eq_false h2
        (try dsimp only at q2)
        (try simp only [Dat.len, bld_len, List.length_cons, List.length_nil] at q2)
        refine c_exit ?_
        refine x_here xx15 ?_
        refine n_of (N' := NN12) nn12 ?_
        refine c_seq fun NN26 nn26 => ?_
        refine c_region fun KK27 kk27 => ?_
        refine ⟨rfl, _, _, s43 _ _ _, ?_⟩
        refine n_of (N' := KK27) kk27 ?_
        refine n_of (N' := NN26) nn26 ?_
        refine c_ret ?_
        refine n_of (N' := R0) hR ?_
        have e : i = N := by omega
        subst e
        have ok : okfl (i : Int) g s = isSh (bld (Fflat g) i) (bld (fun _ => s) i) := by unfold okfl; rw [not_f h0, not_f h1]; rfl
        exact ⟨[], rfl, by rw [ok]; rfl, by rw [ok]⟩

theorem s73 (x y : Nat) : SP 73 [] [.one (.cx .f64 x y), .one (.cx .f64 x y)] [] (exb true) := by
  refine spec_of_codeR (fn := Try.f73) tyOK mixes Try.func73 rfl rfl rfl rfl fun hg R0 hR => ?_
  refine c_seq fun NN1 nn1 => ?_
  refine c_region fun KK2 kk2 => ?_
  refine n_of (N' := KK2) kk2 ?_
  refine n_of (N' := NN1) nn1 ?_
  refine c_seq fun NN3 nn3 => ?_
  refine c_region fun KK4 kk4 => ?_
  refine ⟨rfl, _, _, s40 _, ?_⟩
  refine And.intro (fun h0 => ?_) (fun h0 => ?_)
  · skip
    refine ⟨rfl, _, _, s40 _, ?_⟩
    refine n_of (N' := KK4) kk4 ?_
    refine n_of (N' := NN3) nn3 ?_
    refine c_ret ?_
    refine n_of (N' := R0) hR ?_
    exact ⟨[], rfl, rfl, rfl⟩
  · skip
    cases h0

theorem s47 (o o2 : Bool) (xs : List (Nat × Nat)) : SP 47 [arC o xs, arC o2 xs] [.one (.sl 0), .one (.sl 1)] [arC o xs, arC o2 xs] (exb true) := by
  refine spec_of_codeR (fn := Try.f47) tyOK mixes Try.func47 rfl rfl rfl ⟨.inl rfl, ⟨.inl rfl, rfl⟩⟩ fun hg R0 hR => ?_
  have hlen : xs.length ≤ maxLen := hg.1.1.1
  have hml : maxLen = 9223372036854775807 := by decide
  refine c_seq fun NN1 nn1 => ?_
  refine c_region fun KK2 kk2 => ?_
  refine n_of (N' := KK2) kk2 ?_
  refine n_of (N' := NN1) nn1 ?_
  refine c_seq fun NN3 nn3 => ?_
  refine c_seq fun NN4 nn4 => ?_
  refine c_region fun KK5 kk5 => ?_
  refine n_of (N' := KK5) kk5 ?_
  refine n_of (N' := NN4) nn4 ?_
  refine c_cond rfl (fun h0 => ?_) (fun h0 => ?_)
  · skip
    have q0 := ne_of_bneT h0
    (try dsimp only at q0)
    (try simp only [Dat.len] at q0)
    refine c_seq fun NN6 nn6 => ?_
    refine c_region fun KK7 kk7 => ?_
    refine n_of (N' := KK7) kk7 ?_
    refine n_of (N' := NN6) nn6 ?_
    refine c_ret ?_
    refine n_of (N' := R0) hR ?_
    simp [bne, Dat.len] at h0
  · skip
    have q0 := eq_of_bneF h0
    (try dsimp only at q0)
    (try simp only [Dat.len] at q0)
    refine c_skip ?_
    refine n_of (N' := NN3) nn3 ?_
    refine c_seq fun NN8 nn8 => ?_
    refine c_seq fun NN9 nn9 => ?_
    refine c_region fun KK10 kk10 => ?_
    refine n_of (N' := KK10) kk10 ?_
    refine n_of (N' := NN9) nn9 ?_
    refine c_block fun XX11 xx11 => ?_
    refine loop_keep [] [0, 1] (ι := { i : Nat // i ≤ xs.length }) (fun i => [(5, exi .i64 i.1)]) (fun i => []) (fun i => xs.length - i.1) ⟨0, Nat.zero_le _⟩ trivial rfl ?_
    refine ⟨?_, ?_, ?_⟩
    · exact ⟨.inr rfl, trivial⟩
    · exact ⟨rfl, rfl, trivial⟩
    refine fun ⟨i, hi⟩ NL12 nl12 => ?_
    refine c_norm rfl rfl ?_
    refine c_seq fun NN13 nn13 => ?_
    refine c_seq fun NN14 nn14 => ?_
    refine c_region fun KK15 kk15 => ?_
    refine n_of (N' := KK15) kk15 ?_
    refine n_of (N' := NN14) nn14 ?_
    refine c_cond rfl (fun h1 => ?_) (fun h1 => ?_)
    · skip
      have q1 := of_decide_eq_true h1
      (try dsimp only at q1)
      (try simp only [Dat.len] at q1)
      refine c_skip ?_
      refine n_of (N' := NN13) nn13 ?_
      refine c_seq fun NN16 nn16 => ?_
      refine c_block fun XX17 xx17 => ?_
      refine c_seq fun NN18 nn18 => ?_
      refine c_draw 10 [0, 1, 2, 3, 4, 5, 6, 7, 8, 9] (by kernel_rfl) fun KK19 kk19 => ?_
      refine And.intro ?_ ?_
      · ((try dsimp only); (try simp only [Dat.len, Int.toNat_natCast]); omega)   -- 0 index
      refine And.intro ?_ ?_
      · ((try dsimp only); (try simp only [Dat.len, Int.toNat_natCast]); omega)   -- 1 load
      refine And.intro ?_ ?_
      · ((try dsimp only); (try simp only [Dat.len, Int.toNat_natCast]); omega)   -- 2 index
      refine And.intro ?_ ?_
      · ((try dsimp only); (try simp only [Dat.len, Int.toNat_natCast]); omega)   -- 3 load
      refine ⟨rfl, _, _, s73 _ _, ?_⟩
      refine n_of (N' := KK19) kk19 ?_
      refine n_of (N' := NN18) nn18 ?_
      refine c_cond rfl (fun h2 => ?_) (fun h2 => ?_)
      · skip
        refine c_seq fun NN20 nn20 => ?_
        refine c_region fun KK21 kk21 => ?_
        refine n_of (N' := KK21) kk21 ?_
        refine n_of (N' := NN20) nn20 ?_
        refine c_ret ?_
        refine n_of (N' := R0) hR ?_
        exact nomatch h2
      · skip
        refine c_skip ?_
        refine n_of (N' := NN16) nn16 ?_
        refine c_region fun KK22 kk22 => ?_
        refine n_of (N' := KK22) kk22 ?_
        refine n_of (N' := NL12) nl12 ?_
        refine ⟨⟨i + 1, by omega⟩, ?_, [0, 1], rfl, ?_, ?_⟩
        · (dsimp only; omega)
        · exact LEq.eq ⟨rfl, rfl, trivial⟩
        · exact ⟨.inr (congrArg (exi .i64) (wr64 (n := (i : Int) + 1) (by omega) (by omega))), .inr rfl, .inr rfl, trivial⟩
    · skip
      have q1 := of_decide_eq_false h1
      (try dsimp only at q1)
      (try simp only [Dat.len] at q1)
      refine c_exit ?_
      refine x_here xx11 ?_
      refine n_of (N' := NN8) nn8 ?_
      refine c_seq fun NN23 nn23 => ?_
      refine c_region fun KK24 kk24 => ?_
      refine n_of (N' := KK24) kk24 ?_
      refine n_of (N' := NN23) nn23 ?_
      refine c_ret ?_
      refine n_of (N' := R0) hR ?_
      exact ⟨[], rfl, rfl, rfl⟩

theorem s47' (o : Bool) (xs : List (Nat × Nat)) : SP 47 [arC o xs] [.one (.sl 0), .one (.sl 0)] [arC o xs] (exb true) := by
  refine spec_of_codeR (fn := Try.f47) tyOK mixes Try.func47 rfl rfl rfl ⟨.inl rfl, rfl⟩ fun hg R0 hR => ?_
  have hlen : xs.length ≤ maxLen := hg.1.1.1
  have hml : maxLen = 9223372036854775807 := by decide
  refine c_seq fun NN1 nn1 => ?_
  refine c_region fun KK2 kk2 => ?_
  refine n_of (N' := KK2) kk2 ?_
  refine n_of (N' := NN1) nn1 ?_
  refine c_seq fun NN3 nn3 => ?_
  refine c_seq fun NN4 nn4 => ?_
  refine c_region fun KK5 kk5 => ?_
  refine n_of (N' := KK5) kk5 ?_
  refine n_of (N' := NN4) nn4 ?_
  refine c_cond rfl (fun h0 => ?_) (fun h0 => ?_)
  · skip
    have q0 := ne_of_bneT h0
    (try dsimp only at q0)
    (try simp only [Dat.len] at q0)
    refine c_seq fun NN6 nn6 => ?_
    refine c_region fun KK7 kk7 => ?_
    refine n_of (N' := KK7) kk7 ?_
    refine n_of (N' := NN6) nn6 ?_
    refine c_ret ?_
    refine n_of (N' := R0) hR ?_
    simp [bne, Dat.len] at h0
  · skip
    have q0 := eq_of_bneF h0
    (try dsimp only at q0)
    (try simp only [Dat.len] at q0)
    refine c_skip ?_
    refine n_of (N' := NN3) nn3 ?_
    refine c_seq fun NN8 nn8 => ?_
    refine c_seq fun NN9 nn9 => ?_
    refine c_region fun KK10 kk10 => ?_
    refine n_of (N' := KK10) kk10 ?_
    refine n_of (N' := NN9) nn9 ?_
    refine c_block fun XX11 xx11 => ?_
    refine loop_keep [] [0, 1] (ι := { i : Nat // i ≤ xs.length }) (fun i => [(5, exi .i64 i.1)]) (fun i => []) (fun i => xs.length - i.1) ⟨0, Nat.zero_le _⟩ trivial rfl ?_
    refine ⟨?_, ?_, ?_⟩
    · exact ⟨.inr rfl, trivial⟩
    · exact ⟨rfl, trivial⟩
    refine fun ⟨i, hi⟩ NL12 nl12 => ?_
    refine c_norm rfl rfl ?_
    refine c_seq fun NN13 nn13 => ?_
    refine c_seq fun NN14 nn14 => ?_
    refine c_region fun KK15 kk15 => ?_
    refine n_of (N' := KK15) kk15 ?_
    refine n_of (N' := NN14) nn14 ?_
    refine c_cond rfl (fun h1 => ?_) (fun h1 => ?_)
    · skip
      have q1 := of_decide_eq_true h1
      (try dsimp only at q1)
      (try simp only [Dat.len] at q1)
      refine c_skip ?_
      refine n_of (N' := NN13) nn13 ?_
      refine c_seq fun NN16 nn16 => ?_
      refine c_block fun XX17 xx17 => ?_
      refine c_seq fun NN18 nn18 => ?_
      refine c_draw 10 [0, 1, 2, 3, 4, 5, 6, 7, 8, 9] (by kernel_rfl) fun KK19 kk19 => ?_
      refine And.intro ?_ ?_
      · ((try dsimp only); (try simp only [Dat.len, Int.toNat_natCast]); omega)   -- 0 index
      refine And.intro ?_ ?_
      · ((try dsimp only); (try simp only [Dat.len, Int.toNat_natCast]); omega)   -- 1 load
      refine And.intro ?_ ?_
      · ((try dsimp only); (try simp only [Dat.len, Int.toNat_natCast]); omega)   -- 2 index
      refine And.intro ?_ ?_
      · ((try dsimp only); (try simp only [Dat.len, Int.toNat_natCast]); omega)   -- 3 load
      refine ⟨rfl, _, _, s73 _ _, ?_⟩
      refine n_of (N' := KK19) kk19 ?_
      refine n_of (N' := NN18) nn18 ?_
      refine c_cond rfl (fun h2 => ?_) (fun h2 => ?_)
      · skip
        refine c_seq fun NN20 nn20 => ?_
        refine c_region fun KK21 kk21 => ?_
        refine n_of (N' := KK21) kk21 ?_
        refine n_of (N' := NN20) nn20 ?_
        refine c_ret ?_
        refine n_of (N' := R0) hR ?_
        exact nomatch h2
      · skip
        refine c_skip ?_
        refine n_of (N' := NN16) nn16 ?_
        refine c_region fun KK22 kk22 => ?_
        refine n_of (N' := KK22) kk22 ?_
        refine n_of (N' := NL12) nl12 ?_
        refine ⟨⟨i + 1, by omega⟩, ?_, [0], rfl, ?_, ?_⟩
        · (dsimp only; omega)
        · exact LEq.eq ⟨rfl, trivial⟩
        · exact ⟨.inr (congrArg (exi .i64) (wr64 (n := (i : Int) + 1) (by omega) (by omega))), .inr rfl, .inr rfl, trivial⟩
    · skip
      have q1 := of_decide_eq_false h1
      (try dsimp only at q1)
      (try simp only [Dat.len] at q1)
      refine c_exit ?_
      refine x_here xx11 ?_
      refine n_of (N' := NN8) nn8 ?_
      refine c_seq fun NN23 nn23 => ?_
      refine c_region fun KK24 kk24 => ?_
      refine n_of (N' := KK24) kk24 ?_
      refine n_of (N' := NN23) nn23 ?_
      refine c_ret ?_
      refine n_of (N' := R0) hR ?_
      exact ⟨[], rfl, rfl, rfl⟩


theorem s21 (o o2 : Bool) (xs : List Nat) : SP 21 [ar o xs, ar o2 xs] [.one (.sl 0), .one (.sl 1)] [ar o xs, ar o2 xs] (exb true) := by
  refine spec_of_codeR (fn := Try.f21) tyOK mixes Try.func21 rfl rfl rfl ⟨.inl rfl, ⟨.inl rfl, rfl⟩⟩ fun hg R0 hR => ?_
  have hlen : xs.length ≤ maxLen := hg.1.1.1
  have hml : maxLen = 9223372036854775807 := by decide
  refine c_seq fun NN1 nn1 => ?_
  refine c_region fun KK2 kk2 => ?_
  refine n_of (N' := KK2) kk2 ?_
  refine n_of (N' := NN1) nn1 ?_
  refine c_seq fun NN3 nn3 => ?_
  refine c_seq fun NN4 nn4 => ?_
  refine c_region fun KK5 kk5 => ?_
  refine n_of (N' := KK5) kk5 ?_
  refine n_of (N' := NN4) nn4 ?_
  refine c_cond rfl (fun h0 => ?_) (fun h0 => ?_)
  · skip
    have q0 := ne_of_bneT h0
    (try dsimp only at q0)
    (try simp only [Dat.len] at q0)
    refine c_seq fun NN6 nn6 => ?_
    refine c_region fun KK7 kk7 => ?_
    refine n_of (N' := KK7) kk7 ?_
    refine n_of (N' := NN6) nn6 ?_
    refine c_ret ?_
    refine n_of (N' := R0) hR ?_
    simp [bne, Dat.len] at h0
  · skip
    have q0 := eq_of_bneF h0
    (try dsimp only at q0)
    (try simp only [Dat.len] at q0)
    refine c_skip ?_
    refine n_of (N' := NN3) nn3 ?_
    refine c_seq fun NN8 nn8 => ?_
    refine c_seq fun NN9 nn9 => ?_
    refine c_region fun KK10 kk10 => ?_
    refine n_of (N' := KK10) kk10 ?_
    refine n_of (N' := NN9) nn9 ?_
    refine c_block fun XX11 xx11 => ?_
    refine loop_keep [] [0, 1] (ι := { i : Nat // i ≤ xs.length }) (fun i => [(5, exi .i64 i.1)]) (fun i => []) (fun i => xs.length - i.1) ⟨0, Nat.zero_le _⟩ trivial rfl ?_
    refine ⟨?_, ?_, ?_⟩
    · exact ⟨.inr rfl, trivial⟩
    · exact ⟨rfl, rfl, trivial⟩
    refine fun ⟨i, hi⟩ NL12 nl12 => ?_
    refine c_norm rfl rfl ?_
    refine c_seq fun NN13 nn13 => ?_
    refine c_seq fun NN14 nn14 => ?_
    refine c_region fun KK15 kk15 => ?_
    refine n_of (N' := KK15) kk15 ?_
    refine n_of (N' := NN14) nn14 ?_
    refine c_cond rfl (fun h1 => ?_) (fun h1 => ?_)
    · skip
      have q1 := of_decide_eq_true h1
      (try dsimp only at q1)
      (try simp only [Dat.len] at q1)
      refine c_skip ?_
      refine n_of (N' := NN13) nn13 ?_
      refine c_seq fun NN16 nn16 => ?_
      refine c_block fun XX17 xx17 => ?_
      refine c_seq fun NN18 nn18 => ?_
      refine c_draw 10 [0, 1, 2, 3, 4, 5, 6, 7, 8, 9] (by kernel_rfl) fun KK19 kk19 => ?_
      refine And.intro ?_ ?_
      · ((try dsimp only); (try simp only [Dat.len, Int.toNat_natCast]); omega)   -- 0 index
      refine And.intro ?_ ?_
      · ((try dsimp only); (try simp only [Dat.len, Int.toNat_natCast]); omega)   -- 1 load
      refine And.intro ?_ ?_
      · ((try dsimp only); (try simp only [Dat.len, Int.toNat_natCast]); omega)   -- 2 index
      refine And.intro ?_ ?_
      · ((try dsimp only); (try simp only [Dat.len, Int.toNat_natCast]); omega)   -- 3 load
      refine ⟨rfl, _, _, s40 _, ?_⟩
      refine n_of (N' := KK19) kk19 ?_
      refine n_of (N' := NN18) nn18 ?_
      refine c_cond rfl (fun h2 => ?_) (fun h2 => ?_)
      · skip
        refine c_seq fun NN20 nn20 => ?_
        refine c_region fun KK21 kk21 => ?_
        refine n_of (N' := KK21) kk21 ?_
        refine n_of (N' := NN20) nn20 ?_
        refine c_ret ?_
        refine n_of (N' := R0) hR ?_
        exact nomatch h2
      · skip
        refine c_skip ?_
        refine n_of (N' := NN16) nn16 ?_
        refine c_region fun KK22 kk22 => ?_
        refine n_of (N' := KK22) kk22 ?_
        refine n_of (N' := NL12) nl12 ?_
        refine ⟨⟨i + 1, by omega⟩, ?_, [0, 1], rfl, ?_, ?_⟩
        · (dsimp only; omega)
        · exact LEq.eq ⟨rfl, rfl, trivial⟩
        · exact ⟨.inr (congrArg (exi .i64) (wr64 (n := (i : Int) + 1) (by omega) (by omega))), .inr rfl, .inr rfl, trivial⟩
    · skip
      have q1 := of_decide_eq_false h1
      (try dsimp only at q1)
      (try simp only [Dat.len] at q1)
      refine c_exit ?_
      refine x_here xx11 ?_
      refine n_of (N' := NN8) nn8 ?_
      refine c_seq fun NN23 nn23 => ?_
      refine c_region fun KK24 kk24 => ?_
      refine n_of (N' := KK24) kk24 ?_
      refine n_of (N' := NN23) nn23 ?_
      refine c_ret ?_
      refine n_of (N' := R0) hR ?_
      exact ⟨[], rfl, rfl, rfl⟩

theorem s21' (o : Bool) (xs : List Nat) : SP 21 [ar o xs] [.one (.sl 0), .one (.sl 0)] [ar o xs] (exb true) := by
  refine spec_of_codeR (fn := Try.f21) tyOK mixes Try.func21 rfl rfl rfl ⟨.inl rfl, rfl⟩ fun hg R0 hR => ?_
  have hlen : xs.length ≤ maxLen := hg.1.1.1
  have hml : maxLen = 9223372036854775807 := by decide
  refine c_seq fun NN1 nn1 => ?_
  refine c_region fun KK2 kk2 => ?_
  refine n_of (N' := KK2) kk2 ?_
  refine n_of (N' := NN1) nn1 ?_
  refine c_seq fun NN3 nn3 => ?_
  refine c_seq fun NN4 nn4 => ?_
  refine c_region fun KK5 kk5 => ?_
  refine n_of (N' := KK5) kk5 ?_
  refine n_of (N' := NN4) nn4 ?_
  refine c_cond rfl (fun h0 => ?_) (fun h0 => ?_)
  · skip
    have q0 := ne_of_bneT h0
    (try dsimp only at q0)
    (try simp only [Dat.len] at q0)
    refine c_seq fun NN6 nn6 => ?_
    refine c_region fun KK7 kk7 => ?_
    refine n_of (N' := KK7) kk7 ?_
    refine n_of (N' := NN6) nn6 ?_
    refine c_ret ?_
    refine n_of (N' := R0) hR ?_
    simp [bne, Dat.len] at h0
  · skip
    have q0 := eq_of_bneF h0
    (try dsimp only at q0)
    (try simp only [Dat.len] at q0)
    refine c_skip ?_
    refine n_of (N' := NN3) nn3 ?_
    refine c_seq fun NN8 nn8 => ?_
    refine c_seq fun NN9 nn9 => ?_
    refine c_region fun KK10 kk10 => ?_
    refine n_of (N' := KK10) kk10 ?_
    refine n_of (N' := NN9) nn9 ?_
    refine c_block fun XX11 xx11 => ?_
    refine loop_keep [] [0, 1] (ι := { i : Nat // i ≤ xs.length }) (fun i => [(5, exi .i64 i.1)]) (fun i => []) (fun i => xs.length - i.1) ⟨0, Nat.zero_le _⟩ trivial rfl ?_
    refine ⟨?_, ?_, ?_⟩
    · exact ⟨.inr rfl, trivial⟩
    · exact ⟨rfl, trivial⟩
    refine fun ⟨i, hi⟩ NL12 nl12 => ?_
    refine c_norm rfl rfl ?_
    refine c_seq fun NN13 nn13 => ?_
    refine c_seq fun NN14 nn14 => ?_
    refine c_region fun KK15 kk15 => ?_
    refine n_of (N' := KK15) kk15 ?_
    refine n_of (N' := NN14) nn14 ?_
    refine c_cond rfl (fun h1 => ?_) (fun h1 => ?_)
    · skip
      have q1 := of_decide_eq_true h1
      (try dsimp only at q1)
      (try simp only [Dat.len] at q1)
      refine c_skip ?_
      refine n_of (N' := NN13) nn13 ?_
      refine c_seq fun NN16 nn16 => ?_
      refine c_block fun XX17 xx17 => ?_
      refine c_seq fun NN18 nn18 => ?_
      refine c_draw 10 [0, 1, 2, 3, 4, 5, 6, 7, 8, 9] (by kernel_rfl) fun KK19 kk19 => ?_
      refine And.intro ?_ ?_
      · ((try dsimp only); (try simp only [Dat.len, Int.toNat_natCast]); omega)   -- 0 index
      refine And.intro ?_ ?_
      · ((try dsimp only); (try simp only [Dat.len, Int.toNat_natCast]); omega)   -- 1 load
      refine And.intro ?_ ?_
      · ((try dsimp only); (try simp only [Dat.len, Int.toNat_natCast]); omega)   -- 2 index
      refine And.intro ?_ ?_
      · ((try dsimp only); (try simp only [Dat.len, Int.toNat_natCast]); omega)   -- 3 load
      refine ⟨rfl, _, _, s40 _, ?_⟩
      refine n_of (N' := KK19) kk19 ?_
      refine n_of (N' := NN18) nn18 ?_
      refine c_cond rfl (fun h2 => ?_) (fun h2 => ?_)
      · skip
        refine c_seq fun NN20 nn20 => ?_
        refine c_region fun KK21 kk21 => ?_
        refine n_of (N' := KK21) kk21 ?_
        refine n_of (N' := NN20) nn20 ?_
        refine c_ret ?_
        refine n_of (N' := R0) hR ?_
        exact nomatch h2
      · skip
        refine c_skip ?_
        refine n_of (N' := NN16) nn16 ?_
        refine c_region fun KK22 kk22 => ?_
        refine n_of (N' := KK22) kk22 ?_
        refine n_of (N' := NL12) nl12 ?_
        refine ⟨⟨i + 1, by omega⟩, ?_, [0], rfl, ?_, ?_⟩
        · (dsimp only; omega)
        · exact LEq.eq ⟨rfl, trivial⟩
        · exact ⟨.inr (congrArg (exi .i64) (wr64 (n := (i : Int) + 1) (by omega) (by omega))), .inr rfl, .inr rfl, trivial⟩
    · skip
      have q1 := of_decide_eq_false h1
      (try dsimp only at q1)
      (try simp only [Dat.len] at q1)
      refine c_exit ?_
      refine x_here xx11 ?_
      refine n_of (N' := NN8) nn8 ?_
      refine c_seq fun NN23 nn23 => ?_
      refine c_region fun KK24 kk24 => ?_
      refine n_of (N' := KK24) kk24 ?_
      refine n_of (N' := NN23) nn23 ?_
      refine c_ret ?_
      refine n_of (N' := R0) hR ?_
      exact ⟨[], rfl, rfl, rfl⟩


theorem s15 (o o2 o3 o4 : Bool) (ps : List (Nat × Nat)) (ss : List Nat) (c : Bool) : SP 15 [arC o ps, ar o2 ss, arC o3 ps, ar o4 ss] [sh 0 1 c, sh 2 3 c] [arC o ps, ar o2 ss, arC o3 ps, ar o4 ss] (exb true) := by
  refine spec_of_codeR (fn := Try.f15) tyOK mixes Try.func15 rfl rfl rfl ⟨.inl rfl, ⟨.inl rfl, ⟨.inl rfl, ⟨.inl rfl, rfl⟩⟩⟩⟩ fun hg R0 hR => ?_
  refine c_seq fun NN1 nn1 => ?_
  refine c_region fun KK2 kk2 => ?_
  refine n_of (N' := KK2) kk2 ?_
  refine n_of (N' := NN1) nn1 ?_
  refine c_seq fun NN3 nn3 => ?_
  refine c_seq fun NN4 nn4 => ?_
  refine c_region fun KK5 kk5 => ?_
  refine ⟨rfl, _, _, s47 _ _ _, ?_⟩
  refine n_of (N' := KK5) kk5 ?_
  refine n_of (N' := NN4) nn4 ?_
  refine c_cond rfl (fun h0 => ?_) (fun h0 => ?_)
  · skip
    (first | (cases h0; done) | simp [bne] at h0)
  · skip
    refine c_skip ?_
    refine n_of (N' := NN3) nn3 ?_
    refine c_seq fun NN6 nn6 => ?_
    refine c_seq fun NN7 nn7 => ?_
    refine c_region fun KK8 kk8 => ?_
    refine ⟨rfl, _, _, s21 _ _ _, ?_⟩
    refine n_of (N' := KK8) kk8 ?_
    refine n_of (N' := NN7) nn7 ?_
    refine c_cond rfl (fun h1 => ?_) (fun h1 => ?_)
    · skip
      (first | (cases h1; done) | simp [bne] at h1)
    · skip
      refine c_skip ?_
      refine n_of (N' := NN6) nn6 ?_
      refine c_seq fun NN9 nn9 => ?_
      refine c_seq fun NN10 nn10 => ?_
      refine c_region fun KK11 kk11 => ?_
      refine n_of (N' := KK11) kk11 ?_
      refine n_of (N' := NN10) nn10 ?_
      refine c_cond rfl (fun h2 => ?_) (fun h2 => ?_)
      · skip
        (first | (cases h2; done) | simp [bne] at h2)
      · skip
        refine c_skip ?_
        refine n_of (N' := NN9) nn9 ?_
        refine c_seq fun NN12 nn12 => ?_
        refine c_region fun KK13 kk13 => ?_
        refine n_of (N' := KK13) kk13 ?_
        refine n_of (N' := NN12) nn12 ?_
        refine c_ret ?_
        refine n_of (N' := R0) hR ?_
        exact ⟨[], rfl, rfl, rfl⟩

theorem marks_len (n : Int) (len : Nat) : (marks n len).length = len := bld_len _ _
theorem marksC_len (n : Int) (len : Nat) : (marksC n len).length = len := bld_len _ _
theorem one_narrows : narrows (cn .f64 4607182418800017408) = true := by decide
theorem one_isN : isN .f64 (cn .f64 4607182418800017408) = false := by decide

theorem s22 (xs : List Nat) (n : Int) (h0 : 0 ≤ n) (h1 : n ≤ 1000000000) (hn : xs.length ≤ 1048576) : SP 22 [ar true xs] [.one (.sl 0), i64 n] [ar true (marks n xs.length)] (exi .i64 (n + xs.length)) := by
  refine spec_of_codeR (fn := Try.f22) tyOK mixes Try.func22 rfl rfl rfl ⟨.inr rfl, rfl⟩ fun hg R0 hR => ?_
  refine c_seq fun NN1 nn1 => ?_
  refine c_region fun KK2 kk2 => ?_
  refine n_of (N' := KK2) kk2 ?_
  refine n_of (N' := NN1) nn1 ?_
  refine c_seq fun NN3 nn3 => ?_
  refine c_seq fun NN4 nn4 => ?_
  refine c_region fun KK5 kk5 => ?_
  refine n_of (N' := KK5) kk5 ?_
  refine n_of (N' := NN4) nn4 ?_
  refine c_block fun XX6 xx6 => ?_
  refine loop_keep [] [0] (ι := { i : Nat // i ≤ xs.length }) (fun i => [(5, exi .i64 i.1), (1, exi .i64 (n + i.1))]) (fun i => [(0, ar true (marks n i.1 ++ xs.drop i.1))]) (fun i => xs.length - i.1) ⟨0, Nat.zero_le _⟩ trivial rfl ?_
  refine ⟨?_, ?_, ?_⟩
  · exact ⟨.inr rfl, .inr (congrArg (exi .i64) (by simp)), trivial⟩
  · exact ⟨congrArg (ar true) (by simp [marks, bld]), trivial⟩
  refine fun ⟨i, hi⟩ NL7 nl7 => ?_
  refine c_norm rfl rfl ?_
  refine c_seq fun NN8 nn8 => ?_
  refine c_seq fun NN9 nn9 => ?_
  refine c_region fun KK10 kk10 => ?_
  refine n_of (N' := KK10) kk10 ?_
  refine n_of (N' := NN9) nn9 ?_
  refine c_cond rfl (fun h0 => ?_) (fun h0 => ?_)
  · skip
    have q0 := of_decide_eq_true h0
    (try dsimp only at q0)
    (try simp only [Dat.len, List.length_append, List.length_drop, bld_len, marks_len, marksC_len] at q0)
    refine c_skip ?_
    refine n_of (N' := NN8) nn8 ?_
    refine c_seq fun NN11 nn11 => ?_
    refine c_block fun XX12 xx12 => ?_
    refine c_seq fun NN13 nn13 => ?_
    refine c_region fun KK14 kk14 => ?_
    refine And.intro ?_ ?_
    · ((try dsimp only); (try simp only [Dat.len, Int.toNat_natCast, List.length_append, List.length_drop, bld_len, marks_len, marksC_len]); omega)   -- 0 index
    refine And.intro ?_ ?_
    · ((try dsimp only); (try simp only [Dat.len, Int.toNat_natCast, List.length_append, List.length_drop, bld_len, marks_len, marksC_len]); omega)   -- 1 store
    refine n_of (N' := KK14) kk14 ?_
    refine n_of (N' := NN13) nn13 ?_
    refine c_region fun KK15 kk15 => ?_
    refine n_of (N' := KK15) kk15 ?_
    refine n_of (N' := NN11) nn11 ?_
    refine c_region fun KK16 kk16 => ?_
    refine n_of (N' := KK16) kk16 ?_
    refine n_of (N' := NL7) nl7 ?_
    refine ⟨⟨i + 1, by omega⟩, ?_, [0], rfl, ?_, ?_⟩
    · (dsimp only; omega)
    · exact LEq.eq ⟨congrArg (ar true) (bld_set (i := i) (by omega)), trivial⟩
    · exact ⟨.inr (congrArg (exi .i64) (wr64 (n := (i : Int) + 1) (by omega) (by omega))), .inr (congrArg (exi .i64) ((wr64 (n := n + (i : Int) + 1) (by omega) (by omega)).trans (show n + (i : Int) + 1 = n + ((i + 1 : Nat) : Int) by omega))), .inr rfl, trivial⟩
  · skip
    have q0 := of_decide_eq_false h0
    (try dsimp only at q0)
    (try simp only [Dat.len, List.length_append, List.length_drop, bld_len, marks_len, marksC_len] at q0)
    refine c_exit ?_
    refine x_here xx6 ?_
    refine n_of (N' := NN3) nn3 ?_
    refine c_seq fun NN17 nn17 => ?_
    refine c_region fun KK18 kk18 => ?_
    refine n_of (N' := KK18) kk18 ?_
    refine n_of (N' := NN17) nn17 ?_
    refine c_ret ?_
    refine n_of (N' := R0) hR ?_
    have e : i = xs.length := by omega
    subst e
    exact ⟨[], rfl, congrArg (fun ys => [ar true ys]) (by simp), rfl⟩

theorem s48 (xs : List (Nat × Nat)) (n : Int) (h0 : 0 ≤ n) (h1 : n ≤ 1000000000) (hn : xs.length ≤ 1048576) : SP 48 [arC true xs] [.one (.sl 0), i64 n] [arC true (marksC n xs.length)] (exi .i64 (n + xs.length)) := by
  refine spec_of_codeR (fn := Try.f48) tyOK mixes Try.func48 rfl rfl rfl ⟨.inr rfl, rfl⟩ fun hg R0 hR => ?_
  refine c_seq fun NN1 nn1 => ?_
  refine c_region fun KK2 kk2 => ?_
  refine n_of (N' := KK2) kk2 ?_
  refine n_of (N' := NN1) nn1 ?_
  refine c_seq fun NN3 nn3 => ?_
  refine c_seq fun NN4 nn4 => ?_
  refine c_region fun KK5 kk5 => ?_
  refine n_of (N' := KK5) kk5 ?_
  refine n_of (N' := NN4) nn4 ?_
  refine c_block fun XX6 xx6 => ?_
  refine loop_keep [] [0] (ι := { i : Nat // i ≤ xs.length }) (fun i => [(5, exi .i64 i.1), (1, exi .i64 (n + i.1))]) (fun i => [(0, arC true (marksC n i.1 ++ xs.drop i.1))]) (fun i => xs.length - i.1) ⟨0, Nat.zero_le _⟩ trivial rfl ?_
  refine ⟨?_, ?_, ?_⟩
  · exact ⟨.inr rfl, .inr (congrArg (exi .i64) (by simp)), trivial⟩
  · exact ⟨congrArg (arC true) (by simp [marksC, bld]), trivial⟩
  refine fun ⟨i, hi⟩ NL7 nl7 => ?_
  refine c_norm rfl rfl ?_
  refine c_seq fun NN8 nn8 => ?_
  refine c_seq fun NN9 nn9 => ?_
  refine c_region fun KK10 kk10 => ?_
  refine n_of (N' := KK10) kk10 ?_
  refine n_of (N' := NN9) nn9 ?_
  refine c_cond rfl (fun h0 => ?_) (fun h0 => ?_)
  · skip
    have q0 := of_decide_eq_true h0
    (try dsimp only at q0)
    (try simp only [Dat.len, List.length_append, List.length_drop, bld_len, marks_len, marksC_len] at q0)
    refine c_skip ?_
    refine n_of (N' := NN8) nn8 ?_
    refine c_seq fun NN11 nn11 => ?_
    refine c_block fun XX12 xx12 => ?_
    refine c_seq fun NN13 nn13 => ?_
    refine c_region fun KK14 kk14 => ?_
    refine And.intro ?_ ?_
    · exact ⟨fint_narrows (by (try dsimp only); omega) (by (try dsimp only); omega), one_narrows⟩   -- 0 narrowc
    refine And.intro ?_ ?_
    · ((try dsimp only); (try simp only [Dat.len, Int.toNat_natCast, List.length_append, List.length_drop, bld_len, marks_len, marksC_len]); omega)   -- 1 index
    refine And.intro ?_ ?_
    · ((try dsimp only); (try simp only [Dat.len, Int.toNat_natCast, List.length_append, List.length_drop, bld_len, marks_len, marksC_len]); omega)   -- 2 store
    refine n_of (N' := KK14) kk14 ?_
    refine n_of (N' := NN13) nn13 ?_
    refine c_region fun KK15 kk15 => ?_
    refine n_of (N' := KK15) kk15 ?_
    refine n_of (N' := NN11) nn11 ?_
    refine c_region fun KK16 kk16 => ?_
    refine n_of (N' := KK16) kk16 ?_
    refine n_of (N' := NL7) nl7 ?_
    refine ⟨⟨i + 1, by omega⟩, ?_, [0], rfl, ?_, ?_⟩
    · (dsimp only; omega)
    · exact LEq.eq ⟨congrArg (arC true) (bld_set (i := i) (by omega)), trivial⟩
    · exact ⟨.inr (congrArg (exi .i64) (wr64 (n := (i : Int) + 1) (by omega) (by omega))), .inr (congrArg (exi .i64) ((wr64 (n := n + (i : Int) + 1) (by omega) (by omega)).trans (show n + (i : Int) + 1 = n + ((i + 1 : Nat) : Int) by omega))), .inr rfl, trivial⟩
  · skip
    have q0 := of_decide_eq_false h0
    (try dsimp only at q0)
    (try simp only [Dat.len, List.length_append, List.length_drop, bld_len, marks_len, marksC_len] at q0)
    refine c_exit ?_
    refine x_here xx6 ?_
    refine n_of (N' := NN3) nn3 ?_
    refine c_seq fun NN17 nn17 => ?_
    refine c_region fun KK18 kk18 => ?_
    refine n_of (N' := KK18) kk18 ?_
    refine n_of (N' := NN17) nn17 ?_
    refine c_ret ?_
    refine n_of (N' := R0) hR ?_
    have e : i = xs.length := by omega
    subst e
    exact ⟨[], rfl, congrArg (fun ys => [arC true ys]) (by simp), rfl⟩

theorem s23 (o : Bool) (len : Nat) (n : Int) (h0 : 0 ≤ n) (h1 : n ≤ 1000000000) (hn : len ≤ 1048576) : SP 23 [ar o (marks n len)] [.one (.sl 0), i64 n] [ar o (marks n len)] (exi .i64 (n + len)) := by
  refine spec_of_codeR (fn := Try.f23) tyOK mixes Try.func23 rfl rfl rfl ⟨.inl rfl, rfl⟩ fun hg R0 hR => ?_
  refine c_seq fun NN1 nn1 => ?_
  refine c_region fun KK2 kk2 => ?_
  refine n_of (N' := KK2) kk2 ?_
  refine n_of (N' := NN1) nn1 ?_
  refine c_seq fun NN3 nn3 => ?_
  refine c_seq fun NN4 nn4 => ?_
  refine c_region fun KK5 kk5 => ?_
  refine n_of (N' := KK5) kk5 ?_
  refine n_of (N' := NN4) nn4 ?_
  refine c_block fun XX6 xx6 => ?_
  refine loop_keep [] [0] (ι := { i : Nat // i ≤ len }) (fun i => [(5, exi .i64 i.1), (1, exi .i64 (n + i.1))]) (fun i => []) (fun i => len - i.1) ⟨0, Nat.zero_le _⟩ trivial rfl ?_
  refine ⟨?_, ?_, ?_⟩
  · exact ⟨.inr rfl, .inr (congrArg (exi .i64) (by simp)), trivial⟩
  · exact ⟨rfl, trivial⟩
  refine fun ⟨i, hi⟩ NL7 nl7 => ?_
  refine c_norm rfl rfl ?_
  refine c_seq fun NN8 nn8 => ?_
  refine c_seq fun NN9 nn9 => ?_
  refine c_region fun KK10 kk10 => ?_
  refine n_of (N' := KK10) kk10 ?_
  refine n_of (N' := NN9) nn9 ?_
  refine c_cond rfl (fun h0 => ?_) (fun h0 => ?_)
  · skip
    have q0 := of_decide_eq_true h0
    (try dsimp only at q0)
    (try simp only [Dat.len, marks_len] at q0)
    refine c_skip ?_
    refine n_of (N' := NN8) nn8 ?_
    refine c_seq fun NN11 nn11 => ?_
    refine c_block fun XX12 xx12 => ?_
    refine c_seq fun NN13 nn13 => ?_
    refine c_seq fun NN14 nn14 => ?_
    refine c_region fun KK15 kk15 => ?_
    refine And.intro ?_ ?_
    · ((try dsimp only); (try simp only [Dat.len, Int.toNat_natCast, marks_len]); omega)   -- 0 index
    refine And.intro ?_ ?_
    · ((try dsimp only); (try simp only [Dat.len, Int.toNat_natCast, marks_len]); omega)   -- 1 load
    refine n_of (N' := KK15) kk15 ?_
    refine n_of (N' := NN14) nn14 ?_
    refine c_cond rfl (fun h1 => ?_) (fun h1 => ?_)
    · skip
      refine c_seq fun NN16 nn16 => ?_
      refine c_region fun KK17 kk17 => ?_
      refine n_of (N' := KK17) kk17 ?_
      refine n_of (N' := NN16) nn16 ?_
      refine c_ret ?_
      refine n_of (N' := R0) hR ?_
      (try dsimp only at h1)
      simp only [Int.toNat_natCast] at h1
      unfold marks at h1
      rw [bld_at 0 _ (show i < len by omega), neq_self, nearest_isN] at h1
      cases h1
    · skip
      refine c_skip ?_
      refine n_of (N' := NN13) nn13 ?_
      refine c_region fun KK18 kk18 => ?_
      refine n_of (N' := KK18) kk18 ?_
      refine n_of (N' := NN11) nn11 ?_
      refine c_region fun KK19 kk19 => ?_
      refine n_of (N' := KK19) kk19 ?_
      refine n_of (N' := NL7) nl7 ?_
      refine ⟨⟨i + 1, by omega⟩, ?_, [0], rfl, ?_, ?_⟩
      · (dsimp only; omega)
      · exact LEq.eq ⟨rfl, trivial⟩
      · exact ⟨.inr (congrArg (exi .i64) (wr64 (n := (i : Int) + 1) (by omega) (by omega))), .inr (congrArg (exi .i64) ((wr64 (n := n + (i : Int) + 1) (by omega) (by omega)).trans (show n + (i : Int) + 1 = n + ((i + 1 : Nat) : Int) by omega))), .inr rfl, trivial⟩
  · skip
    have q0 := of_decide_eq_false h0
    (try dsimp only at q0)
    (try simp only [Dat.len, marks_len] at q0)
    refine c_exit ?_
    refine x_here xx6 ?_
    refine n_of (N' := NN3) nn3 ?_
    refine c_seq fun NN20 nn20 => ?_
    refine c_region fun KK21 kk21 => ?_
    refine n_of (N' := KK21) kk21 ?_
    refine n_of (N' := NN20) nn20 ?_
    refine c_ret ?_
    refine n_of (N' := R0) hR ?_
    have e : i = len := by omega
    subst e
    exact ⟨[], rfl, rfl, rfl⟩

theorem s49 (o : Bool) (len : Nat) (n : Int) (h0 : 0 ≤ n) (h1 : n ≤ 1000000000) (hn : len ≤ 1048576) : SP 49 [arC o (marksC n len)] [.one (.sl 0), i64 n] [arC o (marksC n len)] (exi .i64 (n + len)) := by
  refine spec_of_codeR (fn := Try.f49) tyOK mixes Try.func49 rfl rfl rfl ⟨.inl rfl, rfl⟩ fun hg R0 hR => ?_
  refine c_seq fun NN1 nn1 => ?_
  refine c_region fun KK2 kk2 => ?_
  refine n_of (N' := KK2) kk2 ?_
  refine n_of (N' := NN1) nn1 ?_
  refine c_seq fun NN3 nn3 => ?_
  refine c_seq fun NN4 nn4 => ?_
  refine c_region fun KK5 kk5 => ?_
  refine n_of (N' := KK5) kk5 ?_
  refine n_of (N' := NN4) nn4 ?_
  refine c_block fun XX6 xx6 => ?_
  refine loop_keep [] [0] (ι := { i : Nat // i ≤ len }) (fun i => [(5, exi .i64 i.1), (1, exi .i64 (n + i.1))]) (fun i => []) (fun i => len - i.1) ⟨0, Nat.zero_le _⟩ trivial rfl ?_
  refine ⟨?_, ?_, ?_⟩
  · exact ⟨.inr rfl, .inr (congrArg (exi .i64) (by simp)), trivial⟩
  · exact ⟨rfl, trivial⟩
  refine fun ⟨i, hi⟩ NL7 nl7 => ?_
  refine c_norm rfl rfl ?_
  refine c_seq fun NN8 nn8 => ?_
  refine c_seq fun NN9 nn9 => ?_
  refine c_region fun KK10 kk10 => ?_
  refine n_of (N' := KK10) kk10 ?_
  refine n_of (N' := NN9) nn9 ?_
  refine c_cond rfl (fun h0 => ?_) (fun h0 => ?_)
  · skip
    have q0 := of_decide_eq_true h0
    (try dsimp only at q0)
    (try simp only [Dat.len, marksC_len] at q0)
    refine c_skip ?_
    refine n_of (N' := NN8) nn8 ?_
    refine c_seq fun NN11 nn11 => ?_
    refine c_block fun XX12 xx12 => ?_
    refine c_seq fun NN13 nn13 => ?_
    refine c_seq fun NN14 nn14 => ?_
    refine c_region fun KK15 kk15 => ?_
    refine And.intro ?_ ?_
    · ((try dsimp only); (try simp only [Dat.len, Int.toNat_natCast, marksC_len]); omega)   -- 0 index
    refine And.intro ?_ ?_
    · ((try dsimp only); (try simp only [Dat.len, Int.toNat_natCast, marksC_len]); omega)   -- 1 load
    refine And.intro ?_ ?_
    · exact ⟨fint_narrows (by (try dsimp only); omega) (by (try dsimp only); omega), one_narrows⟩   -- 2 narrowc
    refine n_of (N' := KK15) kk15 ?_
    refine n_of (N' := NN14) nn14 ?_
    refine c_cond rfl (fun h1 => ?_) (fun h1 => ?_)
    · skip
      refine c_seq fun NN16 nn16 => ?_
      refine c_region fun KK17 kk17 => ?_
      refine n_of (N' := KK17) kk17 ?_
      refine n_of (N' := NN16) nn16 ?_
      refine c_ret ?_
      refine n_of (N' := R0) hR ?_
      (try dsimp only at h1)
      simp only [Int.toNat_natCast] at h1
      unfold marksC at h1
      rw [bld_at (0, 0) _ (show i < len by omega)] at h1
      dsimp only at h1
      rw [eql_self (narrow_isN (nearest_isN _ _)), eql_self (narrow_isN one_isN)] at h1
      cases h1
    · skip
      refine c_skip ?_
      refine n_of (N' := NN13) nn13 ?_
      refine c_region fun KK18 kk18 => ?_
      refine n_of (N' := KK18) kk18 ?_
      refine n_of (N' := NN11) nn11 ?_
      refine c_region fun KK19 kk19 => ?_
      refine n_of (N' := KK19) kk19 ?_
      refine n_of (N' := NL7) nl7 ?_
      refine ⟨⟨i + 1, by omega⟩, ?_, [0], rfl, ?_, ?_⟩
      · (dsimp only; omega)
      · exact LEq.eq ⟨rfl, trivial⟩
      · exact ⟨.inr (congrArg (exi .i64) (wr64 (n := (i : Int) + 1) (by omega) (by omega))), .inr (congrArg (exi .i64) ((wr64 (n := n + (i : Int) + 1) (by omega) (by omega)).trans (show n + (i : Int) + 1 = n + ((i + 1 : Nat) : Int) by omega))), .inr rfl, trivial⟩
  · skip
    have q0 := of_decide_eq_false h0
    (try dsimp only at q0)
    (try simp only [Dat.len, marksC_len] at q0)
    refine c_exit ?_
    refine x_here xx6 ?_
    refine n_of (N' := NN3) nn3 ?_
    refine c_seq fun NN20 nn20 => ?_
    refine c_region fun KK21 kk21 => ?_
    refine n_of (N' := KK21) kk21 ?_
    refine n_of (N' := NN20) nn20 ?_
    refine c_ret ?_
    refine n_of (N' := R0) hR ?_
    have e : i = len := by omega
    subst e
    exact ⟨[], rfl, rfl, rfl⟩

theorem s16 (ps : List (Nat × Nat)) (ss : List Nat) (c : Bool) (n : Int) (h0 : 0 ≤ n) (h1 : n ≤ 900000000) (hn : ps.length ≤ 1048576) (hm : ss.length ≤ 1048576) : SP 16 [arC true ps, ar true ss] [sh 0 1 c, i64 n] [arC true (marksC n ps.length), ar true (marks (n + ps.length) ss.length)] (exi .i64 (n + ps.length + ss.length)) := by
  refine spec_of_codeR (fn := Try.f16) tyOK mixes Try.func16 rfl rfl rfl ⟨.inr rfl, ⟨.inr rfl, rfl⟩⟩ fun hg R0 hR => ?_
  refine c_seq fun NN1 nn1 => ?_
  refine c_region fun KK2 kk2 => ?_
  refine n_of (N' := KK2) kk2 ?_
  refine n_of (N' := NN1) nn1 ?_
  refine c_seq fun NN3 nn3 => ?_
  refine c_region fun KK4 kk4 => ?_
  refine ⟨rfl, _, _, (s48 _ _ (by ((try dsimp only); first | assumption | omega | (simp (disch := omega) only [wr64]; omega))) (by ((try dsimp only); first | assumption | omega | (simp (disch := omega) only [wr64]; omega))) (by ((try dsimp only); first | assumption | omega | (simp (disch := omega) only [wr64]; omega)))), ?_⟩
  refine n_of (N' := KK4) kk4 ?_
  refine n_of (N' := NN3) nn3 ?_
  refine c_seq fun NN5 nn5 => ?_
  refine c_region fun KK6 kk6 => ?_
  refine ⟨rfl, _, _, (s22 _ _ (by ((try dsimp only); first | assumption | omega | (simp (disch := omega) only [wr64]; omega))) (by ((try dsimp only); first | assumption | omega | (simp (disch := omega) only [wr64]; omega))) (by ((try dsimp only); first | assumption | omega | (simp (disch := omega) only [wr64]; omega)))), ?_⟩
  refine n_of (N' := KK6) kk6 ?_
  refine n_of (N' := NN5) nn5 ?_
  refine c_seq fun NN7 nn7 => ?_
  refine c_region fun KK8 kk8 => ?_
  refine n_of (N' := KK8) kk8 ?_
  refine n_of (N' := NN7) nn7 ?_
  refine c_ret ?_
  refine n_of (N' := R0) hR ?_
  exact ⟨[], rfl, rfl, rfl⟩

theorem s17 (o o2 : Bool) (l1 l2 : Nat) (c : Bool) (n : Int) (h0 : 0 ≤ n) (h1 : n ≤ 900000000) (hn : l1 ≤ 1048576) (hm : l2 ≤ 1048576) : SP 17 [arC o (marksC n l1), ar o2 (marks (n + l1) l2)] [sh 0 1 c, i64 n] [arC o (marksC n l1), ar o2 (marks (n + l1) l2)] (exi .i64 (n + l1 + l2)) := by
  refine spec_of_codeR (fn := Try.f17) tyOK mixes Try.func17 rfl rfl rfl ⟨.inl rfl, ⟨.inl rfl, rfl⟩⟩ fun hg R0 hR => ?_
  refine c_seq fun NN1 nn1 => ?_
  refine c_region fun KK2 kk2 => ?_
  refine n_of (N' := KK2) kk2 ?_
  refine n_of (N' := NN1) nn1 ?_
  refine c_seq fun NN3 nn3 => ?_
  refine c_region fun KK4 kk4 => ?_
  refine ⟨rfl, _, _, (s49 _ _ _ (by ((try dsimp only); first | assumption | omega | (simp (disch := omega) only [wr64]; omega))) (by ((try dsimp only); first | assumption | omega | (simp (disch := omega) only [wr64]; omega))) (by ((try dsimp only); first | assumption | omega | (simp (disch := omega) only [wr64]; omega)))), ?_⟩
  refine n_of (N' := KK4) kk4 ?_
  refine n_of (N' := NN3) nn3 ?_
  refine c_seq fun NN5 nn5 => ?_
  refine c_seq fun NN6 nn6 => ?_
  refine c_region fun KK7 kk7 => ?_
  refine n_of (N' := KK7) kk7 ?_
  refine n_of (N' := NN6) nn6 ?_
  refine c_cond rfl (fun h0 => ?_) (fun h0 => ?_)
  · skip
    have q0 := of_decide_eq_true h0
    (try dsimp only at q0)
    (try simp only [Dat.len] at q0)
    refine c_seq fun NN8 nn8 => ?_
    refine c_region fun KK9 kk9 => ?_
    refine n_of (N' := KK9) kk9 ?_
    refine n_of (N' := NN8) nn8 ?_
    refine c_ret ?_
    refine n_of (N' := R0) hR ?_
    (have q := of_decide_eq_true h0; exfalso; omega)
  · skip
    have q0 := of_decide_eq_false h0
    (try dsimp only at q0)
    (try simp only [Dat.len] at q0)
    refine c_skip ?_
    refine n_of (N' := NN5) nn5 ?_
    refine c_seq fun NN10 nn10 => ?_
    refine c_region fun KK11 kk11 => ?_
    refine ⟨rfl, _, _, (s23 _ _ _ (by ((try dsimp only); first | assumption | omega | (simp (disch := omega) only [wr64]; omega))) (by ((try dsimp only); first | assumption | omega | (simp (disch := omega) only [wr64]; omega))) (by ((try dsimp only); first | assumption | omega | (simp (disch := omega) only [wr64]; omega)))), ?_⟩
    refine n_of (N' := KK11) kk11 ?_
    refine n_of (N' := NN10) nn10 ?_
    refine c_seq fun NN12 nn12 => ?_
    refine c_seq fun NN13 nn13 => ?_
    refine c_region fun KK14 kk14 => ?_
    refine n_of (N' := KK14) kk14 ?_
    refine n_of (N' := NN13) nn13 ?_
    refine c_cond rfl (fun h1 => ?_) (fun h1 => ?_)
    · skip
      have q1 := of_decide_eq_true h1
      (try dsimp only at q1)
      (try simp only [Dat.len] at q1)
      refine c_seq fun NN15 nn15 => ?_
      refine c_region fun KK16 kk16 => ?_
      refine n_of (N' := KK16) kk16 ?_
      refine n_of (N' := NN15) nn15 ?_
      refine c_ret ?_
      refine n_of (N' := R0) hR ?_
      (have q := of_decide_eq_true h1; exfalso; omega)
    · skip
      have q1 := of_decide_eq_false h1
      (try dsimp only at q1)
      (try simp only [Dat.len] at q1)
      refine c_skip ?_
      refine n_of (N' := NN12) nn12 ?_
      refine c_seq fun NN17 nn17 => ?_
      refine c_region fun KK18 kk18 => ?_
      refine n_of (N' := KK18) kk18 ?_
      refine n_of (N' := NN17) nn17 ?_
      refine c_ret ?_
      refine n_of (N' := R0) hR ?_
      exact ⟨[], rfl, rfl, rfl⟩

theorem s4 (n : Int) (g s : Nat) : SP 4 [] [i64 n, f32 g, f32 s] [] (exb true) := by
  refine spec_of_codeR (fn := Try.f4) tyOK mixes Try.func4 rfl rfl rfl rfl fun hg R0 hR => ?_
  have hR1 : (gR (okfl n g s) (bld (Fflat g) n.toNat)).length ≤ 48 := gR_len fun hb => (isSh_len (by unfold okfl at hb; simp only [Bool.and_eq_true] at hb; exact hb.2)).1
  have hR2 : (gR (okfl n g s) (bld (fun _ => s) n.toNat)).length ≤ 48 := gR_len fun hb => (isSh_len (by unfold okfl at hb; simp only [Bool.and_eq_true] at hb; exact hb.2)).2
  refine c_seq fun NN1 nn1 => ?_
  refine c_region fun KK2 kk2 => ?_
  refine n_of (N' := KK2) kk2 ?_
  refine n_of (N' := NN1) nn1 ?_
  refine c_seq fun NN3 nn3 => ?_
  refine c_region fun KK4 kk4 => ?_
  refine ⟨rfl, _, _, (s13 _ _ _), ?_⟩
  refine n_of (N' := KK4) kk4 ?_
  refine n_of (N' := NN3) nn3 ?_
  refine c_seq fun NN5 nn5 => ?_
  refine c_region fun KK6 kk6 => ?_
  refine ⟨rfl, _, _, (s14 _ _ _), ?_⟩
  refine n_of (N' := KK6) kk6 ?_
  refine n_of (N' := NN5) nn5 ?_
  refine c_seq fun NN7 nn7 => ?_
  refine c_seq fun NN8 nn8 => ?_
  refine c_region fun KK9 kk9 => ?_
  refine ⟨rfl, _, _, (s15 _ _ _ _ _ _ _), ?_⟩
  refine And.intro (fun h0 => ?_) (fun h0 => ?_)
  · skip
    (first | (cases h0; done) | exact bnn h0 | (have q := of_decide_eq_true h0; exfalso; omega) | exact absurd rfl (ne_of_bneT h0))
  · skip
    refine n_of (N' := KK9) kk9 ?_
    refine n_of (N' := NN8) nn8 ?_
    refine c_cond rfl (fun h1 => ?_) (fun h1 => ?_)
    · skip
      (first | (cases h1; done) | exact bnn h1 | (have q := of_decide_eq_true h1; exfalso; omega) | exact absurd rfl (ne_of_bneT h1))
    · skip
      refine c_skip ?_
      refine n_of (N' := NN7) nn7 ?_
      refine c_seq fun NN10 nn10 => ?_
      refine c_region fun KK11 kk11 => ?_
      refine n_of (N' := KK11) kk11 ?_
      refine n_of (N' := NN10) nn10 ?_
      refine c_seq fun NN12 nn12 => ?_
      refine c_region fun KK13 kk13 => ?_
      refine ⟨rfl, _, _, (s16 _ _ _ _ (by ((try dsimp only); first | assumption | omega | (simp (disch := omega) only [wr64]; omega))) (by ((try dsimp only); first | assumption | omega | (simp (disch := omega) only [wr64]; omega))) (by ((try dsimp only); first | assumption | omega | (simp (disch := omega) only [wr64]; omega))) (by ((try dsimp only); first | assumption | omega | (simp (disch := omega) only [wr64]; omega)))), ?_⟩
      refine n_of (N' := KK13) kk13 ?_
      refine n_of (N' := NN12) nn12 ?_
      refine c_seq fun NN14 nn14 => ?_
      refine c_region fun KK15 kk15 => ?_
      refine n_of (N' := KK15) kk15 ?_
      refine n_of (N' := NN14) nn14 ?_
      refine c_seq fun NN16 nn16 => ?_
      refine c_region fun KK17 kk17 => ?_
      refine ⟨rfl, _, _, (s17 _ _ _ _ _ _ (by ((try dsimp only); first | assumption | omega | (simp (disch := omega) only [wr64]; omega))) (by ((try dsimp only); first | assumption | omega | (simp (disch := omega) only [wr64]; omega))) (by ((try dsimp only); first | assumption | omega | (simp (disch := omega) only [wr64]; omega))) (by ((try dsimp only); first | assumption | omega | (simp (disch := omega) only [wr64]; omega)))), ?_⟩
      refine n_of (N' := KK17) kk17 ?_
      refine n_of (N' := NN16) nn16 ?_
      refine c_seq fun NN18 nn18 => ?_
      refine c_seq fun NN19 nn19 => ?_
      refine c_region fun KK20 kk20 => ?_
      refine n_of (N' := KK20) kk20 ?_
      refine n_of (N' := NN19) nn19 ?_
      refine c_cond rfl (fun h2 => ?_) (fun h2 => ?_)
      · skip
        (first | (cases h2; done) | exact bnn h2 | (have q := of_decide_eq_true h2; exfalso; omega) | exact absurd rfl (ne_of_bneT h2))
      · skip
        have q2 := of_decide_eq_false h2
        (try dsimp only at q2)
        (try simp only [Dat.len] at q2)
        refine c_skip ?_
        refine n_of (N' := NN18) nn18 ?_
        refine c_seq fun NN21 nn21 => ?_
        refine c_seq fun NN22 nn22 => ?_
        refine c_region fun KK23 kk23 => ?_
        refine n_of (N' := KK23) kk23 ?_
        refine n_of (N' := NN22) nn22 ?_
        refine c_cond rfl (fun h3 => ?_) (fun h3 => ?_)
        · skip
          (first | (cases h3; done) | exact bnn h3 | (have q := of_decide_eq_true h3; exfalso; omega) | exact absurd rfl (ne_of_bneT h3))
        · skip
          have q3 := eq_of_bneF h3
          (try dsimp only at q3)
          (try simp only [Dat.len] at q3)
          refine c_skip ?_
          refine n_of (N' := NN21) nn21 ?_
          refine c_seq fun NN24 nn24 => ?_
          refine c_region fun KK25 kk25 => ?_
          refine ⟨rfl, _, _, (s14 _ _ _), ?_⟩
          refine n_of (N' := KK25) kk25 ?_
          refine n_of (N' := NN24) nn24 ?_
          refine c_seq fun NN26 nn26 => ?_
          refine c_seq fun NN27 nn27 => ?_
          refine c_region fun KK28 kk28 => ?_
          refine ⟨rfl, _, _, (s15 _ _ _ _ _ _ _), ?_⟩
          refine And.intro (fun h4 => ?_) (fun h4 => ?_)
          · skip
            (first | (cases h4; done) | exact bnn h4 | (have q := of_decide_eq_true h4; exfalso; omega) | exact absurd rfl (ne_of_bneT h4))
          · skip
            refine n_of (N' := KK28) kk28 ?_
            refine n_of (N' := NN27) nn27 ?_
            refine c_cond rfl (fun h5 => ?_) (fun h5 => ?_)
            · skip
              (first | (cases h5; done) | exact bnn h5 | (have q := of_decide_eq_true h5; exfalso; omega) | exact absurd rfl (ne_of_bneT h5))
            · skip
              refine c_skip ?_
              refine n_of (N' := NN26) nn26 ?_
              refine c_seq fun NN29 nn29 => ?_
              refine c_region fun KK30 kk30 => ?_
              refine n_of (N' := KK30) kk30 ?_
              refine n_of (N' := NN29) nn29 ?_
              refine c_seq fun NN31 nn31 => ?_
              refine c_region fun KK32 kk32 => ?_
              refine ⟨rfl, _, _, (s17 _ _ _ _ _ _ (by ((try dsimp only); first | assumption | omega | (simp (disch := omega) only [wr64]; omega))) (by ((try dsimp only); first | assumption | omega | (simp (disch := omega) only [wr64]; omega))) (by ((try dsimp only); first | assumption | omega | (simp (disch := omega) only [wr64]; omega))) (by ((try dsimp only); first | assumption | omega | (simp (disch := omega) only [wr64]; omega)))), ?_⟩
              refine n_of (N' := KK32) kk32 ?_
              refine n_of (N' := NN31) nn31 ?_
              refine c_seq fun NN33 nn33 => ?_
              refine c_seq fun NN34 nn34 => ?_
              refine c_region fun KK35 kk35 => ?_
              refine n_of (N' := KK35) kk35 ?_
              refine n_of (N' := NN34) nn34 ?_
              refine c_cond rfl (fun h6 => ?_) (fun h6 => ?_)
              · skip
                (first | (cases h6; done) | exact bnn h6 | (have q := of_decide_eq_true h6; exfalso; omega) | exact absurd rfl (ne_of_bneT h6))
              · skip
                have q6 := of_decide_eq_false h6
                (try dsimp only at q6)
                (try simp only [Dat.len] at q6)
                refine c_skip ?_
                refine n_of (N' := NN33) nn33 ?_
                refine c_seq fun NN36 nn36 => ?_
                refine c_seq fun NN37 nn37 => ?_
                refine c_region fun KK38 kk38 => ?_
                refine n_of (N' := KK38) kk38 ?_
                refine n_of (N' := NN37) nn37 ?_
                refine c_cond rfl (fun h7 => ?_) (fun h7 => ?_)
                · skip
                  (first | (cases h7; done) | exact bnn h7 | (have q := of_decide_eq_true h7; exfalso; omega) | exact absurd rfl (ne_of_bneT h7))
                · skip
                  have q7 := eq_of_bneF h7
                  (try dsimp only at q7)
                  (try simp only [Dat.len] at q7)
                  refine c_skip ?_
                  refine n_of (N' := NN36) nn36 ?_
                  refine c_seq fun NN39 nn39 => ?_
                  refine c_region fun KK40 kk40 => ?_
                  refine n_of (N' := KK40) kk40 ?_
                  refine n_of (N' := NN39) nn39 ?_
                  refine c_ret ?_
                  refine n_of (N' := R0) hR ?_
                  exact ⟨[], rfl, rfl, rfl⟩

end
end Go.AX
