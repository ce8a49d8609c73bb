/- What the functions of this program do, one contract a function, by that walk: each under what its own statement says. -/
import Derived.Test.YtfhgggjpdimaoaaC4
set_option linter.unusedVariables false
set_option linter.unusedSimpArgs false
namespace Go.AX
noncomputable section
open Go.RowKit Go.Proofs
set_option maxRecDepth 100000
set_option maxHeartbeats 4000000
open Go

/-! Whirls -/
def areW (xs : List (Nat × Nat × Nat)) : Bool := decide ((xs.length : Int) ≤ 32) && xs.all finW
theorem finW_1 {p : Nat × Nat × Nat} (h : finC (p.1, p.2.1) = false) : finW p = false := by unfold finW; rw [h]; rfl
theorem finW_2 {p : Nat × Nat × Nat} (h : finB p.2.2 = false) : finW p = false := by unfold finW; rw [h, Bool.and_false]
theorem finW_3 {p : Nat × Nat × Nat} (h : finC (p.1, p.2.1) = true) (h2 : finB p.2.2 = true) : finW p = true := by unfold finW; rw [h, h2]; rfl
theorem areW_len {xs : List (Nat × Nat × Nat)} (h : areW xs = true) : xs.length ≤ 32 := by
  unfold areW at h
  simp only [Bool.and_eq_true, decide_eq_true_eq] at h
  omega

theorem s102 (x y s : Nat) : SP 102 [] [.agg [.cx .f32 x y, .fl .f32 s]] [] (exb (!finW (x, y, s))) := by
  refine spec_of_codeR (fn := Try.f102) tyOK mixes Try.func102 rfl rfl rfl rfl fun hg R0 hR => ?_
  refine c_seq fun NN1 nn1 => ?_
  refine c_region fun KK2 kk2 => ?_
  refine n_of (N' := KK2) kk2 ?_
  refine n_of (N' := NN1) nn1 ?_
  refine c_seq fun NN3 nn3 => ?_
  refine c_region fun KK4 kk4 => ?_
  refine ⟨rfl, _, _, (s103 _ _), ?_⟩
  refine And.intro (fun h0 => ?_) (fun h0 => ?_)
  · skip
    refine n_of (N' := KK4) kk4 ?_
    refine n_of (N' := NN3) nn3 ?_
    refine c_ret ?_
    refine n_of (N' := R0) hR ?_
    have c := not_t h0
    exact ⟨[], rfl, rfl, congrArg exb (by simp [finW, c])⟩
  · skip
    refine ⟨rfl, _, _, (s38 _), ?_⟩
    refine n_of (N' := KK4) kk4 ?_
    refine n_of (N' := NN3) nn3 ?_
    refine c_ret ?_
    refine n_of (N' := R0) hR ?_
    have c := not_f h0
    exact ⟨[], rfl, rfl, congrArg exb (by simp [finW, c])⟩

theorem s107 (o : Bool) (xs : List (Nat × Nat × Nat)) : SP 107 [arW o xs] [.one (.sl 0), .one (.fn 102 [] [])] [arW o xs] (exi .i64 (fi (fun x => (!finW x)) xs)) := by
  refine spec_of_codeR (fn := Try.f107) tyOK mixes Try.func107 rfl rfl rfl ⟨.inl rfl, rfl⟩ fun hg R0 hR => ?_
  have hlen : xs.length ≤ maxLen := hg.1.1.1
  have hml : maxLen = 9223372036854775807 := by decide
  refine c_seq fun NN1 nn1 => ?_
  refine c_region fun KK2 kk2 => ?_
  refine n_of (N' := KK2) kk2 ?_
  refine n_of (N' := NN1) nn1 ?_
  refine c_seq fun NN3 nn3 => ?_
  refine c_seq fun NN4 nn4 => ?_
  refine c_region fun KK5 kk5 => ?_
  refine n_of (N' := KK5) kk5 ?_
  refine n_of (N' := NN4) nn4 ?_
  refine c_block fun XX6 xx6 => ?_
  refine loop_keep [] [0, 1, 7] (ι := { i : Nat // i ≤ xs.length ∧ ∀ j, j < i → (!finW (xs.getD j (0, 0, 0))) = false }) (fun i => [(8, exi .i64 i.1)]) (fun i => []) (fun i => xs.length - i.1) ⟨0, Nat.zero_le _, fun j hj => absurd hj (Nat.not_lt_zero j)⟩ trivial rfl ?_
  refine ⟨?_, ?_, ?_⟩
  · exact ⟨.inr rfl, trivial⟩
  · exact ⟨rfl, trivial⟩
  refine fun ⟨i, hi, hx⟩ NL7 nl7 => ?_
  refine c_norm rfl rfl ?_
  refine c_seq fun NN8 nn8 => ?_
  refine c_region fun KK9 kk9 => ?_
  refine n_of (N' := KK9) kk9 ?_
  refine n_of (N' := NN8) nn8 ?_
  refine c_seq fun NN10 nn10 => ?_
  refine c_cond rfl (fun h0 => ?_) (fun h0 => ?_)
  · skip
    have q0 := of_decide_eq_true h0
    (try dsimp only at q0)
    (try simp only [Dat.len] at q0)
    refine c_skip ?_
    refine n_of (N' := NN10) nn10 ?_
    refine c_seq fun NN11 nn11 => ?_
    refine c_block fun XX12 xx12 => ?_
    refine c_seq fun NN13 nn13 => ?_
    refine c_region fun KK14 kk14 => ?_
    refine n_of (N' := KK14) kk14 ?_
    refine n_of (N' := NN13) nn13 ?_
    refine c_seq fun NN15 nn15 => ?_
    refine c_region fun KK16 kk16 => ?_
    refine And.intro ?_ ?_
    · ((try dsimp only); (try simp only [Dat.len, Int.toNat_natCast]); omega)   -- 0 index
    refine And.intro ?_ ?_
    · ((try dsimp only); (try simp only [Dat.len, Int.toNat_natCast]); omega)   -- 1 load
    refine ⟨rfl, _, _, s102 _ _ _, ?_⟩
    refine n_of (N' := KK16) kk16 ?_
    refine n_of (N' := NN15) nn15 ?_
    refine c_cond rfl (fun h1 => ?_) (fun h1 => ?_)
    · skip
      refine c_seq fun NN17 nn17 => ?_
      refine c_region fun KK18 kk18 => ?_
      refine n_of (N' := KK18) kk18 ?_
      refine n_of (N' := NN17) nn17 ?_
      refine c_ret ?_
      refine n_of (N' := R0) hR ?_
      exact ⟨[], rfl, rfl, congrArg (exi .i64) (fi_at (0, 0, 0) (i := i) (by omega) h1 hx).symm⟩
    · skip
      refine c_skip ?_
      refine n_of (N' := NN11) nn11 ?_
      refine c_region fun KK19 kk19 => ?_
      refine n_of (N' := KK19) kk19 ?_
      refine n_of (N' := NL7) nl7 ?_
      refine ⟨⟨i + 1, by omega, fun j hj => (Nat.lt_or_eq_of_le (Nat.le_of_lt_succ hj)).elim (hx j) (fun e => by subst e; exact h1)⟩, ?_, [0], rfl, ?_, ?_⟩
      · (dsimp only; omega)
      · exact LEq.eq ⟨rfl, trivial⟩
      · exact ⟨.inr (congrArg (exi .i64) (wr64 (n := (i : Int) + 1) (by omega) (by omega))), .inr rfl, .inr rfl, .inr rfl, trivial⟩
  · skip
    have q0 := of_decide_eq_false h0
    (try dsimp only at q0)
    (try simp only [Dat.len] at q0)
    refine c_exit ?_
    refine x_here xx6 ?_
    refine n_of (N' := NN3) nn3 ?_
    refine c_seq fun NN20 nn20 => ?_
    refine c_region fun KK21 kk21 => ?_
    refine n_of (N' := KK21) kk21 ?_
    refine n_of (N' := NN20) nn20 ?_
    refine c_ret ?_
    refine n_of (N' := R0) hR ?_
    exact ⟨[], rfl, rfl, congrArg (exi .i64) (fi_none (0, 0, 0) fun j hj => hx j (by omega)).symm⟩

theorem s101 (o : Bool) (xs : List (Nat × Nat × Nat)) : SP 101 [arW o xs] [.one (.sl 0), .one (.fn 102 [] [])] [arW o xs] (exb (xs.any fun x => (!finW x))) := by
  refine spec_of_codeR (fn := Try.f101) tyOK mixes Try.func101 rfl rfl rfl ⟨.inl rfl, rfl⟩ fun hg R0 hR => ?_
  refine c_seq fun NN1 nn1 => ?_
  refine c_region fun KK2 kk2 => ?_
  refine n_of (N' := KK2) kk2 ?_
  refine n_of (N' := NN1) nn1 ?_
  refine c_seq fun NN3 nn3 => ?_
  refine c_region fun KK4 kk4 => ?_
  refine ⟨rfl, _, _, (s107 _ _), ?_⟩
  refine n_of (N' := KK4) kk4 ?_
  refine n_of (N' := NN3) nn3 ?_
  refine c_ret ?_
  refine n_of (N' := R0) hR ?_
  exact ⟨[], rfl, rfl, congrArg exb fi_ge⟩

theorem s97 (o : Bool) (xs : List (Nat × Nat × Nat)) : SP 97 [arW o xs] [.one (.sl 0)] [arW o xs] (exb (xs.all finW)) := by
  refine spec_of_codeR (fn := Try.f97) tyOK mixes Try.func97 rfl rfl rfl ⟨.inl rfl, rfl⟩ fun hg R0 hR => ?_
  refine c_seq fun NN1 nn1 => ?_
  refine c_region fun KK2 kk2 => ?_
  refine n_of (N' := KK2) kk2 ?_
  refine n_of (N' := NN1) nn1 ?_
  refine c_seq fun NN3 nn3 => ?_
  refine c_region fun KK4 kk4 => ?_
  refine ⟨rfl, _, _, (s101 _ _), ?_⟩
  refine n_of (N' := KK4) kk4 ?_
  refine n_of (N' := NN3) nn3 ?_
  refine c_ret ?_
  refine n_of (N' := R0) hR ?_
  exact ⟨[], rfl, rfl, congrArg exb (any_all finW xs)⟩

theorem s87 (o : Bool) (xs : List (Nat × Nat × Nat)) : SP 87 [arW o xs] [.one (.sl 0)] [arW o xs] (exb (areW xs)) := by
  refine spec_of_codeR (fn := Try.f87) tyOK mixes Try.func87 rfl rfl rfl ⟨.inl rfl, rfl⟩ fun hg R0 hR => ?_
  refine c_seq fun NN1 nn1 => ?_
  refine c_region fun KK2 kk2 => ?_
  refine n_of (N' := KK2) kk2 ?_
  refine n_of (N' := NN1) nn1 ?_
  refine c_seq fun NN3 nn3 => ?_
  refine c_region fun KK4 kk4 => ?_
  refine And.intro (fun h0 => ?_) (fun h0 => ?_)
  · skip
    have q0 := of_decide_eq_true h0
    (try dsimp only at q0)
    (try simp only [Dat.len] at q0)
    refine ⟨rfl, _, _, (s97 _ _), ?_⟩
    refine n_of (N' := KK4) kk4 ?_
    refine n_of (N' := NN3) nn3 ?_
    refine c_ret ?_
    refine n_of (N' := R0) hR ?_
    refine ⟨[], rfl, rfl, congrArg exb ?_⟩
    unfold areW
    have c := of_decide_eq_true h0
    (try simp only [Dat.len] at c)
    rw [decide_eq_true (show (xs.length : Int) ≤ 32 by omega)]; rfl
  · skip
    have q0 := of_decide_eq_false h0
    (try dsimp only at q0)
    (try simp only [Dat.len] at q0)
    refine n_of (N' := KK4) kk4 ?_
    refine n_of (N' := NN3) nn3 ?_
    refine c_ret ?_
    refine n_of (N' := R0) hR ?_
    refine ⟨[], rfl, rfl, congrArg exb ?_⟩
    unfold areW
    have c := of_decide_eq_false h0
    (try simp only [Dat.len] at c)
    rw [decide_eq_false (show ¬ (xs.length : Int) ≤ 32 by omega)]; rfl

theorem s82 (o : Bool) (xs : List (Nat × Nat × Nat)) : SP 82 [arW o xs] [.one (.sl 0)] [arW o xs] (exb (areW xs)) := by
  refine spec_of_codeR (fn := Try.f82) tyOK mixes Try.func82 rfl rfl rfl ⟨.inl rfl, rfl⟩ fun hg R0 hR => ?_
  have hlen : xs.length ≤ maxLen := hg.1.1.1
  have hml : maxLen = 9223372036854775807 := by decide
  refine c_seq fun NN1 nn1 => ?_
  refine c_region fun KK2 kk2 => ?_
  refine n_of (N' := KK2) kk2 ?_
  refine n_of (N' := NN1) nn1 ?_
  refine c_seq fun NN3 nn3 => ?_
  refine c_seq fun NN4 nn4 => ?_
  refine c_region fun KK5 kk5 => ?_
  refine n_of (N' := KK5) kk5 ?_
  refine n_of (N' := NN4) nn4 ?_
  refine c_block fun XX6 xx6 => ?_
  refine loop_keep [] [0] (ι := { i : Nat // i ≤ xs.length ∧ ∀ j, j < i → finW (xs.getD j (0, 0, 0)) = true }) (fun i => [(3, exi .i64 i.1)]) (fun i => []) (fun i => xs.length - i.1) ⟨0, Nat.zero_le _, fun j hj => absurd hj (Nat.not_lt_zero j)⟩ trivial rfl ?_
  refine ⟨?_, ?_, ?_⟩
  · exact ⟨.inr rfl, trivial⟩
  · exact ⟨rfl, trivial⟩
  refine fun ⟨i, hi, hx⟩ NL7 nl7 => ?_
  refine c_norm rfl rfl ?_
  refine c_seq fun NN8 nn8 => ?_
  refine c_seq fun NN9 nn9 => ?_
  refine c_region fun KK10 kk10 => ?_
  refine And.intro (fun h0 => ?_) (fun h0 => ?_)
  · skip
    have q0 := of_decide_eq_true h0
    (try dsimp only at q0)
    (try simp only [Dat.len] at q0)
    refine n_of (N' := KK10) kk10 ?_
    refine n_of (N' := NN9) nn9 ?_
    refine c_cond rfl (fun h1 => ?_) (fun h1 => ?_)
    · skip
      refine c_skip ?_
      refine n_of (N' := NN8) nn8 ?_
      refine c_seq fun NN11 nn11 => ?_
      refine c_block fun XX12 xx12 => ?_
      refine c_seq fun NN13 nn13 => ?_
      refine c_region fun KK14 kk14 => ?_
      refine And.intro ?_ ?_
      · ((try dsimp only); (try simp only [Dat.len, Int.toNat_natCast]); omega)   -- 0 index
      refine And.intro ?_ ?_
      · ((try dsimp only); (try simp only [Dat.len, Int.toNat_natCast]); omega)   -- 1 load
      refine ⟨rfl, _, _, s88 _ _, ?_⟩
      refine And.intro (fun h2 => ?_) (fun h2 => ?_)
      · skip
        refine n_of (N' := KK14) kk14 ?_
        refine n_of (N' := NN13) nn13 ?_
        refine c_cond rfl (fun _ => ?_) (fun h => nomatch h)
        refine c_seq fun NN15 nn15 => ?_
        refine c_region fun KK16 kk16 => ?_
        refine n_of (N' := KK16) kk16 ?_
        refine n_of (N' := NN15) nn15 ?_
        refine c_ret ?_
        refine n_of (N' := R0) hR ?_
        refine ⟨[], rfl, rfl, congrArg exb ?_⟩
        unfold areW
        rw [all_not (0, 0, 0) (i := i) (by omega) (finW_1 (not_t h2))]; simp
      · skip
        refine And.intro ?_ ?_
        · ((try dsimp only); (try simp only [Dat.len, Int.toNat_natCast]); omega)   -- 2 index
        refine And.intro ?_ ?_
        · ((try dsimp only); (try simp only [Dat.len, Int.toNat_natCast]); omega)   -- 3 load
        refine ⟨rfl, _, _, s64 _, ?_⟩
        refine n_of (N' := KK14) kk14 ?_
        refine n_of (N' := NN13) nn13 ?_
        refine c_cond rfl (fun h3 => ?_) (fun h3 => ?_)
        · skip
          refine c_seq fun NN17 nn17 => ?_
          refine c_region fun KK18 kk18 => ?_
          refine n_of (N' := KK18) kk18 ?_
          refine n_of (N' := NN17) nn17 ?_
          refine c_ret ?_
          refine n_of (N' := R0) hR ?_
          refine ⟨[], rfl, rfl, congrArg exb ?_⟩
          unfold areW
          rw [all_not (0, 0, 0) (i := i) (by omega) (finW_2 (not_t h3))]; simp
        · skip
          refine c_skip ?_
          refine n_of (N' := NN11) nn11 ?_
          refine c_region fun KK19 kk19 => ?_
          refine n_of (N' := KK19) kk19 ?_
          refine n_of (N' := NL7) nl7 ?_
          refine ⟨⟨i + 1, by omega, fun j hj => (Nat.lt_or_eq_of_le (Nat.le_of_lt_succ hj)).elim (hx j) (fun e => by subst e; exact (finW_3 (not_f h2) (not_f h3)))⟩, ?_, [0], rfl, ?_, ?_⟩
          · (dsimp only; omega)
          · exact LEq.eq ⟨rfl, trivial⟩
          · exact ⟨.inr (congrArg (exi .i64) (wr64 (n := (i : Int) + 1) (by omega) (by omega))), .inr rfl, trivial⟩
    · skip
      refine c_exit ?_
      refine x_here xx6 ?_
      refine n_of (N' := NN3) nn3 ?_
      refine c_seq fun NN20 nn20 => ?_
      refine c_region fun KK21 kk21 => ?_
      refine n_of (N' := KK21) kk21 ?_
      refine n_of (N' := NN20) nn20 ?_
      refine c_ret ?_
      refine n_of (N' := R0) hR ?_
      refine ⟨[], rfl, rfl, congrArg exb ?_⟩
      unfold areW
      have c := of_decide_eq_false h1
      (try simp only [Dat.len] at c)
      (try simp only [Dat.len])
      refine (decide_eq_false (by omega)).trans ?_
      rw [decide_eq_false (show ¬ (xs.length : Int) ≤ 32 by omega)]; rfl
  · skip
    have q0 := of_decide_eq_false h0
    (try dsimp only at q0)
    (try simp only [Dat.len] at q0)
    refine n_of (N' := KK10) kk10 ?_
    refine n_of (N' := NN9) nn9 ?_
    refine c_cond rfl (fun h => nomatch h) (fun _ => ?_)
    refine c_exit ?_
    refine x_here xx6 ?_
    refine n_of (N' := NN3) nn3 ?_
    refine c_seq fun NN22 nn22 => ?_
    refine c_region fun KK23 kk23 => ?_
    refine n_of (N' := KK23) kk23 ?_
    refine n_of (N' := NN22) nn22 ?_
    refine c_ret ?_
    refine n_of (N' := R0) hR ?_
    refine ⟨[], rfl, rfl, congrArg exb ?_⟩
    unfold areW
    have e : i = xs.length := by omega
    subst e
    rw [all_of (0, 0, 0) hx, Bool.and_true]; rfl

theorem s61 (xs : List (Nat × Nat × Nat)) : SP 61 [arW true xs] [.one (.sl 0)] [.dead, arW true (gR (areW xs) xs)] (.tup [.one (.sl 1), .one (.ex (.bool (areW xs)))]) := by
  refine spec_of_codeR (fn := Try.f61) tyOK mixes Try.func61 rfl rfl rfl ⟨.inr rfl, rfl⟩ fun hg R0 hR => ?_
  refine c_seq fun NN1 nn1 => ?_
  refine c_region fun KK2 kk2 => ?_
  refine n_of (N' := KK2) kk2 ?_
  refine n_of (N' := NN1) nn1 ?_
  refine c_seq fun NN3 nn3 => ?_
  refine c_seq fun NN4 nn4 => ?_
  refine c_region fun KK5 kk5 => ?_
  refine ⟨rfl, _, _, s87 _ _, ?_⟩
  refine n_of (N' := KK5) kk5 ?_
  refine n_of (N' := NN4) nn4 ?_
  refine c_cond rfl (fun h0 => ?_) (fun h0 => ?_)
  · skip
    refine c_seq fun NN6 nn6 => ?_
    refine c_region fun KK7 kk7 => ?_
    refine n_of (N' := KK7) kk7 ?_
    refine n_of (N' := NN6) nn6 ?_
    refine c_ret ?_
    refine n_of (N' := R0) hR ?_
    have ok : areW xs = false := not_t h0
    exact ⟨[.nil 80 (.w []), .drop 0], rfl, rfl, by (rw [ok]; try rfl), by (rw [ok]; try rfl)⟩
  · skip
    refine c_skip ?_
    refine n_of (N' := NN3) nn3 ?_
    refine c_seq fun NN8 nn8 => ?_
    refine c_region fun KK9 kk9 => ?_
    refine n_of (N' := KK9) kk9 ?_
    refine n_of (N' := NN8) nn8 ?_
    refine c_ret ?_
    refine n_of (N' := R0) hR ?_
    have ok : areW xs = true := not_f h0
    exact ⟨[.mv 0], rfl, by (rw [ok]; try rfl), by rw [ok]⟩

theorem s58 (xs : List (Nat × Nat × Nat)) : SP 58 [arW true xs] [.one (.sl 0)] [.dead, arW true (gR (areW xs) xs)] (.tup [.one (.sl 1), .one (.ex (.bool (areW xs)))]) := by
  refine spec_of_codeR (fn := Try.f58) tyOK mixes Try.func58 rfl rfl rfl ⟨.inr rfl, rfl⟩ fun hg R0 hR => ?_
  refine c_seq fun NN1 nn1 => ?_
  refine c_region fun KK2 kk2 => ?_
  refine n_of (N' := KK2) kk2 ?_
  refine n_of (N' := NN1) nn1 ?_
  refine c_seq fun NN3 nn3 => ?_
  refine c_seq fun NN4 nn4 => ?_
  refine c_region fun KK5 kk5 => ?_
  refine ⟨rfl, _, _, s82 _ _, ?_⟩
  refine n_of (N' := KK5) kk5 ?_
  refine n_of (N' := NN4) nn4 ?_
  refine c_cond rfl (fun h0 => ?_) (fun h0 => ?_)
  · skip
    refine c_seq fun NN6 nn6 => ?_
    refine c_region fun KK7 kk7 => ?_
    refine n_of (N' := KK7) kk7 ?_
    refine n_of (N' := NN6) nn6 ?_
    refine c_ret ?_
    refine n_of (N' := R0) hR ?_
    have ok : areW xs = false := not_t h0
    exact ⟨[.nil 80 (.w []), .drop 0], rfl, rfl, by (rw [ok]; try rfl), by (rw [ok]; try rfl)⟩
  · skip
    refine c_skip ?_
    refine n_of (N' := NN3) nn3 ?_
    refine c_seq fun NN8 nn8 => ?_
    refine c_region fun KK9 kk9 => ?_
    refine n_of (N' := KK9) kk9 ?_
    refine n_of (N' := NN8) nn8 ?_
    refine c_ret ?_
    refine n_of (N' := R0) hR ?_
    have ok : areW xs = true := not_f h0
    exact ⟨[.mv 0], rfl, by (rw [ok]; try rfl), by rw [ok]⟩

def Fpoly (r s c k : Nat) : Nat × Nat × Nat := ((Fring r c k).1, (Fring r c k).2, s)
def okpo (n : Int) (r s : Nat) : Bool := (inB n 1 32 && above r) && areW (bld (Fpoly r s n.toNat) n.toNat)

theorem s25 (n : Int) (r s : Nat) : SP 25 [] [i64 n, f32 r, f32 s] [arW true (gR (okpo n r s) (bld (Fpoly r s n.toNat) n.toNat))] (.tup [.one (.sl 0), .one (.ex (.bool (okpo n r s)))]) := by
  refine spec_of_codeR (fn := Try.f25) tyOK mixes Try.func25 rfl rfl rfl rfl fun hg R0 hR => ?_
  refine c_seq fun NN1 nn1 => ?_
  refine c_region fun KK2 kk2 => ?_
  refine n_of (N' := KK2) kk2 ?_
  refine n_of (N' := NN1) nn1 ?_
  refine c_seq fun NN3 nn3 => ?_
  refine c_seq fun NN4 nn4 => ?_
  refine c_region fun KK5 kk5 => ?_
  refine ⟨rfl, _, _, (s37 _ _ _), ?_⟩
  refine And.intro (fun h0 => ?_) (fun h0 => ?_)
  · skip
    refine n_of (N' := KK5) kk5 ?_
    refine n_of (N' := NN4) nn4 ?_
    refine c_cond rfl (fun _ => ?_) (fun h => nomatch h)
    refine c_seq fun NN6 nn6 => ?_
    refine c_region fun KK7 kk7 => ?_
    refine n_of (N' := KK7) kk7 ?_
    refine n_of (N' := NN6) nn6 ?_
    refine c_ret ?_
    refine n_of (N' := R0) hR ?_
    have ok : okpo n r s = false := by unfold okpo; rw [not_t h0]; rfl
    exact ⟨[.nil 80 (.w [])], rfl, rfl, by (rw [ok]; try rfl), by (rw [ok]; try rfl)⟩
  · skip
    have hn := inB_le (not_f h0)
    obtain ⟨N, rfl⟩ : ∃ N : Nat, n = N := ⟨n.toNat, by omega⟩
    refine ⟨rfl, _, _, s44 _ _, ?_⟩
    refine n_of (N' := KK5) kk5 ?_
    refine n_of (N' := NN4) nn4 ?_
    refine c_cond rfl (fun h1 => ?_) (fun h1 => ?_)
    · skip
      refine c_seq fun NN8 nn8 => ?_
      refine c_region fun KK9 kk9 => ?_
      refine n_of (N' := KK9) kk9 ?_
      refine n_of (N' := NN8) nn8 ?_
      refine c_ret ?_
      refine n_of (N' := R0) hR ?_
      have ok : okpo N r s = false := by unfold okpo; rw [not_t h1]; simp
      exact ⟨[.nil 80 (.w [])], rfl, rfl, by (rw [ok]; try rfl), by (rw [ok]; try rfl)⟩
    · skip
      refine c_skip ?_
      refine n_of (N' := NN3) nn3 ?_
      refine c_seq fun NN10 nn10 => ?_
      refine c_region fun KK11 kk11 => ?_
      refine n_of (N' := KK11) kk11 ?_
      refine n_of (N' := NN10) nn10 ?_
      refine c_seq fun NN12 nn12 => ?_
      refine c_seq fun NN13 nn13 => ?_
      refine c_region fun KK14 kk14 => ?_
      refine n_of (N' := KK14) kk14 ?_
      refine n_of (N' := NN13) nn13 ?_
      refine c_block fun XX15 xx15 => ?_
      refine loop_keep [] [0, 1, 2, 20] (ι := { i : Nat // i ≤ N }) (fun i => [(21, exi .i64 i.1), (8, one (.sl 1))]) (fun i => [(1, arW true (bld (Fpoly r s N) i.1))]) (fun i => N - i.1) ⟨0, Nat.zero_le _⟩ trivial rfl ?_
      refine ⟨?_, ?_, ?_⟩
      · exact ⟨.inr rfl, .inr rfl, trivial⟩
      · exact ⟨rfl, rfl, trivial⟩
      refine fun ⟨i, hi⟩ NL16 nl16 => ?_
      refine c_norm rfl rfl ?_
      refine c_seq fun NN17 nn17 => ?_
      refine c_region fun KK18 kk18 => ?_
      refine n_of (N' := KK18) kk18 ?_
      refine n_of (N' := NN17) nn17 ?_
      refine c_seq fun NN19 nn19 => ?_
      refine c_cond rfl (fun h2 => ?_) (fun h2 => ?_)
      · skip
        have q2 := of_decide_eq_true h2
        (try dsimp only at q2)
        (try simp only [Dat.len, bld_len, List.length_cons, List.length_nil] at q2)
        refine c_skip ?_
        refine n_of (N' := NN19) nn19 ?_
        refine c_seq fun NN20 nn20 => ?_
        refine c_block fun XX21 xx21 => ?_
        refine c_seq fun NN22 nn22 => ?_
        refine c_region fun KK23 kk23 => ?_
        refine n_of (N' := KK23) kk23 ?_
        refine n_of (N' := NN22) nn22 ?_
        refine c_region fun KK24 kk24 => ?_
        refine ⟨rfl, _, _, s60 _ _ (phOK (k := i) (c := N) (by omega) (by omega)), ?_⟩
        refine ⟨rfl, _, _, (s59 _ _ _), ?_⟩
        refine And.intro ?_ ?_
        · (refine ⟨?_, by decide⟩; (try dsimp only); (try simp only [Dat.len, Int.toNat_natCast, bld_len, List.length_cons, List.length_nil]); omega)   -- 0 append
        refine n_of (N' := KK24) kk24 ?_
        refine n_of (N' := NN20) nn20 ?_
        refine c_region fun KK25 kk25 => ?_
        refine n_of (N' := KK25) kk25 ?_
        refine n_of (N' := NL16) nl16 ?_
        refine ⟨⟨i + 1, by omega⟩, ?_, [0, 1], rfl, ?_, ?_⟩
        · (dsimp only; omega)
        · exact LEq.eq ⟨rfl, rfl, trivial⟩
        · exact ⟨.inr (congrArg (exi .i64) (wr64 (n := (i : Int) + 1) (by omega) (by omega))), .inr rfl, .inr rfl, .inr rfl, .inr rfl, .inr rfl, trivial⟩
      · skip
        have q2 := of_decide_eq_false h2
        (try dsimp only at q2)
        (try simp only [Dat.len, bld_len, List.length_cons, List.length_nil] at q2)
        refine c_exit ?_
        refine x_here xx15 ?_
        refine n_of (N' := NN12) nn12 ?_
        refine c_seq fun NN26 nn26 => ?_
        refine c_region fun KK27 kk27 => ?_
        refine ⟨rfl, _, _, s61 _, ?_⟩
        refine n_of (N' := KK27) kk27 ?_
        refine n_of (N' := NN26) nn26 ?_
        refine c_ret ?_
        refine n_of (N' := R0) hR ?_
        have e : i = N := by omega
        subst e
        have ok : okpo (i : Int) r s = areW (bld (Fpoly r s i) i) := by unfold okpo; rw [not_f h0, not_f h1]; rfl
        exact ⟨[], rfl, by (rw [ok]; try rfl), by rw [ok]⟩

theorem s24 (n : Int) (r s : Nat) : SP 24 [] [i64 n, f32 r, f32 s] [arW true (gR (okpo n r s) (bld (Fpoly r s n.toNat) n.toNat))] (.tup [.one (.sl 0), .one (.ex (.bool (okpo n r s)))]) := by
  refine spec_of_codeR (fn := Try.f24) tyOK mixes Try.func24 rfl rfl rfl rfl fun hg R0 hR => ?_
  refine c_seq fun NN1 nn1 => ?_
  refine c_region fun KK2 kk2 => ?_
  refine n_of (N' := KK2) kk2 ?_
  refine n_of (N' := NN1) nn1 ?_
  refine c_seq fun NN3 nn3 => ?_
  refine c_seq fun NN4 nn4 => ?_
  refine c_region fun KK5 kk5 => ?_
  refine ⟨rfl, _, _, (s41 _ _ _), ?_⟩
  refine And.intro (fun h0 => ?_) (fun h0 => ?_)
  · skip
    refine n_of (N' := KK5) kk5 ?_
    refine n_of (N' := NN4) nn4 ?_
    refine c_cond rfl (fun _ => ?_) (fun h => nomatch h)
    refine c_seq fun NN6 nn6 => ?_
    refine c_region fun KK7 kk7 => ?_
    refine n_of (N' := KK7) kk7 ?_
    refine n_of (N' := NN6) nn6 ?_
    refine c_ret ?_
    refine n_of (N' := R0) hR ?_
    have ok : okpo n r s = false := by unfold okpo; rw [not_t h0]; rfl
    exact ⟨[.nil 80 (.w [])], rfl, rfl, by (rw [ok]; try rfl), by (rw [ok]; try rfl)⟩
  · skip
    refine ⟨rfl, _, _, (s42 _), ?_⟩
    refine n_of (N' := KK5) kk5 ?_
    refine n_of (N' := NN4) nn4 ?_
    refine c_cond rfl (fun h1 => ?_) (fun h1 => ?_)
    · skip
      refine c_seq fun NN8 nn8 => ?_
      refine c_region fun KK9 kk9 => ?_
      refine n_of (N' := KK9) kk9 ?_
      refine n_of (N' := NN8) nn8 ?_
      refine c_ret ?_
      refine n_of (N' := R0) hR ?_
      have ok : okpo n r s = false := by unfold okpo; rw [not_t h1]; simp
      exact ⟨[.nil 80 (.w [])], rfl, rfl, by (rw [ok]; try rfl), by (rw [ok]; try rfl)⟩
    · skip
      have hn := inB_le (not_f h0)
      obtain ⟨N, rfl⟩ : ∃ N : Nat, n = N := ⟨n.toNat, by omega⟩
      refine c_skip ?_
      refine n_of (N' := NN3) nn3 ?_
      refine c_seq fun NN10 nn10 => ?_
      refine c_region fun KK11 kk11 => ?_
      refine n_of (N' := KK11) kk11 ?_
      refine n_of (N' := NN10) nn10 ?_
      refine c_seq fun NN12 nn12 => ?_
      refine c_seq fun NN13 nn13 => ?_
      refine c_region fun KK14 kk14 => ?_
      refine n_of (N' := KK14) kk14 ?_
      refine n_of (N' := NN13) nn13 ?_
      refine c_block fun XX15 xx15 => ?_
      refine loop_keep [] [0, 1, 2] (ι := { i : Nat // i ≤ N }) (fun i => [(9, exi .i64 i.1), (8, one (.sl 0))]) (fun i => [(0, arW true (bld (Fpoly r s N) i.1))]) (fun i => N - i.1) ⟨0, Nat.zero_le _⟩ trivial rfl ?_
      refine ⟨?_, ?_, ?_⟩
      · exact ⟨.inr rfl, .inr rfl, trivial⟩
      · exact ⟨rfl, trivial⟩
      refine fun ⟨i, hi⟩ NL16 nl16 => ?_
      refine c_norm rfl rfl ?_
      refine c_seq fun NN17 nn17 => ?_
      refine c_seq fun NN18 nn18 => ?_
      refine c_region fun KK19 kk19 => ?_
      refine n_of (N' := KK19) kk19 ?_
      refine n_of (N' := NN18) nn18 ?_
      refine c_cond rfl (fun h2 => ?_) (fun h2 => ?_)
      · skip
        have q2 := of_decide_eq_true h2
        (try dsimp only at q2)
        (try simp only [Dat.len, bld_len, List.length_cons, List.length_nil] at q2)
        refine c_skip ?_
        refine n_of (N' := NN17) nn17 ?_
        refine c_seq fun NN20 nn20 => ?_
        refine c_block fun XX21 xx21 => ?_
        refine c_seq fun NN22 nn22 => ?_
        refine c_region fun KK23 kk23 => ?_
        refine ⟨rfl, _, _, s56 _ _ (phOK (k := i) (c := N) (by omega) (by omega)), ?_⟩
        refine n_of (N' := KK23) kk23 ?_
        refine n_of (N' := NN22) nn22 ?_
        refine c_region fun KK24 kk24 => ?_
        refine ⟨rfl, _, _, (s57 _ _ _), ?_⟩
        refine And.intro ?_ ?_
        · (refine ⟨?_, by decide⟩; (try dsimp only); (try simp only [Dat.len, Int.toNat_natCast, bld_len, List.length_cons, List.length_nil]); omega)   -- 0 append
        refine n_of (N' := KK24) kk24 ?_
        refine n_of (N' := NN20) nn20 ?_
        refine c_region fun KK25 kk25 => ?_
        refine n_of (N' := KK25) kk25 ?_
        refine n_of (N' := NL16) nl16 ?_
        refine ⟨⟨i + 1, by omega⟩, ?_, [0], rfl, ?_, ?_⟩
        · (dsimp only; omega)
        · exact LEq.eq ⟨rfl, trivial⟩
        · exact ⟨.inr (congrArg (exi .i64) (wr64 (n := (i : Int) + 1) (by omega) (by omega))), .inr rfl, .inr rfl, .inr rfl, .inr rfl, trivial⟩
      · skip
        have q2 := of_decide_eq_false h2
        (try dsimp only at q2)
        (try simp only [Dat.len, bld_len, List.length_cons, List.length_nil] at q2)
        refine c_exit ?_
        refine x_here xx15 ?_
        refine n_of (N' := NN12) nn12 ?_
        refine c_seq fun NN26 nn26 => ?_
        refine c_region fun KK27 kk27 => ?_
        refine ⟨rfl, _, _, s58 _, ?_⟩
        refine n_of (N' := KK27) kk27 ?_
        refine n_of (N' := NN26) nn26 ?_
        refine c_ret ?_
        refine n_of (N' := R0) hR ?_
        have e : i = N := by omega
        subst e
        have ok : okpo (i : Int) r s = areW (bld (Fpoly r s i) i) := by unfold okpo; rw [not_f h0, not_f h1]; rfl
        exact ⟨[], rfl, by (rw [ok]; try rfl), by rw [ok]⟩

theorem s62 (x y s : Nat) : SP 62 [] [.agg [.cx .f32 x y, .fl .f32 s], .agg [.cx .f32 x y, .fl .f32 s]] [] (exb true) := by
  refine spec_of_codeR (fn := Try.f62) tyOK mixes Try.func62 rfl rfl rfl rfl fun hg R0 hR => ?_
  refine c_seq fun NN1 nn1 => ?_
  refine c_region fun KK2 kk2 => ?_
  refine n_of (N' := KK2) kk2 ?_
  refine n_of (N' := NN1) nn1 ?_
  refine c_seq fun NN3 nn3 => ?_
  refine c_seq fun NN4 nn4 => ?_
  refine c_region fun KK5 kk5 => ?_
  refine ⟨rfl, _, _, s73 _ _, ?_⟩
  refine n_of (N' := KK5) kk5 ?_
  refine n_of (N' := NN4) nn4 ?_
  refine c_cond rfl (fun h0 => ?_) (fun h0 => ?_)
  · skip
    cases h0
  · skip
    refine c_skip ?_
    refine n_of (N' := NN3) nn3 ?_
    refine c_seq fun NN6 nn6 => ?_
    refine c_seq fun NN7 nn7 => ?_
    refine c_region fun KK8 kk8 => ?_
    refine ⟨rfl, _, _, s40 _, ?_⟩
    refine n_of (N' := KK8) kk8 ?_
    refine n_of (N' := NN7) nn7 ?_
    refine c_cond rfl (fun h1 => ?_) (fun h1 => ?_)
    · skip
      cases h1
    · skip
      refine c_skip ?_
      refine n_of (N' := NN6) nn6 ?_
      refine c_seq fun NN9 nn9 => ?_
      refine c_region fun KK10 kk10 => ?_
      refine n_of (N' := KK10) kk10 ?_
      refine n_of (N' := NN9) nn9 ?_
      refine c_ret ?_
      refine n_of (N' := R0) hR ?_
      exact ⟨[], rfl, rfl, rfl⟩

theorem s26 (o o2 : Bool) (xs : List (Nat × Nat × Nat)) : SP 26 [arW o xs, arW o2 xs] [.one (.sl 0), .one (.sl 1)] [arW o xs, arW o2 xs] (exb true) := by
  refine spec_of_codeR (fn := Try.f26) tyOK mixes Try.func26 rfl rfl rfl ⟨.inl rfl, ⟨.inl rfl, rfl⟩⟩ fun hg R0 hR => ?_
  have hlen : xs.length ≤ maxLen := hg.1.1.1
  have hml : maxLen = 9223372036854775807 := by decide
  refine c_seq fun NN1 nn1 => ?_
  refine c_region fun KK2 kk2 => ?_
  refine n_of (N' := KK2) kk2 ?_
  refine n_of (N' := NN1) nn1 ?_
  refine c_seq fun NN3 nn3 => ?_
  refine c_seq fun NN4 nn4 => ?_
  refine c_region fun KK5 kk5 => ?_
  refine n_of (N' := KK5) kk5 ?_
  refine n_of (N' := NN4) nn4 ?_
  refine c_cond rfl (fun h0 => ?_) (fun h0 => ?_)
  · skip
    have q0 := ne_of_bneT h0
    (try dsimp only at q0)
    (try simp only [Dat.len] at q0)
    refine c_seq fun NN6 nn6 => ?_
    refine c_region fun KK7 kk7 => ?_
    refine n_of (N' := KK7) kk7 ?_
    refine n_of (N' := NN6) nn6 ?_
    refine c_ret ?_
    refine n_of (N' := R0) hR ?_
    simp [bne, Dat.len] at h0
  · skip
    have q0 := eq_of_bneF h0
    (try dsimp only at q0)
    (try simp only [Dat.len] at q0)
    refine c_skip ?_
    refine n_of (N' := NN3) nn3 ?_
    refine c_seq fun NN8 nn8 => ?_
    refine c_seq fun NN9 nn9 => ?_
    refine c_region fun KK10 kk10 => ?_
    refine n_of (N' := KK10) kk10 ?_
    refine n_of (N' := NN9) nn9 ?_
    refine c_block fun XX11 xx11 => ?_
    refine loop_keep [] [0, 1] (ι := { i : Nat // i ≤ xs.length }) (fun i => [(5, exi .i64 i.1)]) (fun i => []) (fun i => xs.length - i.1) ⟨0, Nat.zero_le _⟩ trivial rfl ?_
    refine ⟨?_, ?_, ?_⟩
    · exact ⟨.inr rfl, trivial⟩
    · exact ⟨rfl, rfl, trivial⟩
    refine fun ⟨i, hi⟩ NL12 nl12 => ?_
    refine c_norm rfl rfl ?_
    refine c_seq fun NN13 nn13 => ?_
    refine c_seq fun NN14 nn14 => ?_
    refine c_region fun KK15 kk15 => ?_
    refine n_of (N' := KK15) kk15 ?_
    refine n_of (N' := NN14) nn14 ?_
    refine c_cond rfl (fun h1 => ?_) (fun h1 => ?_)
    · skip
      have q1 := of_decide_eq_true h1
      (try dsimp only at q1)
      (try simp only [Dat.len] at q1)
      refine c_skip ?_
      refine n_of (N' := NN13) nn13 ?_
      refine c_seq fun NN16 nn16 => ?_
      refine c_block fun XX17 xx17 => ?_
      refine c_seq fun NN18 nn18 => ?_
      refine c_draw 8 [0, 1, 2, 3, 4, 5, 6, 7] (by kernel_rfl) fun KK19 kk19 => ?_
      refine And.intro ?_ ?_
      · ((try dsimp only); (try simp only [Dat.len, Int.toNat_natCast]); omega)   -- 0 index
      refine And.intro ?_ ?_
      · ((try dsimp only); (try simp only [Dat.len, Int.toNat_natCast]); omega)   -- 1 load
      refine And.intro ?_ ?_
      · ((try dsimp only); (try simp only [Dat.len, Int.toNat_natCast]); omega)   -- 2 index
      refine And.intro ?_ ?_
      · ((try dsimp only); (try simp only [Dat.len, Int.toNat_natCast]); omega)   -- 3 load
      refine ⟨rfl, _, _, s62 _ _ _, ?_⟩
      refine n_of (N' := KK19) kk19 ?_
      refine n_of (N' := NN18) nn18 ?_
      refine c_cond rfl (fun h2 => ?_) (fun h2 => ?_)
      · skip
        refine c_seq fun NN20 nn20 => ?_
        refine c_region fun KK21 kk21 => ?_
        refine n_of (N' := KK21) kk21 ?_
        refine n_of (N' := NN20) nn20 ?_
        refine c_ret ?_
        refine n_of (N' := R0) hR ?_
        exact nomatch h2
      · skip
        refine c_skip ?_
        refine n_of (N' := NN16) nn16 ?_
        refine c_region fun KK22 kk22 => ?_
        refine n_of (N' := KK22) kk22 ?_
        refine n_of (N' := NL12) nl12 ?_
        refine ⟨⟨i + 1, by omega⟩, ?_, [0, 1], rfl, ?_, ?_⟩
        · (dsimp only; omega)
        · exact LEq.eq ⟨rfl, rfl, trivial⟩
        · exact ⟨.inr (congrArg (exi .i64) (wr64 (n := (i : Int) + 1) (by omega) (by omega))), .inr rfl, .inr rfl, trivial⟩
    · skip
      have q1 := of_decide_eq_false h1
      (try dsimp only at q1)
      (try simp only [Dat.len] at q1)
      refine c_exit ?_
      refine x_here xx11 ?_
      refine n_of (N' := NN8) nn8 ?_
      refine c_seq fun NN23 nn23 => ?_
      refine c_region fun KK24 kk24 => ?_
      refine n_of (N' := KK24) kk24 ?_
      refine n_of (N' := NN23) nn23 ?_
      refine c_ret ?_
      refine n_of (N' := R0) hR ?_
      exact ⟨[], rfl, rfl, rfl⟩

theorem s26' (o : Bool) (xs : List (Nat × Nat × Nat)) : SP 26 [arW o xs] [.one (.sl 0), .one (.sl 0)] [arW o xs] (exb true) := by
  refine spec_of_codeR (fn := Try.f26) tyOK mixes Try.func26 rfl rfl rfl ⟨.inl rfl, rfl⟩ fun hg R0 hR => ?_
  have hlen : xs.length ≤ maxLen := hg.1.1.1
  have hml : maxLen = 9223372036854775807 := by decide
  refine c_seq fun NN1 nn1 => ?_
  refine c_region fun KK2 kk2 => ?_
  refine n_of (N' := KK2) kk2 ?_
  refine n_of (N' := NN1) nn1 ?_
  refine c_seq fun NN3 nn3 => ?_
  refine c_seq fun NN4 nn4 => ?_
  refine c_region fun KK5 kk5 => ?_
  refine n_of (N' := KK5) kk5 ?_
  refine n_of (N' := NN4) nn4 ?_
  refine c_cond rfl (fun h0 => ?_) (fun h0 => ?_)
  · skip
    have q0 := ne_of_bneT h0
    (try dsimp only at q0)
    (try simp only [Dat.len] at q0)
    refine c_seq fun NN6 nn6 => ?_
    refine c_region fun KK7 kk7 => ?_
    refine n_of (N' := KK7) kk7 ?_
    refine n_of (N' := NN6) nn6 ?_
    refine c_ret ?_
    refine n_of (N' := R0) hR ?_
    simp [bne, Dat.len] at h0
  · skip
    have q0 := eq_of_bneF h0
    (try dsimp only at q0)
    (try simp only [Dat.len] at q0)
    refine c_skip ?_
    refine n_of (N' := NN3) nn3 ?_
    refine c_seq fun NN8 nn8 => ?_
    refine c_seq fun NN9 nn9 => ?_
    refine c_region fun KK10 kk10 => ?_
    refine n_of (N' := KK10) kk10 ?_
    refine n_of (N' := NN9) nn9 ?_
    refine c_block fun XX11 xx11 => ?_
    refine loop_keep [] [0, 1] (ι := { i : Nat // i ≤ xs.length }) (fun i => [(5, exi .i64 i.1)]) (fun i => []) (fun i => xs.length - i.1) ⟨0, Nat.zero_le _⟩ trivial rfl ?_
    refine ⟨?_, ?_, ?_⟩
    · exact ⟨.inr rfl, trivial⟩
    · exact ⟨rfl, trivial⟩
    refine fun ⟨i, hi⟩ NL12 nl12 => ?_
    refine c_norm rfl rfl ?_
    refine c_seq fun NN13 nn13 => ?_
    refine c_seq fun NN14 nn14 => ?_
    refine c_region fun KK15 kk15 => ?_
    refine n_of (N' := KK15) kk15 ?_
    refine n_of (N' := NN14) nn14 ?_
    refine c_cond rfl (fun h1 => ?_) (fun h1 => ?_)
    · skip
      have q1 := of_decide_eq_true h1
      (try dsimp only at q1)
      (try simp only [Dat.len] at q1)
      refine c_skip ?_
      refine n_of (N' := NN13) nn13 ?_
      refine c_seq fun NN16 nn16 => ?_
      refine c_block fun XX17 xx17 => ?_
      refine c_seq fun NN18 nn18 => ?_
      refine c_draw 8 [0, 1, 2, 3, 4, 5, 6, 7] (by kernel_rfl) fun KK19 kk19 => ?_
      refine And.intro ?_ ?_
      · ((try dsimp only); (try simp only [Dat.len, Int.toNat_natCast]); omega)   -- 0 index
      refine And.intro ?_ ?_
      · ((try dsimp only); (try simp only [Dat.len, Int.toNat_natCast]); omega)   -- 1 load
      refine And.intro ?_ ?_
      · ((try dsimp only); (try simp only [Dat.len, Int.toNat_natCast]); omega)   -- 2 index
      refine And.intro ?_ ?_
      · ((try dsimp only); (try simp only [Dat.len, Int.toNat_natCast]); omega)   -- 3 load
      refine ⟨rfl, _, _, s62 _ _ _, ?_⟩
      refine n_of (N' := KK19) kk19 ?_
      refine n_of (N' := NN18) nn18 ?_
      refine c_cond rfl (fun h2 => ?_) (fun h2 => ?_)
      · skip
        refine c_seq fun NN20 nn20 => ?_
        refine c_region fun KK21 kk21 => ?_
        refine n_of (N' := KK21) kk21 ?_
        refine n_of (N' := NN20) nn20 ?_
        refine c_ret ?_
        refine n_of (N' := R0) hR ?_
        exact nomatch h2
      · skip
        refine c_skip ?_
        refine n_of (N' := NN16) nn16 ?_
        refine c_region fun KK22 kk22 => ?_
        refine n_of (N' := KK22) kk22 ?_
        refine n_of (N' := NL12) nl12 ?_
        refine ⟨⟨i + 1, by omega⟩, ?_, [0], rfl, ?_, ?_⟩
        · (dsimp only; omega)
        · exact LEq.eq ⟨rfl, trivial⟩
        · exact ⟨.inr (congrArg (exi .i64) (wr64 (n := (i : Int) + 1) (by omega) (by omega))), .inr rfl, .inr rfl, trivial⟩
    · skip
      have q1 := of_decide_eq_false h1
      (try dsimp only at q1)
      (try simp only [Dat.len] at q1)
      refine c_exit ?_
      refine x_here xx11 ?_
      refine n_of (N' := NN8) nn8 ?_
      refine c_seq fun NN23 nn23 => ?_
      refine c_region fun KK24 kk24 => ?_
      refine n_of (N' := KK24) kk24 ?_
      refine n_of (N' := NN23) nn23 ?_
      refine c_ret ?_
      refine n_of (N' := R0) hR ?_
      exact ⟨[], rfl, rfl, rfl⟩


end
end Go.AX
