/- What the functions of this program do, one contract a function, by that walk: each under what its own statement says. -/
import Derived.Test.YtojajegjmjmekaaB4
set_option linter.unusedVariables false
set_option linter.unusedSimpArgs false
namespace Go.AX
noncomputable section
open Go.RowKit Go.Proofs
set_option maxRecDepth 100000
set_option maxHeartbeats 4000000

theorem order_self (d : Ieee.Datum) : d.order d = none ∨ d.order d = some .eq := by
  cases d with
  | nan => left; rfl
  | infinity s => right; simp [Ieee.Datum.order, Nat.compare_eq_eq]
  | number s m i => right; simp [Ieee.Datum.order]
theorem lss_self (x : Nat) : fcmp .lss .f32 x x = false := by
  have h := order_self (FloatKind.f32.format.read x)
  simp only [fcmp_def, fcmp0, Ieee.Format.order]
  rcases h with h | h <;> rw [h] <;> rfl
theorem gtr_self (x : Nat) : fcmp .gtr .f32 x x = false := by
  have h := order_self (FloatKind.f32.format.read x)
  simp only [fcmp_def, fcmp0, Ieee.Format.order]
  rcases h with h | h <;> rw [h] <;> rfl
noncomputable def mn (xs : List Nat) : Nat → Nat
  | 0 => xs.getD 0 0
  | i + 1 => bif fcmp .lss .f32 (xs.getD i 0) (mn xs i) then xs.getD i 0 else mn xs i
noncomputable def mx (xs : List Nat) : Nat → Nat
  | 0 => xs.getD 0 0
  | i + 1 => bif fcmp .gtr .f32 (xs.getD i 0) (mx xs i) then xs.getD i 0 else mx xs i
theorem mn_T {xs : List Nat} {i : Nat} (h : fcmp .lss .f32 (xs.getD i 0) (mn xs i) = true) : xs.getD i 0 = mn xs (i + 1) := by simp only [mn, h, cond_true]
theorem mn_F {xs : List Nat} {i : Nat} (h : fcmp .lss .f32 (xs.getD i 0) (mn xs i) = false) : mn xs i = mn xs (i + 1) := by simp only [mn, h, cond_false]
theorem mx_T {xs : List Nat} {i : Nat} (h : fcmp .gtr .f32 (xs.getD i 0) (mx xs i) = true) : xs.getD i 0 = mx xs (i + 1) := by simp only [mx, h, cond_true]
theorem mx_F {xs : List Nat} {i : Nat} (h : fcmp .gtr .f32 (xs.getD i 0) (mx xs i) = false) : mx xs i = mx xs (i + 1) := by simp only [mx, h, cond_false]
theorem mn_one (xs : List Nat) : xs.getD 0 0 = mn xs 1 := mn_F (i := 0) (lss_self _)
theorem mx_one (xs : List Nat) : xs.getD 0 0 = mx xs 1 := mx_F (i := 0) (gtr_self _)
theorem inB_le {x a b : Int} (h : inB x a b = true) : a ≤ x ∧ x ≤ b := by
  unfold inB at h
  simp only [Bool.and_eq_true, decide_eq_true_eq] at h
  exact ⟨h.1, h.2⟩
theorem isB_len {w h : Int} {xs : List Nat} (hb : isB w h xs = true) : (xs.length : Int) = w * h ∧ 3 ≤ w ∧ w ≤ 16 ∧ 3 ≤ h ∧ h ≤ 16 := by
  unfold isB sizeB at hb
  simp only [Bool.and_eq_true, beq_iff_eq] at hb
  obtain ⟨⟨h1, h2⟩, h3, _⟩ := hb
  obtain ⟨a1, a2⟩ := inB_le h1
  obtain ⟨b1, b2⟩ := inB_le h2
  have p0 : 0 ≤ w * h := Int.mul_nonneg (by omega) (by omega)
  have p1 : w * h ≤ 16 * 16 := Int.mul_le_mul a2 b2 (by omega) (by omega)
  rw [wr64 (by omega) (by omega)] at h3
  exact ⟨h3, a1, a2, b1, b2⟩
theorem isB_pos {w h : Int} {xs : List Nat} (hb : isB w h xs = true) : 9 ≤ xs.length ∧ xs.length ≤ 256 := by
  obtain ⟨e, a1, a2, b1, b2⟩ := isB_len hb
  have p1 : w * h ≤ 16 * 16 := Int.mul_le_mul a2 b2 (by omega) (by omega)
  have p2 : 3 * 3 ≤ w * h := Int.mul_le_mul a1 b1 (by omega) (by omega)
  omega

theorem s32 (o : Bool) (xs : List Nat) (w h : Int) : SP 32 [ar o xs] [bas w h 0] [ar o xs] (.tup [f32 (numB (isB w h xs) (mn xs xs.length)), f32 (numB (isB w h xs) (mx xs xs.length)), .one (.ex (.bool (isB w h xs)))]) := by
  refine spec_of_code (fn := Try.f32) tyOK mixes Try.func32 rfl rfl rfl ⟨.inl rfl, rfl⟩ fun hg => ?_
  have hlen : xs.length ≤ maxLen := hg.1.1.1
  have hml : maxLen = 9223372036854775807 := by decide
  refine ⟨rfl, _, _, s79 _ _ _ _, ?_⟩
  refine And.intro (fun h0 => ?_) (fun h0 => ?_)
  · exact ⟨[], rfl, rfl, by rw [not_t h0]; rfl⟩
  · have hp := isB_pos (not_f h0)
    refine And.intro ?_ ?_
    · ((try dsimp only); simp only [Dat.len]; omega)   -- 0 index
    refine And.intro ?_ ?_
    · ((try dsimp only); simp only [Dat.len]; omega)   -- 1 load
    refine And.intro ?_ ?_
    · ((try dsimp only); simp only [Dat.len]; omega)   -- 2 index
    refine And.intro ?_ ?_
    · ((try dsimp only); simp only [Dat.len]; omega)   -- 3 load
    refine ⟨{ i : Nat // 1 ≤ i ∧ i ≤ xs.length }, fun i => ⟨[(7, exi .i64 i.1), (1, one (.pv 1 0)), (5, fl32 (mn xs i.1)), (6, fl32 (mx xs i.1))], [ar o xs, basV w h 0]⟩, fun i => xs.length - i.1, ⟨1, Nat.le_refl 1, by omega⟩, .inl ⟨[0, 1], rfl, ?_, ?_⟩, fun ⟨i, hi1, hi⟩ => ?_⟩
    · exact rfl
    · exact ⟨.inr rfl, .inr rfl, .inr (congrArg fl32 (mn_one xs)), .inr (congrArg fl32 (mx_one xs)), trivial⟩
    refine And.intro (fun h1 => ?_) (fun h1 => ?_)
    · have q0 : (i : Int) < xs.length := of_decide_eq_true h1
      refine And.intro ?_ ?_
      · ((try dsimp only); simp only [Dat.len]; omega)   -- 4 index
      refine And.intro ?_ ?_
      · ((try dsimp only); simp only [Dat.len]; omega)   -- 5 load
      refine And.intro (fun h2 => ?_) (fun h2 => ?_)
      · refine And.intro ?_ ?_
        · ((try dsimp only); simp only [Dat.len]; omega)   -- 6 index
        refine And.intro ?_ ?_
        · ((try dsimp only); simp only [Dat.len]; omega)   -- 7 load
        refine And.intro ?_ ?_
        · ((try dsimp only); simp only [Dat.len]; omega)   -- 8 index
        refine And.intro ?_ ?_
        · ((try dsimp only); simp only [Dat.len]; omega)   -- 9 load
        refine And.intro (fun h3 => ?_) (fun h3 => ?_)
        · refine And.intro ?_ ?_
          · ((try dsimp only); simp only [Dat.len]; omega)   -- 10 index
          refine And.intro ?_ ?_
          · ((try dsimp only); simp only [Dat.len]; omega)   -- 11 load
          refine ⟨⟨i + 1, by omega, by omega⟩, ?_, [0, 1], rfl, ?_, ?_⟩
          · (dsimp only; omega)
          · exact rfl
          · exact ⟨.inr (congrArg (exi .i64) (wr64 (n := (i : Int) + 1) (by omega) (by omega))), .inr rfl, .inr (congrArg fl32 (mn_T (i := i) h2)), .inr (congrArg fl32 (mx_T (i := i) h3)), trivial⟩
        · refine ⟨⟨i + 1, by omega, by omega⟩, ?_, [0, 1], rfl, ?_, ?_⟩
          · (dsimp only; omega)
          · exact rfl
          · exact ⟨.inr (congrArg (exi .i64) (wr64 (n := (i : Int) + 1) (by omega) (by omega))), .inr rfl, .inr (congrArg fl32 (mn_T (i := i) h2)), .inr (congrArg fl32 (mx_F (i := i) h3)), trivial⟩
      · refine And.intro ?_ ?_
        · ((try dsimp only); simp only [Dat.len]; omega)   -- 12 index
        refine And.intro ?_ ?_
        · ((try dsimp only); simp only [Dat.len]; omega)   -- 13 load
        refine And.intro (fun h3 => ?_) (fun h3 => ?_)
        · refine And.intro ?_ ?_
          · ((try dsimp only); simp only [Dat.len]; omega)   -- 14 index
          refine And.intro ?_ ?_
          · ((try dsimp only); simp only [Dat.len]; omega)   -- 15 load
          refine ⟨⟨i + 1, by omega, by omega⟩, ?_, [0, 1], rfl, ?_, ?_⟩
          · (dsimp only; omega)
          · exact rfl
          · exact ⟨.inr (congrArg (exi .i64) (wr64 (n := (i : Int) + 1) (by omega) (by omega))), .inr rfl, .inr (congrArg fl32 (mn_F (i := i) h2)), .inr (congrArg fl32 (mx_T (i := i) h3)), trivial⟩
        · refine ⟨⟨i + 1, by omega, by omega⟩, ?_, [0, 1], rfl, ?_, ?_⟩
          · (dsimp only; omega)
          · exact rfl
          · exact ⟨.inr (congrArg (exi .i64) (wr64 (n := (i : Int) + 1) (by omega) (by omega))), .inr rfl, .inr (congrArg fl32 (mn_F (i := i) h2)), .inr (congrArg fl32 (mx_F (i := i) h3)), trivial⟩
    · have q0 : ¬ (i : Int) < xs.length := of_decide_eq_false h1
      have e : i = xs.length := by omega
      subst e
      exact ⟨[], rfl, rfl, by rw [not_f h0]; rfl⟩

theorem s33 (o : Bool) (xs : List Nat) (w h : Int) : SP 33 [ar o xs] [bas w h 0] [ar o xs] (.tup [f32 (numB (isB w h xs) (mn xs xs.length)), f32 (numB (isB w h xs) (mx xs xs.length)), .one (.ex (.bool (isB w h xs)))]) := by
  refine spec_of_code (fn := Try.f33) tyOK mixes Try.func33 rfl rfl rfl ⟨.inl rfl, rfl⟩ fun hg => ?_
  have hlen : xs.length ≤ maxLen := hg.1.1.1
  have hml : maxLen = 9223372036854775807 := by decide
  refine ⟨rfl, _, _, s28 _ _ _ _, ?_⟩
  refine And.intro (fun h0 => ?_) (fun h0 => ?_)
  · exact ⟨[], rfl, rfl, by rw [not_t h0]; rfl⟩
  · have hp := isB_pos (not_f h0)
    refine Or.inl ⟨9, [0, 1, 2, 3, 4, 5, 6, 7, 8], by kernel_rfl, ?_⟩
    refine And.intro ?_ ?_
    · ((try dsimp only); simp only [Dat.len]; omega)   -- 0 index
    refine And.intro ?_ ?_
    · ((try dsimp only); simp only [Dat.len]; omega)   -- 1 load
    refine And.intro ?_ ?_
    · ((try dsimp only); simp only [Dat.len]; omega)   -- 2 index
    refine And.intro ?_ ?_
    · ((try dsimp only); simp only [Dat.len]; omega)   -- 3 load
    refine ⟨{ i : Nat // i ≤ xs.length }, fun i => ⟨[(23, exi .i64 i.1), (22, exi .i64 xs.length), (21, one (.sl 0)), (5, fl32 (mn xs i.1)), (6, fl32 (mx xs i.1))], [ar o xs]⟩, fun i => xs.length - i.1, ⟨0, Nat.zero_le _⟩, .inl ⟨[0], rfl, ?_, ?_⟩, fun ⟨i, hi⟩ => ?_⟩
    · exact rfl
    · exact ⟨.inr rfl, .inr rfl, .inr rfl, .inr rfl, .inr rfl, trivial⟩
    refine And.intro (fun h1 => ?_) (fun h1 => ?_)
    · have q0 : (i : Int) < xs.length := of_decide_eq_true h1
      refine And.intro ?_ ?_
      · ((try dsimp only); simp only [Dat.len]; omega)   -- 4 index
      refine And.intro ?_ ?_
      · ((try dsimp only); simp only [Dat.len]; omega)   -- 5 load
      refine And.intro (fun h2 => ?_) (fun h2 => ?_)
      · refine And.intro (fun h3 => ?_) (fun h3 => ?_)
        · refine ⟨⟨i + 1, by omega⟩, ?_, [0], rfl, ?_, ?_⟩
          · (dsimp only; omega)
          · exact rfl
          · exact ⟨.inr (congrArg (exi .i64) (wr64 (n := (i : Int) + 1) (by omega) (by omega))), .inr rfl, .inr rfl, .inr (congrArg fl32 (mn_T (i := i) h2)), .inr (congrArg fl32 (mx_T (i := i) h3)), trivial⟩
        · refine ⟨⟨i + 1, by omega⟩, ?_, [0], rfl, ?_, ?_⟩
          · (dsimp only; omega)
          · exact rfl
          · exact ⟨.inr (congrArg (exi .i64) (wr64 (n := (i : Int) + 1) (by omega) (by omega))), .inr rfl, .inr rfl, .inr (congrArg fl32 (mn_T (i := i) h2)), .inr (congrArg fl32 (mx_F (i := i) h3)), trivial⟩
      · refine And.intro (fun h3 => ?_) (fun h3 => ?_)
        · refine ⟨⟨i + 1, by omega⟩, ?_, [0], rfl, ?_, ?_⟩
          · (dsimp only; omega)
          · exact rfl
          · exact ⟨.inr (congrArg (exi .i64) (wr64 (n := (i : Int) + 1) (by omega) (by omega))), .inr rfl, .inr rfl, .inr (congrArg fl32 (mn_F (i := i) h2)), .inr (congrArg fl32 (mx_T (i := i) h3)), trivial⟩
        · refine ⟨⟨i + 1, by omega⟩, ?_, [0], rfl, ?_, ?_⟩
          · (dsimp only; omega)
          · exact rfl
          · exact ⟨.inr (congrArg (exi .i64) (wr64 (n := (i : Int) + 1) (by omega) (by omega))), .inr rfl, .inr rfl, .inr (congrArg fl32 (mn_F (i := i) h2)), .inr (congrArg fl32 (mx_F (i := i) h3)), trivial⟩
    · have q0 : ¬ (i : Int) < xs.length := of_decide_eq_false h1
      have e : i = xs.length := by omega
      subst e
      exact ⟨[], rfl, rfl, by rw [not_f h0]; rfl⟩

theorem s5 (o : Bool) (xs : List Nat) (w h : Int) : SP 5 [ar o xs] [bas w h 0] [ar o xs] (exb true) := by
  refine spec_of_code (fn := Try.f5) tyOK mixes Try.func5 rfl rfl rfl ⟨.inl rfl, rfl⟩ fun hg => ?_
  refine ⟨rfl, _, _, s25 _ _ _ _ _, ?_⟩
  refine And.intro (fun h0 => ?_) (fun h0 => ?_)
  · exact ⟨[], rfl, rfl, rfl⟩
  · have hn : xs.length ≤ 1048576 := sz_le h0 hg.1.1.1
    refine ⟨rfl, _, _, s27 _ _ hn _ _, ?_⟩
    refine ⟨rfl, _, _, s32 _ _ _ _, ?_⟩
    refine ⟨rfl, _, _, s27 _ _ hn _ _, ?_⟩
    refine ⟨rfl, _, _, s33 _ _ _ _, ?_⟩
    refine ⟨rfl, _, _, s34 _, ?_⟩
    refine And.intro (fun h1 => ?_) (fun h1 => ?_)
    · refine And.intro (fun _ => ?_) (fun h => nomatch h)
      refine And.intro (fun _ => ?_) (fun h => nomatch h)
      exact nomatch h1
    · refine ⟨rfl, _, _, s34 _, ?_⟩
      refine And.intro (fun h2 => ?_) (fun h2 => ?_)
      · refine And.intro (fun _ => ?_) (fun h => nomatch h)
        exact nomatch h2
      · refine And.intro (fun h3 => ?_) (fun h3 => ?_)
        · exact bnn h3
        · refine Or.inl ⟨3, [0, 1, 2], by kernel_rfl, ?_⟩
          refine ⟨rfl, _, _, s27 _ _ hn _ _, rfl, ?_⟩
          refine ⟨rfl, _, _, s29 _ _ _ _ _, ?_⟩
          refine And.intro (fun h4 => ?_) (fun h4 => ?_)
          · exact nomatch h4
          · exact ⟨[], rfl, rfl, rfl⟩

end
end Go.AX