/- What the functions of this program do, one contract a function, by that walk: each under what its own statement says. -/
import Derived.Test.YtojajegjmjmekaaB1
set_option linter.unusedVariables false
set_option linter.unusedSimpArgs false
namespace Go.AX
noncomputable section
open Go.RowKit Go.Proofs
set_option maxRecDepth 100000
set_option maxHeartbeats 4000000

abbrev bas (w h : Int) (k : Nat) : A1 := .agg [.ex (.int .i64 w), .ex (.int .i64 h), .sl k]
abbrev basV (w h : Int) (k : Nat) : Ent := .var 27 [.ex (.int .i64 w), .ex (.int .i64 h), .sl k]
abbrev ar (o : Bool) (xs : List Nat) : Ent := .arr o 32 (.f xs)
def sz (n : Int) (len : Nat) : Int := if IntKind.i64.wrap (n - len) < 0 then -1 else IntKind.i64.wrap (n - len)
theorem sz_neg {n : Int} {len : Nat} (h : decide (IntKind.i64.wrap (n - len) < 0) = true) : -1 = sz n len := by unfold sz; rw [if_pos (of_decide_eq_true h)]
theorem sz_pos {n : Int} {len : Nat} (h : decide (IntKind.i64.wrap (n - len) < 0) = false) : IntKind.i64.wrap (n - len) = sz n len := by unfold sz; rw [if_neg (of_decide_eq_false h)]
theorem sz_neg' {n : Int} {len : Nat} (h : decide (sz n len < 0) = true) : -1 = sz n len := by
  have h := of_decide_eq_true h
  unfold sz at *
  split at h
  · rw [if_pos]; assumption
  · omega

theorem s78 (o : Bool) (xs : List Nat) (n : Int) : SP 78 [ar o xs] [.one (.sl 0), i64 n] [ar o xs] (exi .i64 (sz n xs.length)) := by
  refine spec_of_code (fn := Try.f78) tyOK mixes Try.func78 rfl rfl rfl ⟨.inl rfl, rfl⟩ fun hg => ?_
  refine And.intro (fun h0 => ?_) (fun h0 => ?_)
  · exact ⟨[], rfl, rfl, congrArg (exi .i64) (sz_neg h0)⟩
  · exact ⟨[], rfl, rfl, congrArg (exi .i64) (sz_pos h0)⟩

theorem s25 (o : Bool) (xs : List Nat) (w h n : Int) : SP 25 [ar o xs] [bas w h 0, i64 n] [ar o xs] (exi .i64 (sz n xs.length)) := by
  refine spec_of_code (fn := Try.f25) tyOK mixes Try.func25 rfl rfl rfl ⟨.inl rfl, rfl⟩ fun hg => ?_
  refine ⟨rfl, _, _, s78 _ _ _, ?_⟩
  refine And.intro (fun h0 => ?_) (fun h0 => ?_)
  · exact ⟨[], rfl, rfl, congrArg (exi .i64) (sz_neg' h0)⟩
  · exact ⟨[], rfl, rfl, rfl⟩

theorem take_put (xs : List Nat) {i n : Nat} (hi : i < xs.length) (hn : n = xs.length) : (xs.take i ++ List.replicate (n - i) 0).set i (xs.getD i 0) = xs.take (i + 1) ++ List.replicate (n - (i + 1)) 0 := by
  subst hn
  have e : xs.length - i = (xs.length - (i + 1)) + 1 := by omega
  rw [e, List.replicate_succ, List.set_append_right _ _ (by simp; omega)]
  have : i - (xs.take i).length = 0 := by simp; omega
  have g : xs.getD i 0 = xs[i] := by simp [List.getD_eq_getElem?_getD, hi]
  rw [this, List.set_cons_zero, List.take_succ_eq_append_getElem hi, g, List.append_assoc]
  rfl

theorem s80 (o : Bool) (xs : List Nat) (hn : xs.length ≤ 1048576) : SP 80 [ar o xs] [.one (.sl 0)] [ar o xs, ar true xs] (one (.sl 1)) := by
  refine spec_of_code (fn := Try.f80) tyOK mixes Try.func80 rfl rfl rfl ⟨.inl rfl, rfl⟩ fun hg => ?_
  refine And.intro ?_ ?_
  · (refine ⟨rfl, ?_, ?_, ?_⟩ <;> simp [Dat.len]; omega)   -- 0 make
  refine ⟨{ i : Nat // i ≤ xs.length }, fun i => ⟨[(3, one (.sl 1)), (0, one (.sl 0)), (4, exi .i64 i.1)], [ar o xs, ar true (xs.take i.1 ++ List.replicate (xs.length - i.1) 0)]⟩, fun i => xs.length - i.1, ⟨0, Nat.zero_le _⟩, .inl ⟨[0, 1], rfl, ?_, ?_⟩, fun ⟨i, hi⟩ => ?_⟩
  · exact (congrArg (fun ys => [ar o xs, ar true ys]) (by simp [Dat.len]))
  · exact ⟨.inr rfl, .inr rfl, .inr rfl, trivial⟩
  refine And.intro (fun h0 => ?_) (fun h0 => ?_)
  · have q0 : (i : Int) < xs.length := of_decide_eq_true h0
    refine And.intro ?_ ?_
    · (dsimp only; simp only [Dat.len, List.length_append, List.length_replicate, List.length_take]; omega)   -- 1 index
    refine And.intro ?_ ?_
    · (dsimp only; simp only [Dat.len, Int.toNat_natCast]; omega)   -- 2 load
    refine And.intro ?_ ?_
    · (dsimp only; simp only [Dat.len, List.length_append, List.length_replicate, List.length_take]; omega)   -- 3 index
    refine And.intro ?_ ?_
    · (dsimp only; simp only [Dat.len, Int.toNat_natCast, List.length_append, List.length_replicate, List.length_take]; omega)   -- 4 store
    refine ⟨⟨i + 1, by omega⟩, ?_, [0, 1], rfl, ?_, ?_⟩
    · (dsimp only; omega)
    · exact congrArg (fun ys => [ar o xs, ar true ys]) (take_put xs (i := i) (by omega) rfl)
    · exact ⟨.inr rfl, .inr rfl, .inr (congrArg (exi .i64) (wr64 (n := (i : Int) + 1) (by omega) (by omega))), trivial⟩
  · have q0 : ¬ (i : Int) < xs.length := of_decide_eq_false h0
    refine ⟨[], rfl, ?_, rfl⟩
    have e : i = xs.length := by omega
    subst e
    exact congrArg (fun ys => [ar o xs, ar true ys]) (by simp)

theorem s27 (o : Bool) (xs : List Nat) (hn : xs.length ≤ 1048576) (w h : Int) : SP 27 [ar o xs] [bas w h 0] [ar o xs, ar true xs] (.v (bas w h 1)) := by
  refine spec_of_code (fn := Try.f27) tyOK mixes Try.func27 rfl rfl rfl ⟨.inl rfl, rfl⟩ fun hg => ?_
  refine ⟨rfl, _, _, s80 _ _ hn, ?_⟩
  exact ⟨[], rfl, rfl, rfl⟩

theorem not_t {b : Bool} (h : (!b) = true) : b = false := by cases b <;> simp_all
theorem not_f {b : Bool} (h : (!b) = false) : b = true := by cases b <;> simp_all

theorem fcmp_neq (k : FloatKind) (x y : Nat) : fcmp .neq k x y = !fcmp .eql k x y := by rw [fcmp_def, fcmp_def]; rfl

theorem s34 (x : Nat) : SP 34 [] [.one (.fl .f64 x), .one (.fl .f64 x)] [] (exb true) := by
  refine spec_of_code (fn := Try.f34) tyOK mixes Try.func34 rfl rfl rfl rfl fun hg => ?_
  refine And.intro (fun h0 => ?_) (fun h0 => ?_)
  · refine And.intro (fun _ => ?_) (fun h => nomatch h)
    refine And.intro (fun h1 => ?_) (fun h1 => ?_)
    · exact ⟨[], rfl, rfl, congrArg exb h1⟩
    · exact nomatch h0.symm.trans h1
  · refine And.intro (fun h1 => ?_) (fun h1 => ?_)
    · refine And.intro (fun h2 => ?_) (fun h2 => ?_)
      · exact nomatch h1.symm.trans h0
      · exact nomatch h1.symm.trans h0
    · refine And.intro (fun h2 => ?_) (fun h2 => ?_)
      · refine And.intro (fun h3 => ?_) (fun h3 => ?_)
        · exact ⟨[], rfl, rfl, congrArg exb (beq_self_eq_true _)⟩
        · exact nomatch h2.symm.trans h3
      · refine And.intro (fun h => nomatch h) (fun _ => ?_)
        exact ⟨[], rfl, rfl, congrArg exb (not_f ((fcmp_neq _ _ _).symm.trans h0))⟩

theorem all_of {xs : List Nat} (h : ∀ j, j < xs.length → finB (xs.getD j 0) = true) : xs.all finB = true := by
  rw [List.all_eq_true]
  intro x hx
  obtain ⟨j, hj, rfl⟩ := List.mem_iff_getElem.1 hx
  have := h j hj
  simpa [List.getD_eq_getElem?_getD, hj] using this
theorem all_not {xs : List Nat} {i : Nat} (hi : i < xs.length) (h : finB (xs.getD i 0) = false) : xs.all finB = false := by
  rw [List.all_eq_false]
  refine ⟨xs[i], List.getElem_mem hi, ?_⟩
  simp [List.getD_eq_getElem?_getD, hi] at h
  simp [h]

theorem s79 (o : Bool) (xs : List Nat) (w h : Int) : SP 79 [basV w h 1, ar o xs] [.one (.pv 0 0)] [basV w h 1, ar o xs] (exb (isB w h xs)) := by
  refine spec_of_code (fn := Try.f79) tyOK mixes Try.func79 rfl rfl rfl ⟨.inl rfl, ⟨.inl rfl, rfl⟩⟩ fun hg => ?_
  have hlen : xs.length ≤ maxLen := hg.1.2.1.1
  have hml : maxLen = 9223372036854775807 := by decide
  refine Or.inl ⟨25, [0, 1, 2, 3, 4, 5, 6, 7, 8, 9, 10, 11, 12, 13, 14, 15, 16, 17, 18, 19, 20, 21, 22, 23, 24], by kernel_rfl, ?_⟩
  refine ⟨rfl, _, _, s91 _ _, rfl, ?_⟩
  refine And.intro (fun h0 => ?_) (fun h0 => ?_)
  · refine And.intro (fun _ => ?_) (fun h => nomatch h)
    refine ⟨[], rfl, rfl, congrArg exb ?_⟩
    unfold isB; rw [not_t h0, Bool.false_and]
  · refine And.intro (fun h1 => ?_) (fun h1 => ?_)
    · replace h1 : (!((xs.length : Int) == IntKind.i64.wrap (w * h))) = true := h1
      refine ⟨[], rfl, rfl, congrArg exb ?_⟩
      unfold isB; rw [not_t h1, Bool.false_and, Bool.and_false]
    · replace h1 : (!((xs.length : Int) == IntKind.i64.wrap (w * h))) = false := h1
      refine ⟨{ i : Nat // i ≤ xs.length ∧ ∀ j, j < i → finB (xs.getD j 0) = true }, fun i => ⟨[(3, exi .i64 i.1), (0, one (.pv 0 0))], [basV w h 1, ar o xs]⟩, fun i => xs.length - i.1, ⟨0, Nat.zero_le _, fun j hj => absurd hj (Nat.not_lt_zero j)⟩, .inl ⟨[0, 1], rfl, ?_, ?_⟩, fun ⟨i, hi, hx⟩ => ?_⟩
      · exact rfl
      · exact ⟨.inr rfl, .inr rfl, trivial⟩
      refine And.intro (fun h2 => ?_) (fun h2 => ?_)
      · have q0 : (i : Int) < xs.length := of_decide_eq_true h2
        refine And.intro ?_ ?_
        · (dsimp only; simp only [Dat.len]; omega)   -- 0 index
        refine And.intro ?_ ?_
        · (dsimp only; simp only [Dat.len, Int.toNat_natCast]; omega)   -- 1 load
        refine ⟨rfl, _, _, s107 _, ?_⟩
        refine And.intro (fun h3 => ?_) (fun h3 => ?_)
        · refine ⟨[], rfl, rfl, congrArg exb ?_⟩
          unfold isB; rw [all_not (i := i) (by omega) (not_t h3), Bool.and_false, Bool.and_false]
        · refine ⟨⟨i + 1, by omega, fun j hj => (Nat.lt_or_eq_of_le (Nat.le_of_lt_succ hj)).elim (hx j) (fun e => by subst e; exact not_f h3)⟩, ?_, [0, 1], rfl, ?_, ?_⟩
          · (dsimp only; omega)
          · exact rfl
          · exact ⟨.inr (congrArg (exi .i64) (wr64 (n := (i : Int) + 1) (by omega) (by omega))), .inr rfl, trivial⟩
      · have q0 : ¬ (i : Int) < xs.length := of_decide_eq_false h2
        refine ⟨[], rfl, rfl, congrArg exb ?_⟩
        unfold isB; rw [not_f h0, not_f h1, all_of fun j hj => hx j (by omega)]; rfl

theorem s26 (o : Bool) (xs : List Nat) (w h : Int) : SP 26 [ar o xs] [bas w h 0] [ar o xs] (exb (isB w h xs)) := by
  refine spec_of_code (fn := Try.f26) tyOK mixes Try.func26 rfl rfl rfl ⟨.inl rfl, rfl⟩ fun hg => ?_
  refine ⟨rfl, _, _, s79 _ _ _ _, ?_⟩
  exact ⟨[], rfl, rfl, rfl⟩

theorem s28 (o : Bool) (xs : List Nat) (w h : Int) : SP 28 [ar o xs] [bas w h 0] [ar o xs] (exb (isB w h xs)) := by
  refine spec_of_code (fn := Try.f28) tyOK mixes Try.func28 rfl rfl rfl ⟨.inl rfl, rfl⟩ fun hg => ?_
  refine ⟨rfl, _, _, s81 _, ?_⟩
  refine And.intro (fun h0 => ?_) (fun h0 => ?_)
  · refine ⟨rfl, _, _, s81 _, ?_⟩
    refine And.intro (fun h1 => ?_) (fun h1 => ?_)
    · refine And.intro (fun h2 => ?_) (fun h2 => ?_)
      · replace h2 : ((xs.length : Int) == IntKind.i64.wrap (w * h)) = true := h2
        refine ⟨rfl, _, _, s82 _ _, ?_⟩
        refine ⟨[], rfl, rfl, congrArg exb ?_⟩
        simp only [isB, sizeB, h0, h1, h2, Bool.false_and, Bool.true_and, Bool.not_true, Bool.and_true, Bool.and_false, Bool.not_false, Bool.or_false, Bool.or_true, Bool.false_or, Bool.true_or]
      · replace h2 : ((xs.length : Int) == IntKind.i64.wrap (w * h)) = false := h2
        refine ⟨[], rfl, rfl, congrArg exb ?_⟩
        simp only [isB, sizeB, h0, h1, h2, Bool.false_and, Bool.true_and, Bool.not_true, Bool.and_true, Bool.and_false, Bool.not_false, Bool.or_false, Bool.or_true, Bool.false_or, Bool.true_or]
    · refine And.intro (fun h => nomatch h) (fun _ => ?_)
      refine ⟨[], rfl, rfl, congrArg exb ?_⟩
      simp only [isB, sizeB, h0, h1, Bool.false_and, Bool.true_and, Bool.not_true, Bool.and_true, Bool.and_false, Bool.not_false, Bool.or_false, Bool.or_true, Bool.false_or, Bool.true_or]
  · refine And.intro (fun h => nomatch h) (fun _ => ?_)
    refine And.intro (fun h => nomatch h) (fun _ => ?_)
    refine ⟨[], rfl, rfl, congrArg exb ?_⟩
    simp only [isB, sizeB, h0, Bool.false_and, Bool.true_and, Bool.not_true, Bool.and_true, Bool.and_false, Bool.not_false, Bool.or_false, Bool.or_true, Bool.false_or, Bool.true_or]

theorem eqs55 : True := trivial
theorem s55 (o o2 : Bool) (xs : List Nat) : SP 55 [ar o xs, ar o2 xs] [.one (.sl 0), .one (.sl 1)] [ar o xs, ar o2 xs] (exb true) := by
  refine spec_of_code (fn := Try.f55) tyOK mixes Try.func55 rfl rfl rfl ⟨.inl rfl, ⟨.inl rfl, rfl⟩⟩ fun hg => ?_
  have hlen : xs.length ≤ maxLen := hg.1.1.1
  have hml : maxLen = 9223372036854775807 := by decide
  refine And.intro (fun h0 => ?_) (fun h0 => ?_)
  · simp [bne, Dat.len] at h0
  · refine ⟨{ i : Nat // i ≤ xs.length }, fun i => ⟨[(5, exi .i64 i.1), (0, one (.sl 0)), (1, one (.sl 1))], [ar o xs, ar o2 xs]⟩, fun i => xs.length - i.1, ⟨0, Nat.zero_le _⟩, .inl ⟨[0, 1], rfl, ?_, ?_⟩, fun ⟨i, hi⟩ => ?_⟩
    · exact rfl
    · exact ⟨.inr rfl, .inr rfl, .inr rfl, trivial⟩
    refine And.intro (fun h1 => ?_) (fun h1 => ?_)
    · have q0 : (i : Int) < xs.length := of_decide_eq_true h1
      refine Or.inl ⟨10, [0, 1, 2, 3, 4, 5, 6, 7, 8, 9], by kernel_rfl, ?_⟩
      refine And.intro ?_ ?_
      · (dsimp only; simp only [Dat.len]; omega)   -- 0 index
      refine And.intro ?_ ?_
      · (dsimp only; simp only [Dat.len, Int.toNat_natCast]; omega)   -- 1 load
      refine And.intro ?_ ?_
      · (dsimp only; simp only [Dat.len]; omega)   -- 2 index
      refine And.intro ?_ ?_
      · (dsimp only; simp only [Dat.len, Int.toNat_natCast]; omega)   -- 3 load
      refine ⟨rfl, _, _, s34 _, ?_⟩
      refine And.intro (fun h2 => ?_) (fun h2 => ?_)
      · exact nomatch h2
      · refine ⟨⟨i + 1, by omega⟩, ?_, [0, 1], rfl, ?_, ?_⟩
        · (dsimp only; omega)
        · exact rfl
        · exact ⟨.inr (congrArg (exi .i64) (wr64 (n := (i : Int) + 1) (by omega) (by omega))), .inr rfl, .inr rfl, trivial⟩
    · have q0 : ¬ (i : Int) < xs.length := of_decide_eq_false h1
      exact ⟨[], rfl, rfl, rfl⟩

theorem s55' (o : Bool) (xs : List Nat) : SP 55 [ar o xs] [.one (.sl 0), .one (.sl 0)] [ar o xs] (exb true) := by
  refine spec_of_code (fn := Try.f55) tyOK mixes Try.func55 rfl rfl rfl ⟨.inl rfl, rfl⟩ fun hg => ?_
  have hlen : xs.length ≤ maxLen := hg.1.1.1
  have hml : maxLen = 9223372036854775807 := by decide
  refine And.intro (fun h0 => ?_) (fun h0 => ?_)
  · simp [bne, Dat.len] at h0
  · refine ⟨{ i : Nat // i ≤ xs.length }, fun i => ⟨[(5, exi .i64 i.1), (0, one (.sl 0)), (1, one (.sl 0))], [ar o xs]⟩, fun i => xs.length - i.1, ⟨0, Nat.zero_le _⟩, .inl ⟨[0], rfl, ?_, ?_⟩, fun ⟨i, hi⟩ => ?_⟩
    · exact rfl
    · exact ⟨.inr rfl, .inr rfl, .inr rfl, trivial⟩
    refine And.intro (fun h1 => ?_) (fun h1 => ?_)
    · have q0 : (i : Int) < xs.length := of_decide_eq_true h1
      refine Or.inl ⟨10, [0, 1, 2, 3, 4, 5, 6, 7, 8, 9], by kernel_rfl, ?_⟩
      refine And.intro ?_ ?_
      · (dsimp only; simp only [Dat.len]; omega)   -- 0 index
      refine And.intro ?_ ?_
      · (dsimp only; simp only [Dat.len, Int.toNat_natCast]; omega)   -- 1 load
      refine And.intro ?_ ?_
      · (dsimp only; simp only [Dat.len]; omega)   -- 2 index
      refine And.intro ?_ ?_
      · (dsimp only; simp only [Dat.len, Int.toNat_natCast]; omega)   -- 3 load
      refine ⟨rfl, _, _, s34 _, ?_⟩
      refine And.intro (fun h2 => ?_) (fun h2 => ?_)
      · exact nomatch h2
      · refine ⟨⟨i + 1, by omega⟩, ?_, [0], rfl, ?_, ?_⟩
        · (dsimp only; omega)
        · exact rfl
        · exact ⟨.inr (congrArg (exi .i64) (wr64 (n := (i : Int) + 1) (by omega) (by omega))), .inr rfl, .inr rfl, trivial⟩
    · have q0 : ¬ (i : Int) < xs.length := of_decide_eq_false h1
      exact ⟨[], rfl, rfl, rfl⟩

theorem s29 (o o2 : Bool) (xs : List Nat) (w h : Int) : SP 29 [ar o xs, ar o2 xs] [bas w h 0, bas w h 1] [ar o xs, ar o2 xs] (exb true) := by
  refine spec_of_code (fn := Try.f29) tyOK mixes Try.func29 rfl rfl rfl ⟨.inl rfl, ⟨.inl rfl, rfl⟩⟩ fun hg => ?_
  refine And.intro (fun h0 => ?_) (fun h0 => ?_)
  · simp [bne] at h0
  · refine And.intro (fun h1 => ?_) (fun h1 => ?_)
    · simp [bne] at h1
    · refine ⟨rfl, _, _, s55 _ _ _, ?_⟩
      refine And.intro (fun h2 => ?_) (fun h2 => ?_)
      · exact nomatch h2
      · exact ⟨[], rfl, rfl, rfl⟩

theorem s29' (o : Bool) (xs : List Nat) (w h : Int) : SP 29 [ar o xs] [bas w h 0, bas w h 0] [ar o xs] (exb true) := by
  refine spec_of_code (fn := Try.f29) tyOK mixes Try.func29 rfl rfl rfl ⟨.inl rfl, rfl⟩ fun hg => ?_
  refine And.intro (fun h0 => ?_) (fun h0 => ?_)
  · simp [bne] at h0
  · refine And.intro (fun h1 => ?_) (fun h1 => ?_)
    · simp [bne] at h1
    · refine ⟨rfl, _, _, s55' _ _, ?_⟩
      refine And.intro (fun h2 => ?_) (fun h2 => ?_)
      · exact nomatch h2
      · exact ⟨[], rfl, rfl, rfl⟩

end
end Go.AX