/- What the functions of this program do, one contract a function, by that walk: each under what its own statement says. -/
import Derived.Test.YtojajegjmjmekaaB3
set_option linter.unusedVariables false
set_option linter.unusedSimpArgs false
namespace Go.AX
noncomputable section
open Go.RowKit Go.Proofs
set_option maxRecDepth 100000
set_option maxHeartbeats 4000000

/-- A running sum. -/
def acc (g : Nat → Nat → Nat) (xs : List Nat) : Nat → Nat
  | 0 => cn .f32 0
  | i + 1 => g (acc g xs i) (xs.getD i 0)
noncomputable def gT (s x : Nat) : Nat := fop .add .f32 s x
noncomputable def gS (s x : Nat) : Nat := fop .add .f32 s (fop .mul .f32 x x)
def numB (b : Bool) (y : Nat) : Nat := bif b then y else cn .f32 0
abbrev told (b : Bool) (y : Nat) : AV := .tup [f32 (numB b y), .one (.ex (.bool b))]

theorem s89 (o : Bool) (xs : List Nat) (w h : Int) : SP 89 [basV w h 1, ar o xs] [.one (.pv 0 0)] [basV w h 1, ar o xs] (fl32 (acc gT xs xs.length)) := by
  refine spec_of_code (fn := Try.f89) tyOK mixes Try.func89 rfl rfl rfl ⟨.inl rfl, ⟨.inl rfl, rfl⟩⟩ fun hg => ?_
  have hlen : xs.length ≤ maxLen := hg.1.2.1.1
  have hml : maxLen = 9223372036854775807 := by decide
  refine ⟨{ i : Nat // i ≤ xs.length }, fun i => ⟨[(4, exi .i64 i.1), (0, one (.pv 0 0)), (3, fl32 (acc gT xs i.1))], [basV w h 1, ar o xs]⟩, fun i => xs.length - i.1, ⟨0, Nat.zero_le _⟩, .inl ⟨[0, 1], rfl, ?_, ?_⟩, fun ⟨i, hi⟩ => ?_⟩
  · exact rfl
  · exact ⟨.inr rfl, .inr rfl, .inr rfl, trivial⟩
  refine And.intro (fun h0 => ?_) (fun h0 => ?_)
  · have q0 : (i : Int) < xs.length := of_decide_eq_true h0
    refine And.intro ?_ ?_
    · (dsimp only; simp only [Dat.len]; omega)   -- 0 index
    refine And.intro ?_ ?_
    · (dsimp only; simp only [Dat.len, Int.toNat_natCast]; omega)   -- 1 load
    refine ⟨⟨i + 1, by omega⟩, ?_, [0, 1], rfl, ?_, ?_⟩
    · (dsimp only; omega)
    · exact rfl
    · exact ⟨.inr (congrArg (exi .i64) (wr64 (n := (i : Int) + 1) (by omega) (by omega))), .inr rfl, .inr rfl, trivial⟩
  · have q0 : ¬ (i : Int) < xs.length := of_decide_eq_false h0
    have e : i = xs.length := by omega
    subst e
    exact ⟨[], rfl, rfl, rfl⟩

theorem s86 (o : Bool) (xs : List Nat) (w h : Int) : SP 86 [basV w h 1, ar o xs] [.one (.pv 0 0)] [basV w h 1, ar o xs] (fl32 (acc gS xs xs.length)) := by
  refine spec_of_code (fn := Try.f86) tyOK mixes Try.func86 rfl rfl rfl ⟨.inl rfl, ⟨.inl rfl, rfl⟩⟩ fun hg => ?_
  have hlen : xs.length ≤ maxLen := hg.1.2.1.1
  have hml : maxLen = 9223372036854775807 := by decide
  refine ⟨{ i : Nat // i ≤ xs.length }, fun i => ⟨[(4, exi .i64 i.1), (0, one (.pv 0 0)), (3, fl32 (acc gS xs i.1))], [basV w h 1, ar o xs]⟩, fun i => xs.length - i.1, ⟨0, Nat.zero_le _⟩, .inl ⟨[0, 1], rfl, ?_, ?_⟩, fun ⟨i, hi⟩ => ?_⟩
  · exact rfl
  · exact ⟨.inr rfl, .inr rfl, .inr rfl, trivial⟩
  refine And.intro (fun h0 => ?_) (fun h0 => ?_)
  · have q0 : (i : Int) < xs.length := of_decide_eq_true h0
    refine Or.inl ⟨16, [0, 1, 2, 3, 4, 5, 6, 7, 8, 9, 10, 11, 12, 13, 14, 15], by kernel_rfl, ?_⟩
    refine And.intro ?_ ?_
    · (dsimp only; simp only [Dat.len]; omega)   -- 0 index
    refine And.intro ?_ ?_
    · (dsimp only; simp only [Dat.len, Int.toNat_natCast]; omega)   -- 1 load
    refine And.intro ?_ ?_
    · (dsimp only; simp only [Dat.len]; omega)   -- 2 index
    refine And.intro ?_ ?_
    · (dsimp only; simp only [Dat.len, Int.toNat_natCast]; omega)   -- 3 load
    refine ⟨⟨i + 1, by omega⟩, ?_, [0, 1], rfl, ?_, ?_⟩
    · (dsimp only; omega)
    · exact rfl
    · exact ⟨.inr (congrArg (exi .i64) (wr64 (n := (i : Int) + 1) (by omega) (by omega))), .inr rfl, .inr rfl, trivial⟩
  · have q0 : ¬ (i : Int) < xs.length := of_decide_eq_false h0
    have e : i = xs.length := by omega
    subst e
    exact ⟨[], rfl, rfl, rfl⟩

theorem s90 (o : Bool) (xs : List Nat) : SP 90 [ar o xs] [.one (.sl 0)] [ar o xs] (fl32 (acc gT xs xs.length)) := by
  refine spec_of_code (fn := Try.f90) tyOK mixes Try.func90 rfl rfl rfl ⟨.inl rfl, rfl⟩ fun hg => ?_
  have hlen : xs.length ≤ maxLen := hg.1.1.1
  have hml : maxLen = 9223372036854775807 := by decide
  refine ⟨{ i : Nat // i ≤ xs.length }, fun i => ⟨[(8, exi .i64 i.1), (7, exi .i64 xs.length), (6, one (.sl 0)), (3, fl32 (acc gT xs i.1))], [ar o xs]⟩, fun i => xs.length - i.1, ⟨0, Nat.zero_le _⟩, .inl ⟨[0], rfl, ?_, ?_⟩, fun ⟨i, hi⟩ => ?_⟩
  · exact rfl
  · exact ⟨.inr rfl, .inr rfl, .inr rfl, .inr rfl, trivial⟩
  refine And.intro (fun h0 => ?_) (fun h0 => ?_)
  · have q0 : (i : Int) < xs.length := of_decide_eq_true h0
    refine And.intro ?_ ?_
    · (dsimp only; simp only [Dat.len]; omega)   -- 0 index
    refine And.intro ?_ ?_
    · (dsimp only; simp only [Dat.len, Int.toNat_natCast]; omega)   -- 1 load
    refine ⟨⟨i + 1, by omega⟩, ?_, [0], rfl, ?_, ?_⟩
    · (dsimp only; omega)
    · exact rfl
    · exact ⟨.inr (congrArg (exi .i64) (wr64 (n := (i : Int) + 1) (by omega) (by omega))), .inr rfl, .inr rfl, .inr rfl, trivial⟩
  · have q0 : ¬ (i : Int) < xs.length := of_decide_eq_false h0
    have e : i = xs.length := by omega
    subst e
    exact ⟨[], rfl, rfl, rfl⟩

theorem s88 (o : Bool) (xs : List Nat) : SP 88 [ar o xs] [.one (.sl 0), .one (.sl 0)] [ar o xs] (fl32 (acc gS xs xs.length)) := by
  refine spec_of_code (fn := Try.f88) tyOK mixes Try.func88 rfl rfl rfl ⟨.inl rfl, rfl⟩ fun hg => ?_
  have hlen : xs.length ≤ maxLen := hg.1.1.1
  have hml : maxLen = 9223372036854775807 := by decide
  refine ⟨{ i : Nat // i ≤ xs.length }, fun i => ⟨[(10, exi .i64 i.1), (9, exi .i64 xs.length), (8, one (.sl 0)), (1, one (.sl 0)), (5, fl32 (acc gS xs i.1))], [ar o xs]⟩, fun i => xs.length - i.1, ⟨0, Nat.zero_le _⟩, .inl ⟨[0], rfl, ?_, ?_⟩, fun ⟨i, hi⟩ => ?_⟩
  · exact rfl
  · exact ⟨.inr rfl, .inr rfl, .inr rfl, .inr rfl, .inr rfl, trivial⟩
  refine And.intro (fun h0 => ?_) (fun h0 => ?_)
  · have q0 : (i : Int) < xs.length := of_decide_eq_true h0
    refine And.intro ?_ ?_
    · (dsimp only; simp only [Dat.len]; omega)   -- 0 index
    refine And.intro ?_ ?_
    · (dsimp only; simp only [Dat.len, Int.toNat_natCast]; omega)   -- 1 load
    refine And.intro ?_ ?_
    · (dsimp only; simp only [Dat.len]; omega)   -- 2 index
    refine And.intro ?_ ?_
    · (dsimp only; simp only [Dat.len, Int.toNat_natCast]; omega)   -- 3 load
    refine ⟨⟨i + 1, by omega⟩, ?_, [0], rfl, ?_, ?_⟩
    · (dsimp only; omega)
    · exact rfl
    · exact ⟨.inr (congrArg (exi .i64) (wr64 (n := (i : Int) + 1) (by omega) (by omega))), .inr rfl, .inr rfl, .inr rfl, .inr rfl, trivial⟩
  · have q0 : ¬ (i : Int) < xs.length := of_decide_eq_false h0
    have e : i = xs.length := by omega
    subst e
    exact ⟨[], rfl, rfl, rfl⟩

theorem s85 (x : Nat) : SP 85 [] [f32 x] [] (told (finB x) x) := by
  refine spec_of_code (fn := Try.f85) tyOK mixes Try.func85 rfl rfl rfl rfl fun hg => ?_
  refine ⟨rfl, _, _, s107 _, ?_⟩
  refine And.intro (fun h0 => ?_) (fun h0 => ?_)
  · exact ⟨[], rfl, rfl, by rw [not_t h0]; rfl⟩
  · exact ⟨[], rfl, rfl, by rw [not_f h0]; rfl⟩

theorem s87 (x : Nat) : SP 87 [] [f32 x] [] (told (finB x) x) := by
  refine spec_of_code (fn := Try.f87) tyOK mixes Try.func87 rfl rfl rfl rfl fun hg => ?_
  refine ⟨rfl, _, _, s111 _, ?_⟩
  refine And.intro (fun h0 => ?_) (fun h0 => ?_)
  · exact ⟨[], rfl, rfl, by rw [not_t h0]; rfl⟩
  · exact ⟨[], rfl, rfl, by rw [not_f h0]; rfl⟩

theorem s37 (o : Bool) (xs : List Nat) (w h : Int) : SP 37 [ar o xs] [bas w h 0] [ar o xs] (told (isB w h xs && finB (acc gT xs xs.length)) (acc gT xs xs.length)) := by
  refine spec_of_code (fn := Try.f37) tyOK mixes Try.func37 rfl rfl rfl ⟨.inl rfl, rfl⟩ fun hg => ?_
  refine ⟨rfl, _, _, s79 _ _ _ _, ?_⟩
  refine And.intro (fun h0 => ?_) (fun h0 => ?_)
  · exact ⟨[], rfl, rfl, by rw [not_t h0]; rfl⟩
  · refine ⟨rfl, _, _, s89 _ _ _ _, ?_⟩
    refine ⟨rfl, _, _, s85 _, ?_⟩
    exact ⟨[], rfl, rfl, by rw [not_f h0, Bool.true_and]⟩

theorem s35 (o : Bool) (xs : List Nat) (w h : Int) : SP 35 [ar o xs] [bas w h 0] [ar o xs] (told (isB w h xs && finB (acc gS xs xs.length)) (acc gS xs xs.length)) := by
  refine spec_of_code (fn := Try.f35) tyOK mixes Try.func35 rfl rfl rfl ⟨.inl rfl, rfl⟩ fun hg => ?_
  refine ⟨rfl, _, _, s79 _ _ _ _, ?_⟩
  refine And.intro (fun h0 => ?_) (fun h0 => ?_)
  · exact ⟨[], rfl, rfl, by rw [not_t h0]; rfl⟩
  · refine ⟨rfl, _, _, s86 _ _ _ _, ?_⟩
    refine ⟨rfl, _, _, s85 _, ?_⟩
    exact ⟨[], rfl, rfl, by rw [not_f h0, Bool.true_and]⟩

theorem s38 (o : Bool) (xs : List Nat) (w h : Int) : SP 38 [ar o xs] [bas w h 0] [ar o xs] (told (isB w h xs && finB (acc gT xs xs.length)) (acc gT xs xs.length)) := by
  refine spec_of_code (fn := Try.f38) tyOK mixes Try.func38 rfl rfl rfl ⟨.inl rfl, rfl⟩ fun hg => ?_
  refine ⟨rfl, _, _, s28 _ _ _ _, ?_⟩
  refine And.intro (fun h0 => ?_) (fun h0 => ?_)
  · exact ⟨[], rfl, rfl, by rw [not_t h0]; rfl⟩
  · refine ⟨rfl, _, _, s90 _ _, ?_⟩
    refine ⟨rfl, _, _, s87 _, ?_⟩
    exact ⟨[], rfl, rfl, by rw [not_f h0, Bool.true_and]⟩

theorem s36 (o : Bool) (xs : List Nat) (w h : Int) : SP 36 [ar o xs] [bas w h 0] [ar o xs] (told (isB w h xs && finB (acc gS xs xs.length)) (acc gS xs xs.length)) := by
  refine spec_of_code (fn := Try.f36) tyOK mixes Try.func36 rfl rfl rfl ⟨.inl rfl, rfl⟩ fun hg => ?_
  refine ⟨rfl, _, _, s28 _ _ _ _, ?_⟩
  refine And.intro (fun h0 => ?_) (fun h0 => ?_)
  · exact ⟨[], rfl, rfl, by rw [not_t h0]; rfl⟩
  · refine ⟨rfl, _, _, s88 _ _, ?_⟩
    refine ⟨rfl, _, _, s87 _, ?_⟩
    exact ⟨[], rfl, rfl, by rw [not_f h0, Bool.true_and]⟩

theorem s7 (o : Bool) (xs : List Nat) (w h : Int) : SP 7 [ar o xs] [bas w h 0] [ar o xs] (exb true) := by
  refine spec_of_code (fn := Try.f7) tyOK mixes Try.func7 rfl rfl rfl ⟨.inl rfl, rfl⟩ fun hg => ?_
  refine ⟨rfl, _, _, s25 _ _ _ _ _, ?_⟩
  refine And.intro (fun h0 => ?_) (fun h0 => ?_)
  · exact ⟨[], rfl, rfl, rfl⟩
  · have hn : xs.length ≤ 1048576 := sz_le h0 hg.1.1.1
    refine ⟨rfl, _, _, s27 _ _ hn _ _, ?_⟩
    refine ⟨rfl, _, _, s37 _ _ _ _, ?_⟩
    refine ⟨rfl, _, _, s27 _ _ hn _ _, ?_⟩
    refine ⟨rfl, _, _, s38 _ _ _ _, ?_⟩
    refine ⟨rfl, _, _, s34 _, ?_⟩
    refine And.intro (fun h1 => ?_) (fun h1 => ?_)
    · refine And.intro (fun _ => ?_) (fun h => nomatch h)
      exact nomatch h1
    · refine And.intro (fun h2 => ?_) (fun h2 => ?_)
      · exact bnn h2
      · refine Or.inl ⟨3, [0, 1, 2], by kernel_rfl, ?_⟩
        refine ⟨rfl, _, _, s27 _ _ hn _ _, rfl, ?_⟩
        refine ⟨rfl, _, _, s29 _ _ _ _ _, ?_⟩
        refine And.intro (fun h3 => ?_) (fun h3 => ?_)
        · exact nomatch h3
        · exact ⟨[], rfl, rfl, rfl⟩

theorem s6 (o : Bool) (xs : List Nat) (w h : Int) : SP 6 [ar o xs] [bas w h 0] [ar o xs] (exb true) := by
  refine spec_of_code (fn := Try.f6) tyOK mixes Try.func6 rfl rfl rfl ⟨.inl rfl, rfl⟩ fun hg => ?_
  refine ⟨rfl, _, _, s25 _ _ _ _ _, ?_⟩
  refine And.intro (fun h0 => ?_) (fun h0 => ?_)
  · exact ⟨[], rfl, rfl, rfl⟩
  · have hn : xs.length ≤ 1048576 := sz_le h0 hg.1.1.1
    refine ⟨rfl, _, _, s27 _ _ hn _ _, ?_⟩
    refine ⟨rfl, _, _, s35 _ _ _ _, ?_⟩
    refine ⟨rfl, _, _, s27 _ _ hn _ _, ?_⟩
    refine ⟨rfl, _, _, s36 _ _ _ _, ?_⟩
    refine ⟨rfl, _, _, s34 _, ?_⟩
    refine And.intro (fun h1 => ?_) (fun h1 => ?_)
    · refine And.intro (fun _ => ?_) (fun h => nomatch h)
      exact nomatch h1
    · refine And.intro (fun h2 => ?_) (fun h2 => ?_)
      · exact bnn h2
      · refine Or.inl ⟨3, [0, 1, 2], by kernel_rfl, ?_⟩
        refine ⟨rfl, _, _, s27 _ _ hn _ _, rfl, ?_⟩
        refine ⟨rfl, _, _, s29 _ _ _ _ _, ?_⟩
        refine And.intro (fun h3 => ?_) (fun h3 => ?_)
        · exact nomatch h3
        · exact ⟨[], rfl, rfl, rfl⟩

end
end Go.AX