/- What the functions of this program do, one contract a function, by that walk: each under what its own statement says. -/
import Derived.Test.YtojajegjmjmekaaB5
set_option linter.unusedVariables false
set_option linter.unusedSimpArgs false
namespace Go.AX
noncomputable section
open Go.RowKit Go.Proofs
set_option maxRecDepth 100000
set_option maxHeartbeats 4000000
open Go

theorem extern154 (b : Nat) (w : World) : (callFunc 154 #[.float .f32 b]).run Try.prog w = .ok (.value (.int .u32 b)) w := by
  rw [run_callFunc_extern (e := Extern.MathFloatBits.float32bits) Try.func154 (by kernel_rfl) rfl (by kernel_rfl) (by kernel_rfl)]
  rfl
theorem isN_of_cn {k : FloatKind} {x b : Nat} (h : IsF k x b) (hx : isN k x = false) : b = x := by
  cases hb : isN k b
  · rw [← h.1, cn_of_not hb]
  · have := h.1
    rw [cn_of hb] at this
    rw [← this] at hx
    have h2 : isN k (qn k) = true := by cases k <;> decide
    rw [h2] at hx; cases hx
theorem s154 (x : Nat) (hx : isN .f32 x = false) : SP 154 [] [f32 x] [] (exi .u32 x) := by
  refine ⟨rfl, fun w σ us hs hr => .inr ?_⟩
  match us, hr with
  | [u], ⟨⟨b, hu, hb⟩, _⟩ =>
    subst hu
    rw [isN_of_cn hb hx]
    exact ⟨_, w, extern154 x w, σ, hs, rfl, Fr.refl _ _ _⟩

theorem neq_self (k : FloatKind) (x : Nat) : fcmp .neq k x x = isN k x := by
  rw [fcmp_def]; unfold fcmp0 isN FloatKind.decode
  simp only [Ieee.Format.order]
  cases k.format.read x with
  | nan => rfl
  | infinity s => simp [Ieee.Datum.order, Ieee.Datum.isNaN, Nat.compare_eq_eq]
  | number s m i => simp [Ieee.Datum.order, Ieee.Datum.isNaN]
def bitsI (x : Nat) : Int := bif isN .f32 x then 2143289344 else (x : Int)
noncomputable def sameN (x y : Nat) : Bool := bif isN .f32 x || isN .f32 y then isN .f32 x && isN .f32 y else (x : Int) == (y : Int)
theorem bits_same (x y : Nat) : (bitsI x == bitsI y) = sameN x y := by
  have hq : isN .f32 2143289344 = true := by decide
  unfold bitsI sameN
  cases hx : isN .f32 x <;> cases hy : isN .f32 y <;> simp only [cond_true, cond_false, Bool.or_self, Bool.or_false, Bool.or_true, Bool.and_self, Bool.and_false, Bool.false_and]
  · rw [beq_eq_false_iff_ne]; intro e
    have : x = 2143289344 := by omega
    rw [this, hq] at hx; cases hx
  · rw [beq_eq_false_iff_ne]; intro e
    have : y = 2143289344 := by omega
    rw [this, hq] at hy; cases hy
  · rfl
theorem cf_lt {x : Nat} (h : CF .f32 x) : x < 4294967296 := by obtain ⟨b, h⟩ := h; exact h.lt

theorem s168 (x : Nat) : SP 168 [] [f32 x] [] (exi .i64 (bitsI x)) := by
  refine spec_of_code (fn := Try.f168) tyOK mixes Try.func168 rfl rfl rfl rfl fun hg => ?_
  have hx := cf_lt hg.2.1
  refine And.intro (fun h0 => ?_) (fun h0 => ?_)
  · exact ⟨[], rfl, rfl, by rw [bitsI, ← neq_self, h0]; rfl⟩
  · refine ⟨rfl, _, _, s154 _ (by rw [← neq_self]; exact h0), ?_⟩
    exact ⟨[], rfl, rfl, by rw [bitsI, ← neq_self, h0]; exact congrArg (exi .i64) (wr64 (by omega) (by omega))⟩

theorem s160 (x y : Nat) : SP 160 [] [f32 x, f32 y] [] (exb (sameN x y)) := by
  refine spec_of_code (fn := Try.f160) tyOK mixes Try.func160 rfl rfl rfl rfl fun hg => ?_
  refine ⟨rfl, _, _, s168 _, ?_⟩
  refine ⟨rfl, _, _, s168 _, ?_⟩
  exact ⟨[], rfl, rfl, congrArg exb (bits_same x y)⟩

theorem s161 (x : Nat) : SP 161 [] [f32 x] [] (exb (isN .f32 x)) := by
  refine spec_of_code (fn := Try.f161) tyOK mixes Try.func161 rfl rfl rfl rfl fun hg => ?_
  exact ⟨[], rfl, rfl, congrArg exb (neq_self _ _)⟩

theorem s145 (x y : Nat) : SP 145 [] [f32 x, f32 y] [] (exb (sameN x y)) := by
  refine spec_of_code (fn := Try.f145) tyOK mixes Try.func145 rfl rfl rfl rfl fun hg => ?_
  refine ⟨rfl, _, _, s161 _, ?_⟩
  refine And.intro (fun h0 => ?_) (fun h0 => ?_)
  · refine And.intro (fun _ => ?_) (fun h => nomatch h)
    refine ⟨rfl, _, _, s161 _, ?_⟩
    refine And.intro (fun h1 => ?_) (fun h1 => ?_)
    · refine ⟨rfl, _, _, s161 _, ?_⟩
      first
        | (cases h0.symm.trans h1; done)
        | (refine ⟨[], rfl, rfl, congrArg exb ?_⟩; unfold sameN; first | (simp only [h0, h1, cond_true, cond_false, Bool.or_self, Bool.or_false, Bool.or_true, Bool.true_or, Bool.and_self, Bool.and_false, Bool.false_and, Bool.true_and, Bool.and_true]; done) | (rw [h0, h1]; rfl))
    · first
        | (cases h0.symm.trans h1; done)
        | (refine ⟨[], rfl, rfl, congrArg exb ?_⟩; unfold sameN; first | (simp only [h0, h1, cond_true, cond_false, Bool.or_self, Bool.or_false, Bool.or_true, Bool.true_or, Bool.and_self, Bool.and_false, Bool.false_and, Bool.true_and, Bool.and_true]; done) | (rw [h0, h1]; rfl))
  · refine ⟨rfl, _, _, s161 _, ?_⟩
    refine And.intro (fun h1 => ?_) (fun h1 => ?_)
    · refine ⟨rfl, _, _, s161 _, ?_⟩
      refine And.intro (fun h2 => ?_) (fun h2 => ?_)
      · refine ⟨rfl, _, _, s161 _, ?_⟩
        first
          | (cases h0.symm.trans h1; done)
          | (cases h0.symm.trans h2; done)
          | (cases h1.symm.trans h2; done)
          | (refine ⟨[], rfl, rfl, congrArg exb ?_⟩; unfold sameN; first | (simp only [h0, h1, h2, cond_true, cond_false, Bool.or_self, Bool.or_false, Bool.or_true, Bool.true_or, Bool.and_self, Bool.and_false, Bool.false_and, Bool.true_and, Bool.and_true]; done) | (rw [h0, h1, h2]; rfl))
      · first
          | (cases h0.symm.trans h1; done)
          | (cases h0.symm.trans h2; done)
          | (cases h1.symm.trans h2; done)
          | (refine ⟨[], rfl, rfl, congrArg exb ?_⟩; unfold sameN; first | (simp only [h0, h1, h2, cond_true, cond_false, Bool.or_self, Bool.or_false, Bool.or_true, Bool.true_or, Bool.and_self, Bool.and_false, Bool.false_and, Bool.true_and, Bool.and_true]; done) | (rw [h0, h1, h2]; rfl))
    · refine ⟨rfl, _, _, s154 _ h0, ?_⟩
      refine ⟨rfl, _, _, s154 _ h1, ?_⟩
      first
        | (cases h0.symm.trans h1; done)
        | (refine ⟨[], rfl, rfl, congrArg exb ?_⟩; unfold sameN; first | (simp only [h0, h1, cond_true, cond_false, Bool.or_self, Bool.or_false, Bool.or_true, Bool.true_or, Bool.and_self, Bool.and_false, Bool.false_and, Bool.true_and, Bool.and_true]; done) | (rw [h0, h1]; rfl))

/-- Alike, element by element. -/
def allN (p : Nat → Nat → Bool) (xs ys : List Nat) : Bool := decide (xs.length = ys.length ∧ ∀ i, i < xs.length → p (xs.getD i 0) (ys.getD i 0) = true)
theorem allN_len {p : Nat → Nat → Bool} {xs ys : List Nat} (h : (!((xs.length : Int) == (ys.length : Int))) = true) : allN p xs ys = false := by
  refine decide_eq_false fun ⟨e, _⟩ => ?_
  rw [e] at h; simp at h
theorem allN_at {p : Nat → Nat → Bool} {xs ys : List Nat} {i : Nat} (hi : i < xs.length) (h : p (xs.getD i 0) (ys.getD i 0) = false) : allN p xs ys = false := by
  refine decide_eq_false fun ⟨_, e⟩ => ?_
  rw [e i hi] at h; cases h
theorem allN_all {p : Nat → Nat → Bool} {xs ys : List Nat} (e : xs.length = ys.length) (h : ∀ j, j < xs.length → p (xs.getD j 0) (ys.getD j 0) = true) : allN p xs ys = true := decide_eq_true ⟨e, h⟩
theorem len_of {xs ys : List Nat} (h : (!((xs.length : Int) == (ys.length : Int))) = false) : xs.length = ys.length := by
  have := not_f h
  rw [beq_iff_eq] at this; omega

theorem s143 (o o2 : Bool) (xs ys : List Nat) : SP 143 [ar o xs, ar o2 ys] [.one (.sl 0), .one (.sl 1)] [ar o xs, ar o2 ys] (exb (allN sameN xs ys)) := by
  refine spec_of_code (fn := Try.f143) tyOK mixes Try.func143 rfl rfl rfl ⟨.inl rfl, ⟨.inl rfl, rfl⟩⟩ fun hg => ?_
  have hlen : xs.length ≤ maxLen := hg.1.1.1
  have hml : maxLen = 9223372036854775807 := by decide
  refine And.intro (fun h0 => ?_) (fun h0 => ?_)
  · replace h0 : (!((xs.length : Int) == (ys.length : Int))) = true := h0
    exact ⟨[], rfl, rfl, congrArg exb (allN_len h0).symm⟩
  · have hl := len_of h0
    refine ⟨{ i : Nat // i ≤ xs.length ∧ ∀ j, j < i → sameN (xs.getD j 0) (ys.getD j 0) = true }, fun i => ⟨[(5, exi .i64 i.1), (0, one (.sl 0)), (1, one (.sl 1))], [ar o xs, ar o2 ys]⟩, fun i => xs.length - i.1, ⟨0, Nat.zero_le _, fun j hj => absurd hj (Nat.not_lt_zero j)⟩, .inl ⟨[0, 1], rfl, ?_, ?_⟩, fun ⟨i, hi, hx⟩ => ?_⟩
    · exact rfl
    · exact ⟨.inr rfl, .inr rfl, .inr rfl, trivial⟩
    refine And.intro (fun h1 => ?_) (fun h1 => ?_)
    · have q0 : (i : Int) < xs.length := of_decide_eq_true h1
      refine Or.inl ⟨8, [0, 1, 2, 3, 4, 5, 6, 7], by kernel_rfl, ?_⟩
      refine And.intro ?_ ?_
      · (dsimp only; simp only [Dat.len]; omega)   -- 0 index
      refine And.intro ?_ ?_
      · (dsimp only; simp only [Dat.len, Int.toNat_natCast]; omega)   -- 1 load
      refine And.intro ?_ ?_
      · (dsimp only; simp only [Dat.len]; omega)   -- 2 index
      refine And.intro ?_ ?_
      · (dsimp only; simp only [Dat.len, Int.toNat_natCast]; omega)   -- 3 load
      refine ⟨rfl, _, _, s160 _ _, ?_⟩
      refine And.intro (fun h2 => ?_) (fun h2 => ?_)
      · exact ⟨[], rfl, rfl, congrArg exb (allN_at (i := i) (by omega) (not_t h2)).symm⟩
      · refine ⟨⟨i + 1, by omega, fun j hj => (Nat.lt_or_eq_of_le (Nat.le_of_lt_succ hj)).elim (hx j) (fun e => by subst e; exact not_f h2)⟩, ?_, [0, 1], rfl, ?_, ?_⟩
        · (dsimp only; omega)
        · exact rfl
        · exact ⟨.inr (congrArg (exi .i64) (wr64 (n := (i : Int) + 1) (by omega) (by omega))), .inr rfl, .inr rfl, trivial⟩
    · have q0 : ¬ (i : Int) < xs.length := of_decide_eq_false h1
      exact ⟨[], rfl, rfl, congrArg exb (allN_all hl fun j hj => hx j (by omega)).symm⟩

theorem s144 (o o2 : Bool) (xs ys : List Nat) : SP 144 [ar o xs, ar o2 ys] [.one (.sl 0), .one (.sl 1), .one (.fn 145 [] [])] [ar o xs, ar o2 ys] (exb (allN sameN xs ys)) := by
  refine spec_of_code (fn := Try.f144) tyOK mixes Try.func144 rfl rfl rfl ⟨.inl rfl, ⟨.inl rfl, rfl⟩⟩ fun hg => ?_
  have hlen : xs.length ≤ maxLen := hg.1.1.1
  have hml : maxLen = 9223372036854775807 := by decide
  refine And.intro (fun h0 => ?_) (fun h0 => ?_)
  · replace h0 : (!((xs.length : Int) == (ys.length : Int))) = true := h0
    exact ⟨[], rfl, rfl, congrArg exb (allN_len h0).symm⟩
  · have hl := len_of h0
    refine ⟨{ i : Nat // i ≤ xs.length ∧ ∀ j, j < i → sameN (xs.getD j 0) (ys.getD j 0) = true }, fun i => ⟨[(17, exi .i64 i.1), (16, exi .i64 xs.length), (15, one (.sl 0)), (1, one (.sl 1)), (2, one (.fn 145 [] []))], [ar o xs, ar o2 ys]⟩, fun i => xs.length - i.1, ⟨0, Nat.zero_le _, fun j hj => absurd hj (Nat.not_lt_zero j)⟩, .inl ⟨[0, 1], rfl, ?_, ?_⟩, fun ⟨i, hi, hx⟩ => ?_⟩
    · exact rfl
    · exact ⟨.inr rfl, .inr rfl, .inr rfl, .inr rfl, .inr rfl, trivial⟩
    refine And.intro (fun h1 => ?_) (fun h1 => ?_)
    · have q0 : (i : Int) < xs.length := of_decide_eq_true h1
      refine And.intro ?_ ?_
      · (dsimp only; simp only [Dat.len]; omega)   -- 0 index
      refine And.intro ?_ ?_
      · (dsimp only; simp only [Dat.len, Int.toNat_natCast]; omega)   -- 1 load
      refine And.intro ?_ ?_
      · (dsimp only; simp only [Dat.len]; omega)   -- 2 index
      refine And.intro ?_ ?_
      · (dsimp only; simp only [Dat.len, Int.toNat_natCast]; omega)   -- 3 load
      refine ⟨rfl, _, _, s145 _ _, ?_⟩
      refine And.intro (fun h2 => ?_) (fun h2 => ?_)
      · exact ⟨[], rfl, rfl, congrArg exb (allN_at (i := i) (by omega) (not_t h2)).symm⟩
      · refine ⟨⟨i + 1, by omega, fun j hj => (Nat.lt_or_eq_of_le (Nat.le_of_lt_succ hj)).elim (hx j) (fun e => by subst e; exact not_f h2)⟩, ?_, [0, 1], rfl, ?_, ?_⟩
        · (dsimp only; omega)
        · exact rfl
        · exact ⟨.inr (congrArg (exi .i64) (wr64 (n := (i : Int) + 1) (by omega) (by omega))), .inr rfl, .inr rfl, .inr rfl, .inr rfl, trivial⟩
    · have q0 : ¬ (i : Int) < xs.length := of_decide_eq_false h1
      exact ⟨[], rfl, rfl, congrArg exb (allN_all hl fun j hj => hx j (by omega)).symm⟩

theorem s84 (o o2 : Bool) (xs ys : List Nat) : SP 84 [ar o xs, ar o2 ys] [.one (.sl 0), .one (.sl 1)] [ar o xs, ar o2 ys] (exb (allN sameN xs ys)) := by
  refine spec_of_code (fn := Try.f84) tyOK mixes Try.func84 rfl rfl rfl ⟨.inl rfl, ⟨.inl rfl, rfl⟩⟩ fun hg => ?_
  refine ⟨rfl, _, _, s144 _ _ _ _, ?_⟩
  exact ⟨[], rfl, rfl, rfl⟩

theorem sz_le2 {n m : Nat} (h : decide (sz 1048576 n < 0) = false) (h2 : decide (sz (sz 1048576 n) m < 0) = false) (hm : n ≤ maxLen) (hm2 : m ≤ maxLen) : m ≤ 1048576 := by
  have hn := sz_le h hm
  have h := of_decide_eq_false h
  have h2 := of_decide_eq_false h2
  have hml : maxLen = 9223372036854775807 := by decide
  have e : sz 1048576 n = 1048576 - n := by
    unfold sz
    rw [wr64 (by omega) (by omega), if_neg (by omega)]
  rw [e] at h2
  unfold sz at h2
  rw [wr64 (by omega) (by omega)] at h2
  split at h2 <;> omega
def sameB (w h : Int) (xs : List Nat) (w2 h2 : Int) (ys : List Nat) : Bool := (w == w2) && ((h == h2) && allN sameN xs ys)

theorem s83 (o o2 : Bool) (xs ys : List Nat) (w h w2 k2 : Int) : SP 83 [basV w h 2, basV w2 k2 3, ar o xs, ar o2 ys] [.one (.pv 0 0), .one (.pv 1 0)] [basV w h 2, basV w2 k2 3, ar o xs, ar o2 ys] (exb (sameB w h xs w2 k2 ys)) := by
  refine spec_of_code (fn := Try.f83) tyOK mixes Try.func83 rfl rfl rfl ⟨.inl rfl, ⟨.inl rfl, ⟨.inl rfl, ⟨.inl rfl, rfl⟩⟩⟩⟩ fun hg => ?_
  refine Or.inl ⟨29, [0, 1, 2, 3, 4, 5, 6, 7, 8, 9, 10, 11, 12, 13, 14, 15, 16, 17, 18, 19, 20, 21, 22, 23, 24, 25, 26, 27, 28], by kernel_rfl, ?_⟩
  refine And.intro (fun h0 => ?_) (fun h0 => ?_)
  · refine And.intro (fun h1 => ?_) (fun h1 => ?_)
    · refine ⟨rfl, _, _, s143 _ _ _ _, ?_⟩
      refine ⟨[], rfl, rfl, congrArg exb ?_⟩
      simp only [sameB, h0, h1, Bool.false_and, Bool.true_and, Bool.not_true, Bool.and_true, Bool.and_false, Bool.not_false, Bool.or_false, Bool.or_true, Bool.false_or, Bool.true_or]
    · refine ⟨[], rfl, rfl, congrArg exb ?_⟩
      simp only [sameB, h0, h1, Bool.false_and, Bool.true_and, Bool.not_true, Bool.and_true, Bool.and_false, Bool.not_false, Bool.or_false, Bool.or_true, Bool.false_or, Bool.true_or]
  · refine And.intro (fun h => nomatch h) (fun _ => ?_)
    refine ⟨[], rfl, rfl, congrArg exb ?_⟩
    simp only [sameB, h0, Bool.false_and, Bool.true_and, Bool.not_true, Bool.and_true, Bool.and_false, Bool.not_false, Bool.or_false, Bool.or_true, Bool.false_or, Bool.true_or]

theorem s31 (o o2 : Bool) (xs ys : List Nat) (w h w2 k2 : Int) : SP 31 [ar o xs, ar o2 ys] [bas w h 0, bas w2 k2 1] [ar o xs, ar o2 ys] (exb (sameB w h xs w2 k2 ys)) := by
  refine spec_of_code (fn := Try.f31) tyOK mixes Try.func31 rfl rfl rfl ⟨.inl rfl, ⟨.inl rfl, rfl⟩⟩ fun hg => ?_
  refine And.intro (fun h0 => ?_) (fun h0 => ?_)
  · refine And.intro (fun h1 => ?_) (fun h1 => ?_)
    · refine ⟨rfl, _, _, s84 _ _ _ _, ?_⟩
      refine ⟨[], rfl, rfl, congrArg exb ?_⟩
      simp only [sameB, h0, h1, Bool.false_and, Bool.true_and, Bool.not_true, Bool.and_true, Bool.and_false, Bool.not_false, Bool.or_false, Bool.or_true, Bool.false_or, Bool.true_or]
    · refine ⟨[], rfl, rfl, congrArg exb ?_⟩
      simp only [sameB, h0, h1, Bool.false_and, Bool.true_and, Bool.not_true, Bool.and_true, Bool.and_false, Bool.not_false, Bool.or_false, Bool.or_true, Bool.false_or, Bool.true_or]
  · refine And.intro (fun h => nomatch h) (fun _ => ?_)
    refine ⟨[], rfl, rfl, congrArg exb ?_⟩
    simp only [sameB, h0, Bool.false_and, Bool.true_and, Bool.not_true, Bool.and_true, Bool.and_false, Bool.not_false, Bool.or_false, Bool.or_true, Bool.false_or, Bool.true_or]

theorem s30 (o o2 : Bool) (xs ys : List Nat) (w h w2 k2 : Int) : SP 30 [ar o xs, ar o2 ys] [bas w h 0, bas w2 k2 1] [ar o xs, ar o2 ys] (exb (sameB w h xs w2 k2 ys)) := by
  refine spec_of_code (fn := Try.f30) tyOK mixes Try.func30 rfl rfl rfl ⟨.inl rfl, ⟨.inl rfl, rfl⟩⟩ fun hg => ?_
  refine ⟨rfl, _, _, s83 _ _ _ _ _ _ _ _, ?_⟩
  exact ⟨[], rfl, rfl, rfl⟩

theorem s4 (o o2 : Bool) (xs ys : List Nat) (w h w2 k2 : Int) : SP 4 [ar o xs, ar o2 ys] [bas w h 0, bas w2 k2 1] [ar o xs, ar o2 ys] (exb true) := by
  refine spec_of_code (fn := Try.f4) tyOK mixes Try.func4 rfl rfl rfl ⟨.inl rfl, ⟨.inl rfl, rfl⟩⟩ fun hg => ?_
  refine ⟨rfl, _, _, s25 _ _ _ _ _, ?_⟩
  refine And.intro (fun h0 => ?_) (fun h0 => ?_)
  · exact ⟨[], rfl, rfl, rfl⟩
  · have hn : xs.length ≤ 1048576 := sz_le h0 hg.1.1.1
    refine ⟨rfl, _, _, s25 _ _ _ _ _, ?_⟩
    refine And.intro (fun h1 => ?_) (fun h1 => ?_)
    · exact ⟨[], rfl, rfl, rfl⟩
    · have hn2 : ys.length ≤ 1048576 := sz_le2 h0 h1 hg.1.1.1 hg.1.2.1.1
      refine Or.inl ⟨3, [0, 2, 1], by kernel_rfl, ?_⟩
      refine ⟨rfl, _, _, s27 _ _ (by assumption) _ _, rfl, ?_⟩
      refine ⟨rfl, _, _, s27 _ _ (by assumption) _ _, ?_⟩
      refine ⟨rfl, _, _, s30 _ _ _ _ _ _ _ _, ?_⟩
      refine ⟨rfl, _, _, s27 _ _ (by assumption) _ _, ?_⟩
      refine ⟨rfl, _, _, s27 _ _ (by assumption) _ _, ?_⟩
      refine ⟨rfl, _, _, s31 _ _ _ _ _ _ _ _, ?_⟩
      refine And.intro (fun h2 => ?_) (fun h2 => ?_)
      · exact bnn h2
      · refine Or.inl ⟨3, [0, 1, 2], by kernel_rfl, ?_⟩
        refine ⟨rfl, _, _, s27 _ _ (by assumption) _ _, rfl, ?_⟩
        refine ⟨rfl, _, _, s29 _ _ _ _ _, ?_⟩
        refine And.intro (fun h3 => ?_) (fun h3 => ?_)
        · exact nomatch h3
        · refine Or.inl ⟨3, [0, 1, 2], by kernel_rfl, ?_⟩
          refine ⟨rfl, _, _, s27 _ _ (by assumption) _ _, rfl, ?_⟩
          refine ⟨rfl, _, _, s29 _ _ _ _ _, ?_⟩
          refine And.intro (fun h4 => ?_) (fun h4 => ?_)
          · exact nomatch h4
          · exact ⟨[], rfl, rfl, rfl⟩

end
end Go.AX