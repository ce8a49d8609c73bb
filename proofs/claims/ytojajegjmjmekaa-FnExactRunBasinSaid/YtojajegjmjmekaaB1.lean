/- What the functions of this program do, one contract a function, by that walk: each under what its own statement says. -/
import Derived.Test.YtojajegjmjmekaaBas
set_option linter.unusedVariables false
set_option linter.unusedSimpArgs false
namespace Go.AX
noncomputable section
open Go.RowKit Go.Proofs
set_option maxRecDepth 100000
set_option maxHeartbeats 4000000

theorem wr64 {n : Int} (h0 : -9223372036854775808 ≤ n) (h1 : n < 9223372036854775808) : IntKind.i64.wrap n = n := by rw [IntKind.wrap_i64]; omega

/-- The first that fits. -/
def fi (p : Nat → Bool) (xs : List Nat) : Int := if xs.any p then (xs.findIdx p : Nat) else -1
theorem fi_at {p : Nat → Bool} {xs : List Nat} {i : Nat} (hi : i < xs.length) (hp : p (xs.getD i 0) = true) (hb : ∀ j, j < i → p (xs.getD j 0) = false) : fi p xs = i := by
  have e : ∀ j (hj : j < xs.length), xs.getD j 0 = xs[j] := fun j hj => by simp [List.getD_eq_getElem?_getD, hj]
  rw [e i hi] at hp
  have ha : xs.any p = true := List.any_eq_true.2 ⟨_, List.getElem_mem hi, hp⟩
  unfold fi
  rw [if_pos ha]
  congr 1
  rw [List.findIdx_eq hi]
  refine ⟨hp, fun j hj => ?_⟩
  rw [← e j (by omega)]; simpa using hb j hj
theorem fi_none {p : Nat → Bool} {xs : List Nat} (hb : ∀ j, j < xs.length → p (xs.getD j 0) = false) : fi p xs = -1 := by
  unfold fi
  rw [if_neg]
  intro ha
  obtain ⟨x, hx, hp⟩ := List.any_eq_true.1 ha
  obtain ⟨j, hj, rfl⟩ := List.mem_iff_getElem.1 hx
  have := hb j hj
  simp [List.getD_eq_getElem?_getD, hj] at this
  rw [this] at hp; cases hp
theorem fi_ge {p : Nat → Bool} {xs : List Nat} : decide (fi p xs ≥ 0) = xs.any p := by
  unfold fi
  cases h : xs.any p
  · simp
  · simp

def inB (x a b : Int) : Bool := decide (x ≥ a) && decide (x ≤ b)
noncomputable def finB (x : Nat) : Bool := fcmp .eql .f32 (fop .sub .f32 x x) (cn .f32 0)
def sizeB (w h : Int) : Bool := inB w 3 16 && inB h 3 16
def isB (w h : Int) (xs : List Nat) : Bool := sizeB w h && (((xs.length : Int) == IntKind.i64.wrap (w * h)) && xs.all finB)

theorem s104 (x a b : Int) : SP 104 [] [i64 x, i64 a, i64 b] [] (exb (inB x a b)) := by
  refine spec_of_code (fn := Try.f104) tyOK mixes Try.func104 rfl rfl rfl rfl fun hg => ?_
  refine And.intro (fun h0 => ?_) (fun h0 => ?_)
  · refine ⟨[], rfl, rfl, congrArg exb ?_⟩
    simp only [inB, h0, Bool.false_and, Bool.true_and, Bool.not_true, Bool.and_true, Bool.and_false, Bool.not_false, Bool.or_false, Bool.or_true, Bool.false_or, Bool.true_or]
  · refine ⟨[], rfl, rfl, congrArg exb ?_⟩
    simp only [inB, h0, Bool.false_and, Bool.true_and, Bool.not_true, Bool.and_true, Bool.and_false, Bool.not_false, Bool.or_false, Bool.or_true, Bool.false_or, Bool.true_or]

theorem s105 (x a b : Int) : SP 105 [] [i64 x, i64 a, i64 b] [] (exb (inB x a b)) := by
  refine spec_of_code (fn := Try.f105) tyOK mixes Try.func105 rfl rfl rfl rfl fun hg => ?_
  refine And.intro (fun h0 => ?_) (fun h0 => ?_)
  · refine ⟨[], rfl, rfl, congrArg exb ?_⟩
    simp only [inB, h0, Bool.false_and, Bool.true_and, Bool.not_true, Bool.and_true, Bool.and_false, Bool.not_false, Bool.or_false, Bool.or_true, Bool.false_or, Bool.true_or]
  · refine ⟨[], rfl, rfl, congrArg exb ?_⟩
    simp only [inB, h0, Bool.false_and, Bool.true_and, Bool.not_true, Bool.and_true, Bool.and_false, Bool.not_false, Bool.or_false, Bool.or_true, Bool.false_or, Bool.true_or]

theorem s107 (x : Nat) : SP 107 [] [f32 x] [] (exb (finB x)) := by
  refine spec_of_code (fn := Try.f107) tyOK mixes Try.func107 rfl rfl rfl rfl fun hg => ?_
  exact ⟨[], rfl, rfl, rfl⟩

theorem s111 (x : Nat) : SP 111 [] [f32 x] [] (exb (finB x)) := by
  refine spec_of_code (fn := Try.f111) tyOK mixes Try.func111 rfl rfl rfl rfl fun hg => ?_
  exact ⟨[], rfl, rfl, rfl⟩

theorem s142 (x : Nat) : SP 142 [] [f32 x] [] (exb (!finB x)) := by
  refine spec_of_code (fn := Try.f142) tyOK mixes Try.func142 rfl rfl rfl rfl fun hg => ?_
  refine ⟨rfl, _, _, s111 _, ?_⟩
  exact ⟨[], rfl, rfl, rfl⟩

theorem s81 (x : Int) : SP 81 [] [i64 x] [] (exb (inB x 3 16)) := by
  refine spec_of_code (fn := Try.f81) tyOK mixes Try.func81 rfl rfl rfl rfl fun hg => ?_
  refine ⟨rfl, _, _, s105 _ _ _, ?_⟩
  exact ⟨[], rfl, rfl, rfl⟩

theorem s91 (x y : Int) : SP 91 [] [i64 x, i64 y] [] (exb (sizeB x y)) := by
  refine spec_of_code (fn := Try.f91) tyOK mixes Try.func91 rfl rfl rfl rfl fun hg => ?_
  refine ⟨rfl, _, _, s104 _ _ _, ?_⟩
  refine And.intro (fun h0 => ?_) (fun h0 => ?_)
  · refine ⟨rfl, _, _, s104 _ _ _, ?_⟩
    refine ⟨[], rfl, rfl, congrArg exb ?_⟩
    simp only [sizeB, h0, Bool.false_and, Bool.true_and, Bool.not_true, Bool.and_true, Bool.and_false, Bool.not_false, Bool.or_false, Bool.or_true, Bool.false_or, Bool.true_or]
  · refine ⟨[], rfl, rfl, congrArg exb ?_⟩
    simp only [sizeB, h0, Bool.false_and, Bool.true_and, Bool.not_true, Bool.and_true, Bool.and_false, Bool.not_false, Bool.or_false, Bool.or_true, Bool.false_or, Bool.true_or]

def I159 (g : Nat) (fs cs : List Nat) (n : Nat) (i : Nat) : List (Nat × AV) := [(8, exi .i64 i), (7, exi .i64 n), (0, one (.sl 0)), (1, one (.fn g fs cs))]

theorem s159 (o : Bool) (xs : List Nat) : SP 159 [.arr o 32 (.f xs)] [.one (.sl 0), .one (.fn 142 [] [])] [.arr o 32 (.f xs)] (exi .i64 (fi (fun x => !finB x) xs)) := by
  refine spec_of_code (fn := Try.f159) tyOK mixes Try.func159 rfl rfl rfl ⟨.inl rfl, rfl⟩ fun hg => ?_
  have hlen : xs.length ≤ maxLen := hg.1.1.1
  have hml : maxLen = 9223372036854775807 := by decide
  refine ⟨{ i : Nat // i ≤ xs.length ∧ ∀ j, j < i → (!finB (xs.getD j 0)) = false }, fun i => ⟨I159 142 [] [] xs.length i.1, [.arr o 32 (.f xs)]⟩, fun i => xs.length - i.1, ⟨0, Nat.zero_le _, fun j hj => absurd hj (Nat.not_lt_zero j)⟩, .inl ⟨[0], rfl, ?_, ?_⟩, fun ⟨i, hi, hx⟩ => ?_⟩
  · exact rfl
  · exact ⟨.inr rfl, .inr rfl, .inr rfl, .inr rfl, trivial⟩
  refine And.intro (fun h0 => ?_) (fun h0 => ?_)
  · have q0 : (i : Int) < xs.length := of_decide_eq_true h0
    refine And.intro ?_ ?_
    · (dsimp only; simp only [Dat.len, decide_eq_true_eq] at *; omega)   -- 0 index
    refine And.intro ?_ ?_
    · (dsimp only; simp only [Dat.len, decide_eq_true_eq] at *; omega)   -- 1 load
    refine ⟨rfl, _, _, s142 _, ?_⟩
    refine And.intro (fun h1 => ?_) (fun h1 => ?_)
    · exact ⟨[], rfl, rfl, congrArg (exi .i64) (fi_at (i := i) (by omega) h1 hx).symm⟩
    · refine ⟨⟨i + 1, by omega, fun j hj => (Nat.lt_or_eq_of_le (Nat.le_of_lt_succ hj)).elim (hx j) (fun e => by subst e; exact h1)⟩, ?_, [0], rfl, ?_, ?_⟩
      · (dsimp only; omega)
      · exact rfl
      · exact ⟨.inr (congrArg (exi .i64) (wr64 (n := (i : Int) + 1) (by omega) (by omega))), .inr rfl, .inr rfl, .inr rfl, trivial⟩
  · have q0 : ¬ (i : Int) < xs.length := of_decide_eq_false h0
    exact ⟨[], rfl, rfl, congrArg (exi .i64) (fi_none fun j hj => hx j (by omega)).symm⟩

theorem s141 (o : Bool) (xs : List Nat) : SP 141 [.arr o 32 (.f xs)] [.one (.sl 0), .one (.fn 142 [] [])] [.arr o 32 (.f xs)] (exb (xs.any fun x => !finB x)) := by
  refine spec_of_code (fn := Try.f141) tyOK mixes Try.func141 rfl rfl rfl ⟨.inl rfl, rfl⟩ fun hg => ?_
  refine ⟨rfl, _, _, s159 _ _, ?_⟩
  exact ⟨[], rfl, rfl, congrArg exb fi_ge⟩

theorem any_all (xs : List Nat) : (!(xs.any fun x => !finB x)) = xs.all finB := by
  induction xs with
  | nil => rfl
  | cons x xs ih => simp only [List.any_cons, List.all_cons, Bool.not_or, Bool.not_not, ih]

theorem s82 (o : Bool) (xs : List Nat) : SP 82 [.arr o 32 (.f xs)] [.one (.sl 0)] [.arr o 32 (.f xs)] (exb (xs.all finB)) := by
  refine spec_of_code (fn := Try.f82) tyOK mixes Try.func82 rfl rfl rfl ⟨.inl rfl, rfl⟩ fun hg => ?_
  refine ⟨rfl, _, _, s141 _ _, ?_⟩
  exact ⟨[], rfl, rfl, congrArg exb (any_all xs)⟩

end
end Go.AX