/- What the functions of this program do, one contract a function, by that walk: each under what its own statement says. -/
import Derived.Test.YtfhgggjpdimaoaaSqE5
set_option linter.unusedVariables false
set_option linter.unusedSimpArgs false
namespace Go.AX
noncomputable section
open Go.RowKit Go.Proofs
set_option maxRecDepth 100000
set_option maxHeartbeats 4000000
open Go

def okSq (a b : List Nat) : Bool := (inB b.length 1 16 && ((a.length : Int) == ((b.length * b.length : Nat) : Int))) && (a.all finB && b.all finB)
def solve (a b : List Nat) : Option (List Nat) := if okSq a b = true then sol (fun i j => a.getD (i * b.length + j) 0) (fun i => b.getD i 0) b.length else none
theorem solve_no {a b : List Nat} (h : okSq a b = false) : solve a b = none := by unfold solve; rw [if_neg (by rw [h]; simp)]
theorem solve_yes {a b : List Nat} (h1 : 1 ≤ b.length) (h2 : b.length ≤ 16) (h3 : a.length = b.length * b.length) (h4 : a.all finB = true) (h5 : b.all finB = true) : solve a b = sol (fun i j => a.getD (i * b.length + j) 0) (fun i => b.getD i 0) b.length := by
  unfold solve; rw [if_pos]
  unfold okSq inB
  rw [h4, h5, h3, decide_eq_true (by omega), decide_eq_true (by omega)]; simp
theorem okSq_n {a b : List Nat} (h : ¬ (1 ≤ b.length ∧ b.length ≤ 16)) : okSq a b = false := by
  unfold okSq inB
  by_cases c : 1 ≤ b.length
  · rw [decide_eq_false (p := (b.length : Int) ≤ 16) (by omega)]; simp
  · rw [decide_eq_false (p := (b.length : Int) ≥ 1) (by omega)]; simp
theorem okSq_l {a b : List Nat} (h : a.length ≠ b.length * b.length) : okSq a b = false := by
  unfold okSq
  rw [beq_eq_false_iff_ne.2 (by omega)]; simp
theorem okSq_a {a b : List Nat} (h : a.all finB = false) : okSq a b = false := by unfold okSq; rw [h]; simp
theorem okSq_b {a b : List Nat} (h : b.all finB = false) : okSq a b = false := by unfold okSq; rw [h]; simp
theorem sq_wrap {n : Nat} (h : n ≤ 16) : IntKind.i64.wrap ((n : Int) * (n : Int)) = ((n * n : Nat) : Int) := by
  have h2 : n * n ≤ 16 * 16 := Nat.mul_le_mul h h
  rw [show (n : Int) * (n : Int) = ((n * n : Nat) : Int) by simp, wr64 (by omega) (by omega)]
theorem s51a (o o2 : Bool) (a bl : List Nat) (hN0 : 0 < bl.length) (hN : bl.length ≤ 16) (h : a.length = bl.length * bl.length) : SP 51 [ar o a, ar o2 bl] [.one (.sl 0), .one (.sl 1)] [ar o a, ar o2 bl, ar true (solL (sol (fun i j => a.getD (i * bl.length + j) 0) (fun i => bl.getD i 0) bl.length))] (.tup [.one (.sl 2), .one (.ex (.bool (sol (fun i j => a.getD (i * bl.length + j) 0) (fun i => bl.getD i 0) bl.length).isSome))]) := by
  have h2 := s51 o o2 (fun i j => a.getD (i * bl.length + j) 0) bl hN0 hN
  rwa [← flat_of h] at h2

theorem s18 (o o2 : Bool) (a bl : List Nat) : SP 18 [ar o a, ar o2 bl] [.one (.sl 0), .one (.sl 1)] [ar o a, ar o2 bl, ar true (solL (solve a bl))] (.tup [.one (.sl 2), .one (.ex (.bool (solve a bl).isSome))]) := by
  refine spec_of_codeR (fn := Try.f18) tyOK mixes Try.func18 rfl rfl rfl ⟨.inl rfl, ⟨.inl rfl, rfl⟩⟩ fun hg R0 hR => ?_
  refine c_seq fun NN1 nn1 => ?_
  refine c_region fun KK2 kk2 => ?_
  refine n_of (N' := KK2) kk2 ?_
  refine n_of (N' := NN1) nn1 ?_
  refine c_seq fun NN3 nn3 => ?_
  refine c_region fun KK4 kk4 => ?_
  refine n_of (N' := KK4) kk4 ?_
  refine n_of (N' := NN3) nn3 ?_
  refine c_seq fun NN5 nn5 => ?_
  refine c_seq fun NN6 nn6 => ?_
  refine c_region fun KK7 kk7 => ?_
  refine And.intro (fun h0 => ?_) (fun h0 => ?_)
  · skip
    have q0 := of_decide_eq_true h0
    (try dsimp only at q0)
    (try simp only [Dat.len] at q0)
    refine And.intro (fun _ => ?_) (fun h => nomatch h)
    refine And.intro (fun _ => ?_) (fun h => nomatch h)
    refine And.intro (fun _ => ?_) (fun h => nomatch h)
    refine n_of (N' := KK7) kk7 ?_
    refine n_of (N' := NN6) nn6 ?_
    refine c_cond rfl (fun _ => ?_) (fun h => nomatch h)
    refine c_seq fun NN8 nn8 => ?_
    refine c_region fun KK9 kk9 => ?_
    refine n_of (N' := KK9) kk9 ?_
    refine n_of (N' := NN8) nn8 ?_
    refine c_ret ?_
    refine n_of (N' := R0) hR ?_
    have ok : solve a bl = none := solve_no (okSq_n (by omega))
    exact ⟨[.nil 23 (.f [])], rfl, rfl, by rw [ok]; rfl, by rw [ok]; rfl⟩
  · skip
    have q0 := of_decide_eq_false h0
    (try dsimp only at q0)
    (try simp only [Dat.len] at q0)
    refine And.intro (fun h1 => ?_) (fun h1 => ?_)
    · skip
      refine And.intro (fun _ => ?_) (fun h => nomatch h)
      refine And.intro (fun _ => ?_) (fun h => nomatch h)
      refine n_of (N' := KK7) kk7 ?_
      refine n_of (N' := NN6) nn6 ?_
      refine c_cond rfl (fun _ => ?_) (fun h => nomatch h)
      refine c_seq fun NN10 nn10 => ?_
      refine c_region fun KK11 kk11 => ?_
      refine n_of (N' := KK11) kk11 ?_
      refine n_of (N' := NN10) nn10 ?_
      refine c_ret ?_
      refine n_of (N' := R0) hR ?_
      have q1 := of_decide_eq_true h1
      (try simp only [Dat.len] at q1)
      have ok : solve a bl = none := solve_no (okSq_n (by omega))
      exact ⟨[.nil 23 (.f [])], rfl, rfl, by rw [ok]; rfl, by rw [ok]; rfl⟩
    · skip
      have q1 := of_decide_eq_false h1
      (try simp only [Dat.len] at q1)
      refine And.intro (fun h2 => ?_) (fun h2 => ?_)
      · skip
        refine And.intro (fun _ => ?_) (fun h => nomatch h)
        refine n_of (N' := KK7) kk7 ?_
        refine n_of (N' := NN6) nn6 ?_
        refine c_cond rfl (fun _ => ?_) (fun h => nomatch h)
        refine c_seq fun NN12 nn12 => ?_
        refine c_region fun KK13 kk13 => ?_
        refine n_of (N' := KK13) kk13 ?_
        refine n_of (N' := NN12) nn12 ?_
        refine c_ret ?_
        refine n_of (N' := R0) hR ?_
        have ok : solve a bl = none := solve_no (okSq_l (fun e => ne_of_bneT h2 (show ((a.length : Nat) : Int) = IntKind.i64.wrap ((bl.length : Int) * (bl.length : Int)) by rw [sq_wrap (by omega), e])))
        exact ⟨[.nil 23 (.f [])], rfl, rfl, by rw [ok]; rfl, by rw [ok]; rfl⟩
      · skip
        have hlen : a.length = bl.length * bl.length := by
          have c : ((a.length : Nat) : Int) = IntKind.i64.wrap ((bl.length : Int) * (bl.length : Int)) := eq_of_bneF h2
          rw [sq_wrap (by omega)] at c
          omega
        refine ⟨rfl, _, _, s50 _ _, ?_⟩
        refine And.intro (fun h3 => ?_) (fun h3 => ?_)
        · skip
          refine n_of (N' := KK7) kk7 ?_
          refine n_of (N' := NN6) nn6 ?_
          refine c_cond rfl (fun _ => ?_) (fun h => nomatch h)
          refine c_seq fun NN14 nn14 => ?_
          refine c_region fun KK15 kk15 => ?_
          refine n_of (N' := KK15) kk15 ?_
          refine n_of (N' := NN14) nn14 ?_
          refine c_ret ?_
          refine n_of (N' := R0) hR ?_
          have ok : solve a bl = none := solve_no (okSq_a (not_t h3))
          exact ⟨[.nil 23 (.f [])], rfl, rfl, by rw [ok]; rfl, by rw [ok]; rfl⟩
        · skip
          refine ⟨rfl, _, _, s50 _ _, ?_⟩
          refine n_of (N' := KK7) kk7 ?_
          refine n_of (N' := NN6) nn6 ?_
          refine c_cond rfl (fun h4 => ?_) (fun h4 => ?_)
          · skip
            refine c_seq fun NN16 nn16 => ?_
            refine c_region fun KK17 kk17 => ?_
            refine n_of (N' := KK17) kk17 ?_
            refine n_of (N' := NN16) nn16 ?_
            refine c_ret ?_
            refine n_of (N' := R0) hR ?_
            have ok : solve a bl = none := solve_no (okSq_b (not_t h4))
            exact ⟨[.nil 23 (.f [])], rfl, rfl, by rw [ok]; rfl, by rw [ok]; rfl⟩
          · skip
            refine c_skip ?_
            refine n_of (N' := NN5) nn5 ?_
            refine c_seq fun NN18 nn18 => ?_
            refine c_region fun KK19 kk19 => ?_
            refine ⟨rfl, _, _, s51a _ _ _ _ (by omega) (by omega) hlen, ?_⟩
            refine n_of (N' := KK19) kk19 ?_
            refine n_of (N' := NN18) nn18 ?_
            refine c_ret ?_
            refine n_of (N' := R0) hR ?_
            have ok := solve_yes (a := a) (b := bl) (by omega) (by omega) hlen (not_f h3) (not_f h4)
            exact ⟨[], rfl, by (rw [ok]; try rfl), by (rw [ok]; try rfl)⟩

end
end Go.AX
