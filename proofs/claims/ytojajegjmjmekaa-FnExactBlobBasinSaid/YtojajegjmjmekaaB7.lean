/- What the functions of this program do, one contract a function, by that walk: each under what its own statement says. -/
import Derived.Test.YtojajegjmjmekaaB6
set_option linter.unusedVariables false
set_option linter.unusedSimpArgs false
namespace Go.AX
noncomputable section
open Go.RowKit Go.Proofs
set_option maxRecDepth 100000
set_option maxHeartbeats 4000000

/-- The marks that a law lays into what it was given. -/
def marks (n : Int) (len : Nat) : List Nat := (List.range len).map fun (i : Nat) => fint .f32 (n + i)
theorem marks_len (n : Int) (len : Nat) : (marks n len).length = len := by simp [marks]
theorem marks_at {n : Int} {len i : Nat} (h : i < len) : (marks n len).getD i 0 = fint .f32 (n + i) := by
  simp [marks, List.getD_eq_getElem?_getD, h]
theorem marks_put {n : Int} {xs : List Nat} {i : Nat} (hi : i < xs.length) : (marks n i ++ xs.drop i).set i (fint .f32 (n + i)) = marks n (i + 1) ++ xs.drop (i + 1) := by
  have e : xs.drop i = xs[i] :: xs.drop (i + 1) := by simp
  rw [e, List.set_append_right _ _ (by rw [marks_len]; exact Nat.le_refl _), marks_len, Nat.sub_self, List.set_cons_zero]
  have : marks n (i + 1) = marks n i ++ [fint .f32 (n + i)] := by simp [marks, List.range_succ]
  rw [this, List.append_assoc]; rfl
theorem nearest_isN (n : Int) : isN .f32 (fint .f32 n) = false := by
  rw [fint_def]; unfold isN FloatKind.decode FloatKind.nearest FloatKind.encode
  exact F.write_not_nan _ _ rfl

theorem s56 (xs : List Nat) (n : Int) (h0 : 0 ≤ n) (h1 : n ≤ 1048576) (hn : xs.length ≤ 1048576) : SP 56 [ar true xs] [.one (.sl 0), i64 n] [ar true (marks n xs.length)] (exi .i64 (n + xs.length)) := by
  refine spec_of_codeR (fn := Try.f56) tyOK mixes Try.func56 rfl rfl rfl ⟨.inr rfl, rfl⟩ fun hg R0 hR => ?_
  refine c_seq fun N1 n1 => ?_
  refine c_region fun K2 k2 => ?_
  refine n_of k2 ?_
  refine n_of n1 ?_
  refine c_seq fun N3 n3 => ?_
  refine c_seq fun N4 n4 => ?_
  refine c_region fun K5 k5 => ?_
  refine n_of k5 ?_
  refine n_of n4 ?_
  refine c_block fun X6 x6 => ?_
  refine loop_keep [] [0] (ι := { i : Nat // i ≤ xs.length }) (fun i => [(5, exi .i64 i.1), (1, exi .i64 (n + i.1))]) (fun i => [(0, ar true (marks n i.1 ++ xs.drop i.1))]) (fun i => xs.length - i.1) ⟨0, Nat.zero_le _⟩ trivial rfl ?_
  refine ⟨?_, ?_, ?_⟩
  · exact ⟨.inr rfl, .inr (congrArg (exi .i64) (by simp)), trivial⟩
  · exact ⟨congrArg (ar true) (by simp [marks]), trivial⟩
  refine fun ⟨i, hi⟩ NL7 nl7 => ?_
  refine c_norm rfl rfl ?_
  refine c_seq fun N8 n8 => ?_
  refine c_seq fun N9 n9 => ?_
  refine c_region fun K10 k10 => ?_
  refine n_of k10 ?_
  refine n_of n9 ?_
  refine c_cond rfl (fun h0 => ?_) (fun h0 => ?_)
  · skip
    have q0 := of_decide_eq_true h0
    (try dsimp only at q0)
    (try simp only [Dat.len, List.length_append, List.length_drop, marks_len] at q0)
    refine c_skip ?_
    refine n_of n8 ?_
    refine c_seq fun N11 n11 => ?_
    refine c_block fun X12 x12 => ?_
    refine c_seq fun N13 n13 => ?_
    refine c_region fun K14 k14 => ?_
    refine And.intro ?_ ?_
    · ((try dsimp only); (try simp only [Dat.len, Int.toNat_natCast, List.length_append, List.length_drop, marks_len]); omega)   -- 0 index
    refine And.intro ?_ ?_
    · ((try dsimp only); (try simp only [Dat.len, Int.toNat_natCast, List.length_append, List.length_drop, marks_len]); omega)   -- 1 store
    refine n_of k14 ?_
    refine n_of n13 ?_
    refine c_region fun K15 k15 => ?_
    refine n_of k15 ?_
    refine n_of n11 ?_
    refine c_region fun K16 k16 => ?_
    refine n_of k16 ?_
    refine n_of nl7 ?_
    refine ⟨⟨i + 1, by omega⟩, ?_, [0], rfl, ?_, ?_⟩
    · (dsimp only; omega)
    · exact LEq.eq ⟨congrArg (ar true) (marks_put (i := i) (by omega)), trivial⟩
    · exact ⟨.inr (congrArg (exi .i64) (wr64 (n := (i : Int) + 1) (by omega) (by omega))), .inr (congrArg (exi .i64) ((wr64 (n := n + (i : Int) + 1) (by omega) (by omega)).trans (show n + (i : Int) + 1 = n + ((i + 1 : Nat) : Int) by omega))), .inr rfl, trivial⟩
  · skip
    have q0 := of_decide_eq_false h0
    (try dsimp only at q0)
    (try simp only [Dat.len, List.length_append, List.length_drop, marks_len] at q0)
    refine c_exit ?_
    refine x_here x6 ?_
    refine n_of n3 ?_
    refine c_seq fun N17 n17 => ?_
    refine c_region fun K18 k18 => ?_
    refine n_of k18 ?_
    refine n_of n17 ?_
    refine c_ret ?_
    refine n_of hR ?_
    have e : i = xs.length := by omega
    subst e
    exact ⟨[], rfl, congrArg (fun ys => [ar true ys]) (by simp), rfl⟩

theorem s41 (xs : List Nat) (w h n : Int) (h0 : 0 ≤ n) (h1 : n ≤ 1048576) (hn : xs.length ≤ 1048576) : SP 41 [ar true xs] [bas w h 0, i64 n] [ar true (marks n xs.length)] (exi .i64 (n + xs.length)) := by
  refine spec_of_codeR (fn := Try.f41) tyOK mixes Try.func41 rfl rfl rfl ⟨.inr rfl, rfl⟩ fun hg R0 hR => ?_
  refine c_seq fun N1 n1 => ?_
  refine c_region fun K2 k2 => ?_
  refine n_of k2 ?_
  refine n_of n1 ?_
  refine c_seq fun N3 n3 => ?_
  refine c_region fun K4 k4 => ?_
  refine ⟨rfl, _, _, (s56 _ _ (by ((try dsimp only); first | assumption | omega | (simp (disch := omega) only [wr64]; omega))) (by ((try dsimp only); first | assumption | omega | (simp (disch := omega) only [wr64]; omega))) (by ((try dsimp only); first | assumption | omega | (simp (disch := omega) only [wr64]; omega)))), ?_⟩
  refine n_of k4 ?_
  refine n_of n3 ?_
  refine c_seq fun N5 n5 => ?_
  refine c_region fun K6 k6 => ?_
  refine n_of k6 ?_
  refine n_of n5 ?_
  refine c_ret ?_
  refine n_of hR ?_
  exact ⟨[], rfl, rfl, rfl⟩

theorem s57 (o : Bool) (len : Nat) (n : Int) (h0 : 0 ≤ n) (h1 : n ≤ 1048576) (hn : len ≤ 1048576) : SP 57 [ar o (marks n len)] [.one (.sl 0), i64 n] [ar o (marks n len)] (exi .i64 (n + len)) := by
  refine spec_of_codeR (fn := Try.f57) tyOK mixes Try.func57 rfl rfl rfl ⟨.inl rfl, rfl⟩ fun hg R0 hR => ?_
  refine c_seq fun N1 n1 => ?_
  refine c_region fun K2 k2 => ?_
  refine n_of k2 ?_
  refine n_of n1 ?_
  refine c_seq fun N3 n3 => ?_
  refine c_seq fun N4 n4 => ?_
  refine c_region fun K5 k5 => ?_
  refine n_of k5 ?_
  refine n_of n4 ?_
  refine c_block fun X6 x6 => ?_
  refine loop_keep [] [0] (ι := { i : Nat // i ≤ len }) (fun i => [(5, exi .i64 i.1), (1, exi .i64 (n + i.1))]) (fun i => []) (fun i => len - i.1) ⟨0, Nat.zero_le _⟩ trivial rfl ?_
  refine ⟨?_, ?_, ?_⟩
  · exact ⟨.inr rfl, .inr (congrArg (exi .i64) (by simp)), trivial⟩
  · exact ⟨rfl, trivial⟩
  refine fun ⟨i, hi⟩ NL7 nl7 => ?_
  refine c_norm rfl rfl ?_
  refine c_seq fun N8 n8 => ?_
  refine c_seq fun N9 n9 => ?_
  refine c_region fun K10 k10 => ?_
  refine n_of k10 ?_
  refine n_of n9 ?_
  refine c_cond rfl (fun h0 => ?_) (fun h0 => ?_)
  · skip
    have q0 := of_decide_eq_true h0
    (try dsimp only at q0)
    (try simp only [Dat.len, marks_len] at q0)
    refine c_skip ?_
    refine n_of n8 ?_
    refine c_seq fun N11 n11 => ?_
    refine c_block fun X12 x12 => ?_
    refine c_seq fun N13 n13 => ?_
    refine c_seq fun N14 n14 => ?_
    refine c_region fun K15 k15 => ?_
    refine And.intro ?_ ?_
    · ((try dsimp only); (try simp only [Dat.len, Int.toNat_natCast, marks_len]); omega)   -- 0 index
    refine And.intro ?_ ?_
    · ((try dsimp only); (try simp only [Dat.len, Int.toNat_natCast, marks_len]); omega)   -- 1 load
    refine n_of k15 ?_
    refine n_of n14 ?_
    refine c_cond rfl (fun h1 => ?_) (fun h1 => ?_)
    · skip
      refine c_seq fun N16 n16 => ?_
      refine c_region fun K17 k17 => ?_
      refine n_of k17 ?_
      refine n_of n16 ?_
      refine c_ret ?_
      refine n_of hR ?_
      (try dsimp only at h1)
      simp only [Int.toNat_natCast] at h1
      rw [marks_at (show i < len by omega), neq_self, nearest_isN] at h1
      cases h1
    · skip
      refine c_skip ?_
      refine n_of n13 ?_
      refine c_region fun K18 k18 => ?_
      refine n_of k18 ?_
      refine n_of n11 ?_
      refine c_region fun K19 k19 => ?_
      refine n_of k19 ?_
      refine n_of nl7 ?_
      refine ⟨⟨i + 1, by omega⟩, ?_, [0], rfl, ?_, ?_⟩
      · (dsimp only; omega)
      · exact LEq.eq ⟨rfl, trivial⟩
      · exact ⟨.inr (congrArg (exi .i64) (wr64 (n := (i : Int) + 1) (by omega) (by omega))), .inr (congrArg (exi .i64) ((wr64 (n := n + (i : Int) + 1) (by omega) (by omega)).trans (show n + (i : Int) + 1 = n + ((i + 1 : Nat) : Int) by omega))), .inr rfl, trivial⟩
  · skip
    have q0 := of_decide_eq_false h0
    (try dsimp only at q0)
    (try simp only [Dat.len, marks_len] at q0)
    refine c_exit ?_
    refine x_here x6 ?_
    refine n_of n3 ?_
    refine c_seq fun N20 n20 => ?_
    refine c_region fun K21 k21 => ?_
    refine n_of k21 ?_
    refine n_of n20 ?_
    refine c_ret ?_
    refine n_of hR ?_
    have e : i = len := by omega
    subst e
    exact ⟨[], rfl, rfl, rfl⟩

theorem s42 (o : Bool) (len : Nat) (w h n : Int) (h0 : 0 ≤ n) (h1 : n ≤ 1048576) (hn : len ≤ 1048576) : SP 42 [ar o (marks n len)] [bas w h 0, i64 n] [ar o (marks n len)] (exi .i64 (n + len)) := by
  refine spec_of_codeR (fn := Try.f42) tyOK mixes Try.func42 rfl rfl rfl ⟨.inl rfl, rfl⟩ fun hg R0 hR => ?_
  refine c_seq fun N1 n1 => ?_
  refine c_region fun K2 k2 => ?_
  refine n_of k2 ?_
  refine n_of n1 ?_
  refine c_seq fun N3 n3 => ?_
  refine c_region fun K4 k4 => ?_
  refine ⟨rfl, _, _, (s57 _ _ _ (by ((try dsimp only); first | assumption | omega | (simp (disch := omega) only [wr64]; omega))) (by ((try dsimp only); first | assumption | omega | (simp (disch := omega) only [wr64]; omega))) (by ((try dsimp only); first | assumption | omega | (simp (disch := omega) only [wr64]; omega)))), ?_⟩
  refine n_of k4 ?_
  refine n_of n3 ?_
  refine c_seq fun N5 n5 => ?_
  refine c_seq fun N6 n6 => ?_
  refine c_region fun K7 k7 => ?_
  refine n_of k7 ?_
  refine n_of n6 ?_
  refine c_cond rfl (fun h0 => ?_) (fun h0 => ?_)
  · skip
    have q0 := of_decide_eq_true h0
    (try dsimp only at q0)
    (try simp only [Dat.len] at q0)
    refine c_seq fun N8 n8 => ?_
    refine c_region fun K9 k9 => ?_
    refine n_of k9 ?_
    refine n_of n8 ?_
    refine c_ret ?_
    refine n_of hR ?_
    omega
  · skip
    have q0 := of_decide_eq_false h0
    (try dsimp only at q0)
    (try simp only [Dat.len] at q0)
    refine c_skip ?_
    refine n_of n5 ?_
    refine c_seq fun N10 n10 => ?_
    refine c_region fun K11 k11 => ?_
    refine n_of k11 ?_
    refine n_of n10 ?_
    refine c_ret ?_
    refine n_of hR ?_
    exact ⟨[], rfl, rfl, rfl⟩

end
end Go.AX