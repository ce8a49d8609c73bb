/- What the functions of this program do, one contract a function, by that walk: each under what its own statement says. -/
import Derived.Test.YtojajegjmjmekaaB6
set_option linter.unusedVariables false
set_option linter.unusedSimpArgs false
namespace Go.AX
noncomputable section
open Go.RowKit Go.Proofs
set_option maxRecDepth 100000
set_option maxHeartbeats 4000000

/-- The marks that a law lays into what it was given. -/
def marks (n : Int) (len : Nat) : List Nat := (List.range len).map fun (i : Nat) => fint .f32 (n + i)
theorem marks_len (n : Int) (len : Nat) : (marks n len).length = len := by simp [marks]
theorem marks_at {n : Int} {len i : Nat} (h : i < len) : (marks n len).getD i 0 = fint .f32 (n + i) := by
  simp [marks, List.getD_eq_getElem?_getD, h]
theorem marks_put {n : Int} {xs : List Nat} {i : Nat} (hi : i < xs.length) : (marks n i ++ xs.drop i).set i (fint .f32 (n + i)) = marks n (i + 1) ++ xs.drop (i + 1) := by
  have e : xs.drop i = xs[i] :: xs.drop (i + 1) := by simp
  rw [e, List.set_append_right _ _ (by rw [marks_len]; exact Nat.le_refl _), marks_len, Nat.sub_self, List.set_cons_zero]
  have : marks n (i + 1) = marks n i ++ [fint .f32 (n + i)] := by simp [marks, List.range_succ]
  rw [this, List.append_assoc]; rfl
theorem nearest_isN (n : Int) : isN .f32 (fint .f32 n) = false := by
  rw [fint_def]; unfold isN FloatKind.decode FloatKind.nearest FloatKind.encode
  exact F.write_not_nan _ _ rfl

theorem s56 (xs : List Nat) (n : Int) (h0 : 0 ≤ n) (h1 : n ≤ 1000000000) (hn : xs.length ≤ 1048576) : SP 56 [ar true xs] [.one (.sl 0), i64 n] [ar true (marks n xs.length)] (exi .i64 (n + xs.length)) := by
  refine spec_of_codeR (fn := Try.f56) tyOK mixes Try.func56 rfl rfl rfl ⟨.inr rfl, rfl⟩ fun hg R0 hR => ?_
  refine c_seq fun NN1 nn1 => ?_
  refine c_region fun KK2 kk2 => ?_
  refine n_of (N' := KK2) kk2 ?_
  refine n_of (N' := NN1) nn1 ?_
  refine c_seq fun NN3 nn3 => ?_
  refine c_seq fun NN4 nn4 => ?_
  refine c_region fun KK5 kk5 => ?_
  refine n_of (N' := KK5) kk5 ?_
  refine n_of (N' := NN4) nn4 ?_
  refine c_block fun XX6 xx6 => ?_
  refine loop_keep [] [0] (ι := { i : Nat // i ≤ xs.length }) (fun i => [(5, exi .i64 i.1), (1, exi .i64 (n + i.1))]) (fun i => [(0, ar true (marks n i.1 ++ xs.drop i.1))]) (fun i => xs.length - i.1) ⟨0, Nat.zero_le _⟩ trivial rfl ?_
  refine ⟨?_, ?_, ?_⟩
  · exact ⟨.inr rfl, .inr (congrArg (exi .i64) (by simp)), trivial⟩
  · exact ⟨congrArg (ar true) (by simp [marks]), trivial⟩
  refine fun ⟨i, hi⟩ NL7 nl7 => ?_
  refine c_norm rfl rfl ?_
  refine c_seq fun NN8 nn8 => ?_
  refine c_seq fun NN9 nn9 => ?_
  refine c_region fun KK10 kk10 => ?_
  refine n_of (N' := KK10) kk10 ?_
  refine n_of (N' := NN9) nn9 ?_
  refine c_cond rfl (fun h0 => ?_) (fun h0 => ?_)
  · skip
    have q0 := of_decide_eq_true h0
    (try dsimp only at q0)
    (try simp only [Dat.len, List.length_append, List.length_drop, marks_len] at q0)
    refine c_skip ?_
    refine n_of (N' := NN8) nn8 ?_
    refine c_seq fun NN11 nn11 => ?_
    refine c_block fun XX12 xx12 => ?_
    refine c_seq fun NN13 nn13 => ?_
    refine c_region fun KK14 kk14 => ?_
    refine And.intro ?_ ?_
    · ((try dsimp only); (try simp only [Dat.len, Int.toNat_natCast, List.length_append, List.length_drop, marks_len]); omega)   -- 0 index
    refine And.intro ?_ ?_
    · ((try dsimp only); (try simp only [Dat.len, Int.toNat_natCast, List.length_append, List.length_drop, marks_len]); omega)   -- 1 store
    refine n_of (N' := KK14) kk14 ?_
    refine n_of (N' := NN13) nn13 ?_
    refine c_region fun KK15 kk15 => ?_
    refine n_of (N' := KK15) kk15 ?_
    refine n_of (N' := NN11) nn11 ?_
    refine c_region fun KK16 kk16 => ?_
    refine n_of (N' := KK16) kk16 ?_
    refine n_of (N' := NL7) nl7 ?_
    refine ⟨⟨i + 1, by omega⟩, ?_, [0], rfl, ?_, ?_⟩
    · (dsimp only; omega)
    · exact LEq.eq ⟨congrArg (ar true) (marks_put (i := i) (by omega)), trivial⟩
    · exact ⟨.inr (congrArg (exi .i64) (wr64 (n := (i : Int) + 1) (by omega) (by omega))), .inr (congrArg (exi .i64) ((wr64 (n := n + (i : Int) + 1) (by omega) (by omega)).trans (show n + (i : Int) + 1 = n + ((i + 1 : Nat) : Int) by omega))), .inr rfl, trivial⟩
  · skip
    have q0 := of_decide_eq_false h0
    (try dsimp only at q0)
    (try simp only [Dat.len, List.length_append, List.length_drop, marks_len] at q0)
    refine c_exit ?_
    refine x_here xx6 ?_
    refine n_of (N' := NN3) nn3 ?_
    refine c_seq fun NN17 nn17 => ?_
    refine c_region fun KK18 kk18 => ?_
    refine n_of (N' := KK18) kk18 ?_
    refine n_of (N' := NN17) nn17 ?_
    refine c_ret ?_
    refine n_of (N' := R0) hR ?_
    have e : i = xs.length := by omega
    subst e
    exact ⟨[], rfl, congrArg (fun ys => [ar true ys]) (by simp), rfl⟩

theorem s41 (xs : List Nat) (w h n : Int) (h0 : 0 ≤ n) (h1 : n ≤ 1000000000) (hn : xs.length ≤ 1048576) : SP 41 [ar true xs] [bas w h 0, i64 n] [ar true (marks n xs.length)] (exi .i64 (n + xs.length)) := by
  refine spec_of_codeR (fn := Try.f41) tyOK mixes Try.func41 rfl rfl rfl ⟨.inr rfl, rfl⟩ fun hg R0 hR => ?_
  refine c_seq fun NN1 nn1 => ?_
  refine c_region fun KK2 kk2 => ?_
  refine n_of (N' := KK2) kk2 ?_
  refine n_of (N' := NN1) nn1 ?_
  refine c_seq fun NN3 nn3 => ?_
  refine c_region fun KK4 kk4 => ?_
  refine ⟨rfl, _, _, (s56 _ _ (by ((try dsimp only); first | assumption | omega | (simp (disch := omega) only [wr64]; omega))) (by ((try dsimp only); first | assumption | omega | (simp (disch := omega) only [wr64]; omega))) (by ((try dsimp only); first | assumption | omega | (simp (disch := omega) only [wr64]; omega)))), ?_⟩
  refine n_of (N' := KK4) kk4 ?_
  refine n_of (N' := NN3) nn3 ?_
  refine c_seq fun NN5 nn5 => ?_
  refine c_region fun KK6 kk6 => ?_
  refine n_of (N' := KK6) kk6 ?_
  refine n_of (N' := NN5) nn5 ?_
  refine c_ret ?_
  refine n_of (N' := R0) hR ?_
  exact ⟨[], rfl, rfl, rfl⟩

theorem s57 (o : Bool) (len : Nat) (n : Int) (h0 : 0 ≤ n) (h1 : n ≤ 1000000000) (hn : len ≤ 1048576) : SP 57 [ar o (marks n len)] [.one (.sl 0), i64 n] [ar o (marks n len)] (exi .i64 (n + len)) := by
  refine spec_of_codeR (fn := Try.f57) tyOK mixes Try.func57 rfl rfl rfl ⟨.inl rfl, rfl⟩ fun hg R0 hR => ?_
  refine c_seq fun NN1 nn1 => ?_
  refine c_region fun KK2 kk2 => ?_
  refine n_of (N' := KK2) kk2 ?_
  refine n_of (N' := NN1) nn1 ?_
  refine c_seq fun NN3 nn3 => ?_
  refine c_seq fun NN4 nn4 => ?_
  refine c_region fun KK5 kk5 => ?_
  refine n_of (N' := KK5) kk5 ?_
  refine n_of (N' := NN4) nn4 ?_
  refine c_block fun XX6 xx6 => ?_
  refine loop_keep [] [0] (ι := { i : Nat // i ≤ len }) (fun i => [(5, exi .i64 i.1), (1, exi .i64 (n + i.1))]) (fun i => []) (fun i => len - i.1) ⟨0, Nat.zero_le _⟩ trivial rfl ?_
  refine ⟨?_, ?_, ?_⟩
  · exact ⟨.inr rfl, .inr (congrArg (exi .i64) (by simp)), trivial⟩
  · exact ⟨rfl, trivial⟩
  refine fun ⟨i, hi⟩ NL7 nl7 => ?_
  refine c_norm rfl rfl ?_
  refine c_seq fun NN8 nn8 => ?_
  refine c_seq fun NN9 nn9 => ?_
  refine c_region fun KK10 kk10 => ?_
  refine n_of (N' := KK10) kk10 ?_
  refine n_of (N' := NN9) nn9 ?_
  refine c_cond rfl (fun h0 => ?_) (fun h0 => ?_)
  · skip
    have q0 := of_decide_eq_true h0
    (try dsimp only at q0)
    (try simp only [Dat.len, marks_len] at q0)
    refine c_skip ?_
    refine n_of (N' := NN8) nn8 ?_
    refine c_seq fun NN11 nn11 => ?_
    refine c_block fun XX12 xx12 => ?_
    refine c_seq fun NN13 nn13 => ?_
    refine c_seq fun NN14 nn14 => ?_
    refine c_region fun KK15 kk15 => ?_
    refine And.intro ?_ ?_
    · ((try dsimp only); (try simp only [Dat.len, Int.toNat_natCast, marks_len]); omega)   -- 0 index
    refine And.intro ?_ ?_
    · ((try dsimp only); (try simp only [Dat.len, Int.toNat_natCast, marks_len]); omega)   -- 1 load
    refine n_of (N' := KK15) kk15 ?_
    refine n_of (N' := NN14) nn14 ?_
    refine c_cond rfl (fun h1 => ?_) (fun h1 => ?_)
    · skip
      refine c_seq fun NN16 nn16 => ?_
      refine c_region fun KK17 kk17 => ?_
      refine n_of (N' := KK17) kk17 ?_
      refine n_of (N' := NN16) nn16 ?_
      refine c_ret ?_
      refine n_of (N' := R0) hR ?_
      (try dsimp only at h1)
      simp only [Int.toNat_natCast] at h1
      rw [marks_at (show i < len by omega), neq_self, nearest_isN] at h1
      cases h1
    · skip
      refine c_skip ?_
      refine n_of (N' := NN13) nn13 ?_
      refine c_region fun KK18 kk18 => ?_
      refine n_of (N' := KK18) kk18 ?_
      refine n_of (N' := NN11) nn11 ?_
      refine c_region fun KK19 kk19 => ?_
      refine n_of (N' := KK19) kk19 ?_
      refine n_of (N' := NL7) nl7 ?_
      refine ⟨⟨i + 1, by omega⟩, ?_, [0], rfl, ?_, ?_⟩
      · (dsimp only; omega)
      · exact LEq.eq ⟨rfl, trivial⟩
      · exact ⟨.inr (congrArg (exi .i64) (wr64 (n := (i : Int) + 1) (by omega) (by omega))), .inr (congrArg (exi .i64) ((wr64 (n := n + (i : Int) + 1) (by omega) (by omega)).trans (show n + (i : Int) + 1 = n + ((i + 1 : Nat) : Int) by omega))), .inr rfl, trivial⟩
  · skip
    have q0 := of_decide_eq_false h0
    (try dsimp only at q0)
    (try simp only [Dat.len, marks_len] at q0)
    refine c_exit ?_
    refine x_here xx6 ?_
    refine n_of (N' := NN3) nn3 ?_
    refine c_seq fun NN20 nn20 => ?_
    refine c_region fun KK21 kk21 => ?_
    refine n_of (N' := KK21) kk21 ?_
    refine n_of (N' := NN20) nn20 ?_
    refine c_ret ?_
    refine n_of (N' := R0) hR ?_
    have e : i = len := by omega
    subst e
    exact ⟨[], rfl, rfl, rfl⟩

theorem s42 (o : Bool) (len : Nat) (w h n : Int) (h0 : 0 ≤ n) (h1 : n ≤ 1000000000) (hn : len ≤ 1048576) : SP 42 [ar o (marks n len)] [bas w h 0, i64 n] [ar o (marks n len)] (exi .i64 (n + len)) := by
  refine spec_of_codeR (fn := Try.f42) tyOK mixes Try.func42 rfl rfl rfl ⟨.inl rfl, rfl⟩ fun hg R0 hR => ?_
  refine c_seq fun NN1 nn1 => ?_
  refine c_region fun KK2 kk2 => ?_
  refine n_of (N' := KK2) kk2 ?_
  refine n_of (N' := NN1) nn1 ?_
  refine c_seq fun NN3 nn3 => ?_
  refine c_region fun KK4 kk4 => ?_
  refine ⟨rfl, _, _, (s57 _ _ _ (by ((try dsimp only); first | assumption | omega | (simp (disch := omega) only [wr64]; omega))) (by ((try dsimp only); first | assumption | omega | (simp (disch := omega) only [wr64]; omega))) (by ((try dsimp only); first | assumption | omega | (simp (disch := omega) only [wr64]; omega)))), ?_⟩
  refine n_of (N' := KK4) kk4 ?_
  refine n_of (N' := NN3) nn3 ?_
  refine c_seq fun NN5 nn5 => ?_
  refine c_seq fun NN6 nn6 => ?_
  refine c_region fun KK7 kk7 => ?_
  refine n_of (N' := KK7) kk7 ?_
  refine n_of (N' := NN6) nn6 ?_
  refine c_cond rfl (fun h0 => ?_) (fun h0 => ?_)
  · skip
    have q0 := of_decide_eq_true h0
    (try dsimp only at q0)
    (try simp only [Dat.len] at q0)
    refine c_seq fun NN8 nn8 => ?_
    refine c_region fun KK9 kk9 => ?_
    refine n_of (N' := KK9) kk9 ?_
    refine n_of (N' := NN8) nn8 ?_
    refine c_ret ?_
    refine n_of (N' := R0) hR ?_
    omega
  · skip
    have q0 := of_decide_eq_false h0
    (try dsimp only at q0)
    (try simp only [Dat.len] at q0)
    refine c_skip ?_
    refine n_of (N' := NN5) nn5 ?_
    refine c_seq fun NN10 nn10 => ?_
    refine c_region fun KK11 kk11 => ?_
    refine n_of (N' := KK11) kk11 ?_
    refine n_of (N' := NN10) nn10 ?_
    refine c_ret ?_
    refine n_of (N' := R0) hR ?_
    exact ⟨[], rfl, rfl, rfl⟩

end
end Go.AX