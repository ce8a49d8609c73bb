/- What the functions of this program do, one contract a function, by that walk: each under what its own statement says. -/
import Derived.Test.YtfhgggjpdimaoaaC5
set_option linter.unusedVariables false
set_option linter.unusedSimpArgs false
namespace Go.AX
noncomputable section
open Go.RowKit Go.Proofs
set_option maxRecDepth 100000
set_option maxHeartbeats 4000000
open Go

/-! The marks in whirls -/
theorem marksW_len (n : Int) (len : Nat) : (marksW n len).length = len := bld_len _ _
theorem marksW_put {n : Int} {xs : List (Nat × Nat × Nat)} {i z : Nat} (hi : i < xs.length) :
    ((marksW n i ++ xs.drop i).set i (fnarrow (fint .f64 (n + 2 * (i : Int))), fnarrow (cn .f64 4607182418800017408), z)).set i
      ((((marksW n i ++ xs.drop i).set i (fnarrow (fint .f64 (n + 2 * (i : Int))), fnarrow (cn .f64 4607182418800017408), z)).getD i (0, 0, 0)).1,
       (((marksW n i ++ xs.drop i).set i (fnarrow (fint .f64 (n + 2 * (i : Int))), fnarrow (cn .f64 4607182418800017408), z)).getD i (0, 0, 0)).2.1, fint .f32 (n + 2 * (i : Int) + 1))
      = marksW n (i + 1) ++ xs.drop (i + 1) := by
  have hl : i < (marksW n i ++ xs.drop i).length := by simp only [List.length_append, marksW_len, List.length_drop]; omega
  have e : ((marksW n i ++ xs.drop i).set i (fnarrow (fint .f64 (n + 2 * (i : Int))), fnarrow (cn .f64 4607182418800017408), z)).getD i (0, 0, 0) = (fnarrow (fint .f64 (n + 2 * (i : Int))), fnarrow (cn .f64 4607182418800017408), z) := by
    rw [getD_lt (0, 0, 0) (by simpa using hl)]; simp
  rw [e, List.set_set]
  exact bld_set hi

theorem s27 (xs : List (Nat × Nat × Nat)) (n : Int) (h0 : 0 ≤ n) (h1 : n ≤ 1000000000) (hn : xs.length ≤ 1048576) : SP 27 [arW true xs] [.one (.sl 0), i64 n] [arW true (marksW n xs.length)] (exi .i64 (n + 2 * xs.length)) := by
  refine spec_of_codeR (fn := Try.f27) tyOK mixes Try.func27 rfl rfl rfl ⟨.inr rfl, rfl⟩ fun hg R0 hR => ?_
  refine c_seq fun NN1 nn1 => ?_
  refine c_region fun KK2 kk2 => ?_
  refine n_of (N' := KK2) kk2 ?_
  refine n_of (N' := NN1) nn1 ?_
  refine c_seq fun NN3 nn3 => ?_
  refine c_seq fun NN4 nn4 => ?_
  refine c_region fun KK5 kk5 => ?_
  refine n_of (N' := KK5) kk5 ?_
  refine n_of (N' := NN4) nn4 ?_
  refine c_block fun XX6 xx6 => ?_
  refine loop_keep [] [0] (ι := { i : Nat // i ≤ xs.length }) (fun i => [(5, exi .i64 i.1), (1, exi .i64 (n + 2 * i.1))]) (fun i => [(0, arW true (marksW n i.1 ++ xs.drop i.1))]) (fun i => xs.length - i.1) ⟨0, Nat.zero_le _⟩ trivial rfl ?_
  refine ⟨?_, ?_, ?_⟩
  · exact ⟨.inr rfl, .inr (congrArg (exi .i64) (by simp)), trivial⟩
  · exact ⟨congrArg (arW true) (by simp [marksW, bld]), trivial⟩
  refine fun ⟨i, hi⟩ NL7 nl7 => ?_
  refine c_norm rfl rfl ?_
  refine c_seq fun NN8 nn8 => ?_
  refine c_seq fun NN9 nn9 => ?_
  refine c_region fun KK10 kk10 => ?_
  refine n_of (N' := KK10) kk10 ?_
  refine n_of (N' := NN9) nn9 ?_
  refine c_cond rfl (fun h0 => ?_) (fun h0 => ?_)
  · skip
    have q0 := of_decide_eq_true h0
    (try dsimp only at q0)
    (try simp only [Dat.len, List.length_append, List.length_drop, bld_len, marksW_len, List.length_set] at q0)
    refine c_skip ?_
    refine n_of (N' := NN8) nn8 ?_
    refine c_seq fun NN11 nn11 => ?_
    refine c_block fun XX12 xx12 => ?_
    refine c_seq fun NN13 nn13 => ?_
    refine c_region fun KK14 kk14 => ?_
    refine And.intro ?_ ?_
    · exact ⟨fint_narrows (by (try dsimp only); omega) (by (try dsimp only); omega), one_narrows⟩   -- 0 narrowc
    refine And.intro ?_ ?_
    · ((try dsimp only); (try simp only [Dat.len, Int.toNat_natCast, List.length_append, List.length_drop, bld_len, marksW_len, List.length_set]); omega)   -- 1 index
    refine And.intro ?_ ?_
    · ((try dsimp only); (try simp only [Dat.len, Int.toNat_natCast, List.length_append, List.length_drop, bld_len, marksW_len, List.length_set]); omega)   -- 2 store
    refine n_of (N' := KK14) kk14 ?_
    refine n_of (N' := NN13) nn13 ?_
    refine c_seq fun NN15 nn15 => ?_
    refine c_region fun KK16 kk16 => ?_
    refine n_of (N' := KK16) kk16 ?_
    refine n_of (N' := NN15) nn15 ?_
    refine c_seq fun NN17 nn17 => ?_
    refine c_region fun KK18 kk18 => ?_
    refine And.intro ?_ ?_
    · ((try dsimp only); (try simp only [Dat.len, Int.toNat_natCast, List.length_append, List.length_drop, bld_len, marksW_len, List.length_set]); omega)   -- 3 index
    refine And.intro ?_ ?_
    · ((try dsimp only); (try simp only [Dat.len, Int.toNat_natCast, List.length_append, List.length_drop, bld_len, marksW_len, List.length_set]); omega)   -- 4 store
    refine n_of (N' := KK18) kk18 ?_
    refine n_of (N' := NN17) nn17 ?_
    refine c_region fun KK19 kk19 => ?_
    refine n_of (N' := KK19) kk19 ?_
    refine n_of (N' := NN11) nn11 ?_
    refine c_region fun KK20 kk20 => ?_
    refine n_of (N' := KK20) kk20 ?_
    refine n_of (N' := NL7) nl7 ?_
    refine ⟨⟨i + 1, by omega⟩, ?_, [0], rfl, ?_, ?_⟩
    · (dsimp only; omega)
    · exact LEq.eq ⟨congrArg (arW true) (by rw [wr64 (n := n + 2 * (i : Int) + 1) (by omega) (by omega)]; exact marksW_put (i := i) (by omega)), trivial⟩
    · exact ⟨.inr (congrArg (exi .i64) (wr64 (n := (i : Int) + 1) (by omega) (by omega))), .inr (congrArg (exi .i64) (by rw [wr64 (n := n + 2 * (i : Int) + 1) (by omega) (by omega)]; exact (wr64 (n := n + 2 * (i : Int) + 1 + 1) (by omega) (by omega)).trans (show n + 2 * (i : Int) + 1 + 1 = n + 2 * ((i + 1 : Nat) : Int) by omega))), .inr rfl, trivial⟩
  · skip
    have q0 := of_decide_eq_false h0
    (try dsimp only at q0)
    (try simp only [Dat.len, List.length_append, List.length_drop, bld_len, marksW_len, List.length_set] at q0)
    refine c_exit ?_
    refine x_here xx6 ?_
    refine n_of (N' := NN3) nn3 ?_
    refine c_seq fun NN21 nn21 => ?_
    refine c_region fun KK22 kk22 => ?_
    refine n_of (N' := KK22) kk22 ?_
    refine n_of (N' := NN21) nn21 ?_
    refine c_ret ?_
    refine n_of (N' := R0) hR ?_
    have e : i = xs.length := by omega
    subst e
    exact ⟨[], rfl, congrArg (fun ys => [arW true ys]) (by simp), rfl⟩

theorem s28 (o : Bool) (len : Nat) (n : Int) (h0 : 0 ≤ n) (h1 : n ≤ 1000000000) (hn : len ≤ 1048576) : SP 28 [arW o (marksW n len)] [.one (.sl 0), i64 n] [arW o (marksW n len)] (exi .i64 (n + 2 * len)) := by
  refine spec_of_codeR (fn := Try.f28) tyOK mixes Try.func28 rfl rfl rfl ⟨.inl rfl, rfl⟩ fun hg R0 hR => ?_
  refine c_seq fun NN1 nn1 => ?_
  refine c_region fun KK2 kk2 => ?_
  refine n_of (N' := KK2) kk2 ?_
  refine n_of (N' := NN1) nn1 ?_
  refine c_seq fun NN3 nn3 => ?_
  refine c_seq fun NN4 nn4 => ?_
  refine c_region fun KK5 kk5 => ?_
  refine n_of (N' := KK5) kk5 ?_
  refine n_of (N' := NN4) nn4 ?_
  refine c_block fun XX6 xx6 => ?_
  refine loop_keep [] [0] (ι := { i : Nat // i ≤ len }) (fun i => [(5, exi .i64 i.1), (1, exi .i64 (n + 2 * i.1))]) (fun i => []) (fun i => len - i.1) ⟨0, Nat.zero_le _⟩ trivial rfl ?_
  refine ⟨?_, ?_, ?_⟩
  · exact ⟨.inr rfl, .inr (congrArg (exi .i64) (by simp)), trivial⟩
  · exact ⟨rfl, trivial⟩
  refine fun ⟨i, hi⟩ NL7 nl7 => ?_
  refine c_norm rfl rfl ?_
  refine c_seq fun NN8 nn8 => ?_
  refine c_seq fun NN9 nn9 => ?_
  refine c_region fun KK10 kk10 => ?_
  refine n_of (N' := KK10) kk10 ?_
  refine n_of (N' := NN9) nn9 ?_
  refine c_cond rfl (fun h0 => ?_) (fun h0 => ?_)
  · skip
    have q0 := of_decide_eq_true h0
    (try dsimp only at q0)
    (try simp only [Dat.len, marksW_len] at q0)
    refine c_skip ?_
    refine n_of (N' := NN8) nn8 ?_
    refine c_seq fun NN11 nn11 => ?_
    refine c_block fun XX12 xx12 => ?_
    refine c_seq fun NN13 nn13 => ?_
    refine c_seq fun NN14 nn14 => ?_
    refine c_region fun KK15 kk15 => ?_
    refine And.intro ?_ ?_
    · ((try dsimp only); (try simp only [Dat.len, Int.toNat_natCast, marksW_len]); omega)   -- 0 index
    refine And.intro ?_ ?_
    · ((try dsimp only); (try simp only [Dat.len, Int.toNat_natCast, marksW_len]); omega)   -- 1 load
    refine And.intro ?_ ?_
    · exact ⟨fint_narrows (by (try dsimp only); omega) (by (try dsimp only); omega), one_narrows⟩   -- 2 narrowc
    refine n_of (N' := KK15) kk15 ?_
    refine n_of (N' := NN14) nn14 ?_
    refine c_cond rfl (fun h1 => ?_) (fun h1 => ?_)
    · skip
      refine c_seq fun NN16 nn16 => ?_
      refine c_region fun KK17 kk17 => ?_
      refine n_of (N' := KK17) kk17 ?_
      refine n_of (N' := NN16) nn16 ?_
      refine c_ret ?_
      refine n_of (N' := R0) hR ?_
      (try dsimp only at h1)
      simp only [Int.toNat_natCast] at h1
      unfold marksW at h1
      rw [bld_at (0, 0, 0) _ (show i < len by omega)] at h1
      (try dsimp only at h1)
      rw [eql_self (narrow_isN (nearest_isN _ _)), eql_self (narrow_isN one_isN)] at h1
      cases h1
    · skip
      refine c_skip ?_
      refine n_of (N' := NN13) nn13 ?_
      refine c_seq fun NN18 nn18 => ?_
      refine c_region fun KK19 kk19 => ?_
      refine n_of (N' := KK19) kk19 ?_
      refine n_of (N' := NN18) nn18 ?_
      refine c_seq fun NN20 nn20 => ?_
      refine c_seq fun NN21 nn21 => ?_
      refine c_region fun KK22 kk22 => ?_
      refine And.intro ?_ ?_
      · ((try dsimp only); (try simp only [Dat.len, Int.toNat_natCast, marksW_len]); omega)   -- 3 index
      refine And.intro ?_ ?_
      · ((try dsimp only); (try simp only [Dat.len, Int.toNat_natCast, marksW_len]); omega)   -- 4 load
      refine n_of (N' := KK22) kk22 ?_
      refine n_of (N' := NN21) nn21 ?_
      refine c_cond rfl (fun h2 => ?_) (fun h2 => ?_)
      · skip
        refine c_seq fun NN23 nn23 => ?_
        refine c_region fun KK24 kk24 => ?_
        refine n_of (N' := KK24) kk24 ?_
        refine n_of (N' := NN23) nn23 ?_
        refine c_ret ?_
        refine n_of (N' := R0) hR ?_
        (try dsimp only at h2)
        simp only [Int.toNat_natCast] at h2
        unfold marksW at h2
        rw [bld_at (0, 0, 0) _ (show i < len by omega)] at h2
        (try dsimp only at h2)
        rw [wr64 (n := n + 2 * (i : Int) + 1) (by omega) (by omega), neq_self, nearest_isN] at h2
        cases h2
      · skip
        refine c_skip ?_
        refine n_of (N' := NN20) nn20 ?_
        refine c_region fun KK25 kk25 => ?_
        refine n_of (N' := KK25) kk25 ?_
        refine n_of (N' := NN11) nn11 ?_
        refine c_region fun KK26 kk26 => ?_
        refine n_of (N' := KK26) kk26 ?_
        refine n_of (N' := NL7) nl7 ?_
        refine ⟨⟨i + 1, by omega⟩, ?_, [0], rfl, ?_, ?_⟩
        · (dsimp only; omega)
        · exact LEq.eq ⟨rfl, trivial⟩
        · exact ⟨.inr (congrArg (exi .i64) (wr64 (n := (i : Int) + 1) (by omega) (by omega))), .inr (congrArg (exi .i64) (by rw [wr64 (n := n + 2 * (i : Int) + 1) (by omega) (by omega)]; exact (wr64 (n := n + 2 * (i : Int) + 1 + 1) (by omega) (by omega)).trans (show n + 2 * (i : Int) + 1 + 1 = n + 2 * ((i + 1 : Nat) : Int) by omega))), .inr rfl, trivial⟩
  · skip
    have q0 := of_decide_eq_false h0
    (try dsimp only at q0)
    (try simp only [Dat.len, marksW_len] at q0)
    refine c_exit ?_
    refine x_here xx6 ?_
    refine n_of (N' := NN3) nn3 ?_
    refine c_seq fun NN27 nn27 => ?_
    refine c_region fun KK28 kk28 => ?_
    refine n_of (N' := KK28) kk28 ?_
    refine n_of (N' := NN27) nn27 ?_
    refine c_ret ?_
    refine n_of (N' := R0) hR ?_
    have e : i = len := by omega
    subst e
    exact ⟨[], rfl, rfl, rfl⟩

theorem s6 (n : Int) (r s : Nat) : SP 6 [] [i64 n, f32 r, f32 s] [] (exb true) := by
  refine spec_of_codeR (fn := Try.f6) tyOK mixes Try.func6 rfl rfl rfl rfl fun hg R0 hR => ?_
  have hR1 : (gR (okpo n r s) (bld (Fpoly r s n.toNat) n.toNat)).length ≤ 32 := gR_len fun hb => areW_len (by unfold okpo at hb; simp only [Bool.and_eq_true] at hb; exact hb.2)
  refine c_seq fun NN1 nn1 => ?_
  refine c_region fun KK2 kk2 => ?_
  refine n_of (N' := KK2) kk2 ?_
  refine n_of (N' := NN1) nn1 ?_
  refine c_seq fun NN3 nn3 => ?_
  refine c_region fun KK4 kk4 => ?_
  refine ⟨rfl, _, _, (s24 _ _ _), ?_⟩
  refine n_of (N' := KK4) kk4 ?_
  refine n_of (N' := NN3) nn3 ?_
  refine c_seq fun NN5 nn5 => ?_
  refine c_region fun KK6 kk6 => ?_
  refine ⟨rfl, _, _, (s25 _ _ _), ?_⟩
  refine n_of (N' := KK6) kk6 ?_
  refine n_of (N' := NN5) nn5 ?_
  refine c_seq fun NN7 nn7 => ?_
  refine c_seq fun NN8 nn8 => ?_
  refine c_region fun KK9 kk9 => ?_
  refine ⟨rfl, _, _, s26 _ _ _, ?_⟩
  refine And.intro (fun h0 => ?_) (fun h0 => ?_)
  · skip
    (first | (cases h0; done) | exact bnn h0 | (have q := of_decide_eq_true h0; exfalso; omega) | exact absurd rfl (ne_of_bneT h0))
  · skip
    refine n_of (N' := KK9) kk9 ?_
    refine n_of (N' := NN8) nn8 ?_
    refine c_cond rfl (fun h1 => ?_) (fun h1 => ?_)
    · skip
      (first | (cases h1; done) | exact bnn h1 | (have q := of_decide_eq_true h1; exfalso; omega) | exact absurd rfl (ne_of_bneT h1))
    · skip
      refine c_skip ?_
      refine n_of (N' := NN7) nn7 ?_
      refine c_seq fun NN10 nn10 => ?_
      refine c_region fun KK11 kk11 => ?_
      refine n_of (N' := KK11) kk11 ?_
      refine n_of (N' := NN10) nn10 ?_
      refine c_seq fun NN12 nn12 => ?_
      refine c_region fun KK13 kk13 => ?_
      refine ⟨rfl, _, _, (s27 _ _ (by ((try dsimp only); first | assumption | omega | (simp (disch := omega) only [wr64]; omega))) (by ((try dsimp only); first | assumption | omega | (simp (disch := omega) only [wr64]; omega))) (by ((try dsimp only); first | assumption | omega | (simp (disch := omega) only [wr64]; omega)))), ?_⟩
      refine n_of (N' := KK13) kk13 ?_
      refine n_of (N' := NN12) nn12 ?_
      refine c_seq fun NN14 nn14 => ?_
      refine c_region fun KK15 kk15 => ?_
      refine n_of (N' := KK15) kk15 ?_
      refine n_of (N' := NN14) nn14 ?_
      refine c_seq fun NN16 nn16 => ?_
      refine c_region fun KK17 kk17 => ?_
      refine ⟨rfl, _, _, (s28 _ _ _ (by ((try dsimp only); first | assumption | omega | (simp (disch := omega) only [wr64]; omega))) (by ((try dsimp only); first | assumption | omega | (simp (disch := omega) only [wr64]; omega))) (by ((try dsimp only); first | assumption | omega | (simp (disch := omega) only [wr64]; omega)))), ?_⟩
      refine n_of (N' := KK17) kk17 ?_
      refine n_of (N' := NN16) nn16 ?_
      refine c_seq fun NN18 nn18 => ?_
      refine c_seq fun NN19 nn19 => ?_
      refine c_region fun KK20 kk20 => ?_
      refine n_of (N' := KK20) kk20 ?_
      refine n_of (N' := NN19) nn19 ?_
      refine c_cond rfl (fun h2 => ?_) (fun h2 => ?_)
      · skip
        (first | (cases h2; done) | exact bnn h2 | (have q := of_decide_eq_true h2; exfalso; omega) | exact absurd rfl (ne_of_bneT h2))
      · skip
        have q2 := of_decide_eq_false h2
        (try dsimp only at q2)
        (try simp only [Dat.len] at q2)
        refine c_skip ?_
        refine n_of (N' := NN18) nn18 ?_
        refine c_seq fun NN21 nn21 => ?_
        refine c_seq fun NN22 nn22 => ?_
        refine c_region fun KK23 kk23 => ?_
        refine n_of (N' := KK23) kk23 ?_
        refine n_of (N' := NN22) nn22 ?_
        refine c_cond rfl (fun h3 => ?_) (fun h3 => ?_)
        · skip
          (first | (cases h3; done) | exact bnn h3 | (have q := of_decide_eq_true h3; exfalso; omega) | exact absurd rfl (ne_of_bneT h3))
        · skip
          have q3 := eq_of_bneF h3
          (try dsimp only at q3)
          (try simp only [Dat.len] at q3)
          refine c_skip ?_
          refine n_of (N' := NN21) nn21 ?_
          refine c_seq fun NN24 nn24 => ?_
          refine c_region fun KK25 kk25 => ?_
          refine ⟨rfl, _, _, (s25 _ _ _), ?_⟩
          refine n_of (N' := KK25) kk25 ?_
          refine n_of (N' := NN24) nn24 ?_
          refine c_seq fun NN26 nn26 => ?_
          refine c_seq fun NN27 nn27 => ?_
          refine c_region fun KK28 kk28 => ?_
          refine ⟨rfl, _, _, s26 _ _ _, ?_⟩
          refine And.intro (fun h4 => ?_) (fun h4 => ?_)
          · skip
            (first | (cases h4; done) | exact bnn h4 | (have q := of_decide_eq_true h4; exfalso; omega) | exact absurd rfl (ne_of_bneT h4))
          · skip
            refine n_of (N' := KK28) kk28 ?_
            refine n_of (N' := NN27) nn27 ?_
            refine c_cond rfl (fun h5 => ?_) (fun h5 => ?_)
            · skip
              (first | (cases h5; done) | exact bnn h5 | (have q := of_decide_eq_true h5; exfalso; omega) | exact absurd rfl (ne_of_bneT h5))
            · skip
              refine c_skip ?_
              refine n_of (N' := NN26) nn26 ?_
              refine c_seq fun NN29 nn29 => ?_
              refine c_region fun KK30 kk30 => ?_
              refine n_of (N' := KK30) kk30 ?_
              refine n_of (N' := NN29) nn29 ?_
              refine c_seq fun NN31 nn31 => ?_
              refine c_region fun KK32 kk32 => ?_
              refine ⟨rfl, _, _, (s28 _ _ _ (by ((try dsimp only); first | assumption | omega | (simp (disch := omega) only [wr64]; omega))) (by ((try dsimp only); first | assumption | omega | (simp (disch := omega) only [wr64]; omega))) (by ((try dsimp only); first | assumption | omega | (simp (disch := omega) only [wr64]; omega)))), ?_⟩
              refine n_of (N' := KK32) kk32 ?_
              refine n_of (N' := NN31) nn31 ?_
              refine c_seq fun NN33 nn33 => ?_
              refine c_seq fun NN34 nn34 => ?_
              refine c_region fun KK35 kk35 => ?_
              refine n_of (N' := KK35) kk35 ?_
              refine n_of (N' := NN34) nn34 ?_
              refine c_cond rfl (fun h6 => ?_) (fun h6 => ?_)
              · skip
                (first | (cases h6; done) | exact bnn h6 | (have q := of_decide_eq_true h6; exfalso; omega) | exact absurd rfl (ne_of_bneT h6))
              · skip
                have q6 := of_decide_eq_false h6
                (try dsimp only at q6)
                (try simp only [Dat.len] at q6)
                refine c_skip ?_
                refine n_of (N' := NN33) nn33 ?_
                refine c_seq fun NN36 nn36 => ?_
                refine c_seq fun NN37 nn37 => ?_
                refine c_region fun KK38 kk38 => ?_
                refine n_of (N' := KK38) kk38 ?_
                refine n_of (N' := NN37) nn37 ?_
                refine c_cond rfl (fun h7 => ?_) (fun h7 => ?_)
                · skip
                  (first | (cases h7; done) | exact bnn h7 | (have q := of_decide_eq_true h7; exfalso; omega) | exact absurd rfl (ne_of_bneT h7))
                · skip
                  have q7 := eq_of_bneF h7
                  (try dsimp only at q7)
                  (try simp only [Dat.len] at q7)
                  refine c_skip ?_
                  refine n_of (N' := NN36) nn36 ?_
                  refine c_seq fun NN39 nn39 => ?_
                  refine c_region fun KK40 kk40 => ?_
                  refine n_of (N' := KK40) kk40 ?_
                  refine n_of (N' := NN39) nn39 ?_
                  refine c_ret ?_
                  refine n_of (N' := R0) hR ?_
                  exact ⟨[], rfl, rfl, rfl⟩

end
end Go.AX
