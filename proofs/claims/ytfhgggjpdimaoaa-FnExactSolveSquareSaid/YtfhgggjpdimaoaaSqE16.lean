/- What the functions of this program do, one contract a function, by that walk: each under what its own statement says. -/
import Derived.Test.YtfhgggjpdimaoaaSqE15
set_option linter.unusedVariables false
set_option linter.unusedSimpArgs false
namespace Go.AX
noncomputable section
open Go.RowKit Go.Proofs
set_option maxRecDepth 100000
set_option maxHeartbeats 4000000
open Go

theorem sol_len {F : FF} {b : BB} {N : Nat} {xs : List Nat} (h : sol F b N = some xs) : xs.length = N := by
  unfold sol at h
  cases he : elim F b N N with
  | none => rw [he] at h; cases h
  | some S =>
    rw [he] at h
    have h : (if (bld (bsx S.1 S.2 N N) N).all finB = true then some (bld (bsx S.1 S.2 N N) N) else none) = some xs := h
    split at h
    · cases h; exact bld_len _ _
    · cases h
theorem solL_len (a b : List Nat) : (solL (solve a b)).length ≤ 16 := by
  cases h : solve a b with
  | none => exact Nat.zero_le _
  | some xs =>
    unfold solve at h
    split at h
    · rename_i ok
      have hl := sol_len h
      have hb : b.length ≤ 16 := by
        unfold okSq at ok
        simp only [Bool.and_eq_true] at ok
        exact (inB_of ok.1.1).2
      show xs.length ≤ 16
      omega
    · cases h

theorem s19 (o : Bool) (xs : List Nat) (hn : xs.length ≤ 1048576) : SP 19 [ar o xs] [.one (.sl 0)] [ar o xs, ar true xs] (one (.sl 1)) := by
  refine spec_of_codeR (fn := Try.f19) tyOK mixes Try.func19 rfl rfl rfl ⟨.inl rfl, rfl⟩ fun hg R0 hR => ?_
  refine c_seq fun NN1 nn1 => ?_
  refine c_region fun KK2 kk2 => ?_
  refine n_of (N' := KK2) kk2 ?_
  refine n_of (N' := NN1) nn1 ?_
  refine c_seq fun NN3 nn3 => ?_
  refine c_region fun KK4 kk4 => ?_
  refine And.intro ?_ ?_
  · (refine ⟨rfl, ?_, ?_, by decide⟩ <;> (try dsimp only) <;> (try simp only [Dat.len, Int.toNat_natCast, List.length_append, List.length_replicate, List.length_take]) <;> omega)   -- 0 make
  refine n_of (N' := KK4) kk4 ?_
  refine n_of (N' := NN3) nn3 ?_
  refine c_seq fun NN5 nn5 => ?_
  refine c_seq fun NN6 nn6 => ?_
  refine c_region fun KK7 kk7 => ?_
  refine n_of (N' := KK7) kk7 ?_
  refine n_of (N' := NN6) nn6 ?_
  refine c_block fun XX8 xx8 => ?_
  refine loop_keep [] [0, 3] (ι := { i : Nat // i ≤ xs.length }) (fun i => [(4, exi .i64 i.1)]) (fun i => [(1, ar true (xs.take i.1 ++ List.replicate (xs.length - i.1) 0))]) (fun i => xs.length - i.1) ⟨0, Nat.zero_le _⟩ trivial rfl ?_
  refine ⟨?_, ?_, ?_⟩
  · exact ⟨.inr rfl, trivial⟩
  · exact ⟨rfl, congrArg (ar true) (by simp [Dat.len]), trivial⟩
  refine fun ⟨i, hi⟩ NL9 nl9 => ?_
  refine c_norm rfl rfl ?_
  refine c_seq fun NN10 nn10 => ?_
  refine c_seq fun NN11 nn11 => ?_
  refine c_region fun KK12 kk12 => ?_
  refine n_of (N' := KK12) kk12 ?_
  refine n_of (N' := NN11) nn11 ?_
  refine c_cond rfl (fun h0 => ?_) (fun h0 => ?_)
  · skip
    have q0 := of_decide_eq_true h0
    (try dsimp only at q0)
    (try simp only [Dat.len, List.length_append, List.length_replicate, List.length_take] at q0)
    refine c_skip ?_
    refine n_of (N' := NN10) nn10 ?_
    refine c_seq fun NN13 nn13 => ?_
    refine c_block fun XX14 xx14 => ?_
    refine c_region fun KK15 kk15 => ?_
    refine And.intro ?_ ?_
    · ((try dsimp only); (try simp only [Dat.len, Int.toNat_natCast, List.length_append, List.length_replicate, List.length_take]); omega)   -- 1 index
    refine And.intro ?_ ?_
    · ((try dsimp only); (try simp only [Dat.len, Int.toNat_natCast, List.length_append, List.length_replicate, List.length_take]); omega)   -- 2 load
    refine And.intro ?_ ?_
    · ((try dsimp only); (try simp only [Dat.len, Int.toNat_natCast, List.length_append, List.length_replicate, List.length_take]); omega)   -- 3 index
    refine And.intro ?_ ?_
    · ((try dsimp only); (try simp only [Dat.len, Int.toNat_natCast, List.length_append, List.length_replicate, List.length_take]); omega)   -- 4 store
    refine n_of (N' := KK15) kk15 ?_
    refine n_of (N' := NN13) nn13 ?_
    refine c_region fun KK16 kk16 => ?_
    refine n_of (N' := KK16) kk16 ?_
    refine n_of (N' := NL9) nl9 ?_
    refine ⟨⟨i + 1, by omega⟩, ?_, [0, 1], rfl, ?_, ?_⟩
    · (dsimp only; omega)
    · exact LEq.eq ⟨rfl, congrArg (ar true) (take_put 0 0 xs (i := i) (by omega) rfl), trivial⟩
    · exact ⟨.inr (congrArg (exi .i64) (wr64 (n := (i : Int) + 1) (by omega) (by omega))), .inr rfl, .inr rfl, trivial⟩
  · skip
    have q0 := of_decide_eq_false h0
    (try dsimp only at q0)
    (try simp only [Dat.len, List.length_append, List.length_replicate, List.length_take] at q0)
    refine c_exit ?_
    refine x_here xx8 ?_
    refine n_of (N' := NN5) nn5 ?_
    refine c_seq fun NN17 nn17 => ?_
    refine c_region fun KK18 kk18 => ?_
    refine n_of (N' := KK18) kk18 ?_
    refine n_of (N' := NN17) nn17 ?_
    refine c_ret ?_
    refine n_of (N' := R0) hR ?_
    have e : i = xs.length := by omega
    subst e
    exact ⟨[], rfl, congrArg (fun ys => [ar o xs, ar true ys]) (by simp), rfl⟩

theorem s5 (o o2 : Bool) (xs ys : List Nat) : SP 5 [ar o xs, ar o2 ys] [.one (.sl 0), .one (.sl 1)] [ar o xs, ar o2 ys] (exb true) := by
  refine spec_of_codeR (fn := Try.f5) tyOK mixes Try.func5 rfl rfl rfl ⟨.inl rfl, ⟨.inl rfl, rfl⟩⟩ fun hg R0 hR => ?_
  have hRl := solL_len xs ys
  refine c_seq fun NN1 nn1 => ?_
  refine c_region fun KK2 kk2 => ?_
  refine n_of (N' := KK2) kk2 ?_
  refine n_of (N' := NN1) nn1 ?_
  refine c_seq fun NN3 nn3 => ?_
  refine c_seq fun NN4 nn4 => ?_
  refine c_region fun KK5 kk5 => ?_
  refine n_of (N' := KK5) kk5 ?_
  refine n_of (N' := NN4) nn4 ?_
  refine c_cond rfl (fun h0 => ?_) (fun h0 => ?_)
  · skip
    have q0 := of_decide_eq_true h0
    (try dsimp only at q0)
    (try simp only [Dat.len] at q0)
    refine c_seq fun NN6 nn6 => ?_
    refine c_region fun KK7 kk7 => ?_
    refine n_of (N' := KK7) kk7 ?_
    refine n_of (N' := NN6) nn6 ?_
    refine c_ret ?_
    refine n_of (N' := R0) hR ?_
    exact ⟨[], rfl, rfl, rfl⟩
  · skip
    have q0 := of_decide_eq_false h0
    (try dsimp only at q0)
    (try simp only [Dat.len] at q0)
    have hn : xs.length ≤ 1048576 := by
      have q := of_decide_eq_false h0
      (try simp only [Dat.len] at q)
      omega
    refine c_skip ?_
    refine n_of (N' := NN3) nn3 ?_
    refine c_seq fun NN8 nn8 => ?_
    refine c_seq fun NN9 nn9 => ?_
    refine c_region fun KK10 kk10 => ?_
    refine n_of (N' := KK10) kk10 ?_
    refine n_of (N' := NN9) nn9 ?_
    refine c_cond rfl (fun h1 => ?_) (fun h1 => ?_)
    · skip
      have q1 := of_decide_eq_true h1
      (try dsimp only at q1)
      (try simp only [Dat.len] at q1)
      refine c_seq fun NN11 nn11 => ?_
      refine c_region fun KK12 kk12 => ?_
      refine n_of (N' := KK12) kk12 ?_
      refine n_of (N' := NN11) nn11 ?_
      refine c_ret ?_
      refine n_of (N' := R0) hR ?_
      exact ⟨[], rfl, rfl, rfl⟩
    · skip
      have q1 := of_decide_eq_false h1
      (try dsimp only at q1)
      (try simp only [Dat.len] at q1)
      have hm : ys.length ≤ 1048576 := by
        have q := of_decide_eq_false h1
        (try simp only [Dat.len] at q)
        omega
      refine c_skip ?_
      refine n_of (N' := NN8) nn8 ?_
      refine c_seq fun NN13 nn13 => ?_
      refine c_region fun KK14 kk14 => ?_
      refine ⟨rfl, _, _, (s19 _ _ (by ((try dsimp only); first | assumption | omega | (simp (disch := omega) only [wr64]; omega)))), ?_⟩
      refine ⟨rfl, _, _, (s19 _ _ (by ((try dsimp only); first | assumption | omega | (simp (disch := omega) only [wr64]; omega)))), ?_⟩
      refine ⟨rfl, _, _, s18 _ _ _ _, ?_⟩
      refine n_of (N' := KK14) kk14 ?_
      refine n_of (N' := NN13) nn13 ?_
      refine c_seq fun NN15 nn15 => ?_
      refine c_region fun KK16 kk16 => ?_
      refine ⟨rfl, _, _, (s19 _ _ (by ((try dsimp only); first | assumption | omega | (simp (disch := omega) only [wr64]; omega)))), ?_⟩
      refine n_of (N' := KK16) kk16 ?_
      refine n_of (N' := NN15) nn15 ?_
      refine c_seq fun NN17 nn17 => ?_
      refine c_region fun KK18 kk18 => ?_
      refine ⟨rfl, _, _, (s19 _ _ (by ((try dsimp only); first | assumption | omega | (simp (disch := omega) only [wr64]; omega)))), ?_⟩
      refine n_of (N' := KK18) kk18 ?_
      refine n_of (N' := NN17) nn17 ?_
      refine c_seq fun NN19 nn19 => ?_
      refine c_region fun KK20 kk20 => ?_
      refine ⟨rfl, _, _, s20 _ _, ?_⟩
      refine n_of (N' := KK20) kk20 ?_
      refine n_of (N' := NN19) nn19 ?_
      refine c_seq fun NN21 nn21 => ?_
      refine c_seq fun NN22 nn22 => ?_
      refine c_region fun KK23 kk23 => ?_
      refine ⟨rfl, _, _, s21 _ _ _, ?_⟩
      refine And.intro (fun h2 => ?_) (fun h2 => ?_)
      · skip
        (first | (cases h2; done) | exact bnn h2 | (have q := of_decide_eq_true h2; exfalso; omega) | exact absurd rfl (ne_of_bneT h2))
      · skip
        refine n_of (N' := KK23) kk23 ?_
        refine n_of (N' := NN22) nn22 ?_
        refine c_cond rfl (fun h3 => ?_) (fun h3 => ?_)
        · skip
          (first | (cases h3; done) | exact bnn h3 | (have q := of_decide_eq_true h3; exfalso; omega) | exact absurd rfl (ne_of_bneT h3))
        · skip
          refine c_skip ?_
          refine n_of (N' := NN21) nn21 ?_
          refine c_seq fun NN24 nn24 => ?_
          refine c_seq fun NN25 nn25 => ?_
          refine c_region fun KK26 kk26 => ?_
          refine ⟨rfl, _, _, (s19 _ _ (by ((try dsimp only); first | assumption | omega | (simp (disch := omega) only [wr64]; omega)))), ?_⟩
          refine ⟨rfl, _, _, s21 _ _ _, ?_⟩
          refine n_of (N' := KK26) kk26 ?_
          refine n_of (N' := NN25) nn25 ?_
          refine c_cond rfl (fun h4 => ?_) (fun h4 => ?_)
          · skip
            (first | (cases h4; done) | exact bnn h4 | (have q := of_decide_eq_true h4; exfalso; omega) | exact absurd rfl (ne_of_bneT h4))
          · skip
            refine c_skip ?_
            refine n_of (N' := NN24) nn24 ?_
            refine c_seq fun NN27 nn27 => ?_
            refine c_seq fun NN28 nn28 => ?_
            refine c_region fun KK29 kk29 => ?_
            refine ⟨rfl, _, _, (s19 _ _ (by ((try dsimp only); first | assumption | omega | (simp (disch := omega) only [wr64]; omega)))), ?_⟩
            refine ⟨rfl, _, _, s21 _ _ _, ?_⟩
            refine n_of (N' := KK29) kk29 ?_
            refine n_of (N' := NN28) nn28 ?_
            refine c_cond rfl (fun h5 => ?_) (fun h5 => ?_)
            · skip
              (first | (cases h5; done) | exact bnn h5 | (have q := of_decide_eq_true h5; exfalso; omega) | exact absurd rfl (ne_of_bneT h5))
            · skip
              refine c_skip ?_
              refine n_of (N' := NN27) nn27 ?_
              refine c_seq fun NN30 nn30 => ?_
              refine c_region fun KK31 kk31 => ?_
              refine n_of (N' := KK31) kk31 ?_
              refine n_of (N' := NN30) nn30 ?_
              refine c_seq fun NN32 nn32 => ?_
              refine c_region fun KK33 kk33 => ?_
              refine ⟨rfl, _, _, (s22 _ _ (by ((try dsimp only); first | assumption | omega | (simp (disch := omega) only [wr64]; omega))) (by ((try dsimp only); first | assumption | omega | (simp (disch := omega) only [wr64]; omega))) (by ((try dsimp only); first | assumption | omega | (simp (disch := omega) only [wr64]; omega)))), ?_⟩
              refine n_of (N' := KK33) kk33 ?_
              refine n_of (N' := NN32) nn32 ?_
              refine c_seq fun NN34 nn34 => ?_
              refine c_region fun KK35 kk35 => ?_
              refine ⟨rfl, _, _, (s22 _ _ (by ((try dsimp only); first | assumption | omega | (simp (disch := omega) only [wr64]; omega))) (by ((try dsimp only); first | assumption | omega | (simp (disch := omega) only [wr64]; omega))) (by ((try dsimp only); first | assumption | omega | (simp (disch := omega) only [wr64]; omega)))), ?_⟩
              refine n_of (N' := KK35) kk35 ?_
              refine n_of (N' := NN34) nn34 ?_
              refine c_seq fun NN36 nn36 => ?_
              refine c_seq fun NN37 nn37 => ?_
              refine c_region fun KK38 kk38 => ?_
              refine And.intro (fun h6 => ?_) (fun h6 => ?_)
              · skip
                (first | (cases h6; done) | exact bnn h6 | (have q := of_decide_eq_true h6; exfalso; omega) | exact absurd rfl (ne_of_bneT h6))
              · skip
                have q6 := of_decide_eq_false h6
                (try dsimp only at q6)
                (try simp only [Dat.len] at q6)
                refine ⟨rfl, _, _, s21 _ _ _, ?_⟩
                refine And.intro (fun h7 => ?_) (fun h7 => ?_)
                · skip
                  (first | (cases h7; done) | exact bnn h7 | (have q := of_decide_eq_true h7; exfalso; omega) | exact absurd rfl (ne_of_bneT h7))
                · skip
                  refine n_of (N' := KK38) kk38 ?_
                  refine n_of (N' := NN37) nn37 ?_
                  refine c_cond rfl (fun h8 => ?_) (fun h8 => ?_)
                  · skip
                    (first | (cases h8; done) | exact bnn h8 | (have q := of_decide_eq_true h8; exfalso; omega) | exact absurd rfl (ne_of_bneT h8))
                  · skip
                    refine c_skip ?_
                    refine n_of (N' := NN36) nn36 ?_
                    refine c_seq fun NN39 nn39 => ?_
                    refine c_region fun KK40 kk40 => ?_
                    refine n_of (N' := KK40) kk40 ?_
                    refine n_of (N' := NN39) nn39 ?_
                    refine c_seq fun NN41 nn41 => ?_
                    refine c_region fun KK42 kk42 => ?_
                    refine ⟨rfl, _, _, (s22 _ _ (by ((try dsimp only); first | assumption | omega | (simp (disch := omega) only [wr64]; omega))) (by ((try dsimp only); first | assumption | omega | (simp (disch := omega) only [wr64]; omega))) (by ((try dsimp only); first | assumption | omega | (simp (disch := omega) only [wr64]; omega)))), ?_⟩
                    refine n_of (N' := KK42) kk42 ?_
                    refine n_of (N' := NN41) nn41 ?_
                    refine c_seq fun NN43 nn43 => ?_
                    refine c_region fun KK44 kk44 => ?_
                    refine n_of (N' := KK44) kk44 ?_
                    refine n_of (N' := NN43) nn43 ?_
                    refine c_seq fun NN45 nn45 => ?_
                    refine c_region fun KK46 kk46 => ?_
                    refine ⟨rfl, _, _, (s23 _ _ _ (by ((try dsimp only); first | assumption | omega | (simp (disch := omega) only [wr64]; omega))) (by ((try dsimp only); first | assumption | omega | (simp (disch := omega) only [wr64]; omega))) (by ((try dsimp only); first | assumption | omega | (simp (disch := omega) only [wr64]; omega)))), ?_⟩
                    refine n_of (N' := KK46) kk46 ?_
                    refine n_of (N' := NN45) nn45 ?_
                    refine c_seq fun NN47 nn47 => ?_
                    refine c_seq fun NN48 nn48 => ?_
                    refine c_region fun KK49 kk49 => ?_
                    refine n_of (N' := KK49) kk49 ?_
                    refine n_of (N' := NN48) nn48 ?_
                    refine c_cond rfl (fun h9 => ?_) (fun h9 => ?_)
                    · skip
                      (first | (cases h9; done) | exact bnn h9 | (have q := of_decide_eq_true h9; exfalso; omega) | exact absurd rfl (ne_of_bneT h9))
                    · skip
                      have q9 := of_decide_eq_false h9
                      (try dsimp only at q9)
                      (try simp only [Dat.len] at q9)
                      refine c_skip ?_
                      refine n_of (N' := NN47) nn47 ?_
                      refine c_seq fun NN50 nn50 => ?_
                      refine c_seq fun NN51 nn51 => ?_
                      refine c_region fun KK52 kk52 => ?_
                      refine n_of (N' := KK52) kk52 ?_
                      refine n_of (N' := NN51) nn51 ?_
                      refine c_cond rfl (fun h10 => ?_) (fun h10 => ?_)
                      · skip
                        (first | (cases h10; done) | exact bnn h10 | (have q := of_decide_eq_true h10; exfalso; omega) | exact absurd rfl (ne_of_bneT h10))
                      · skip
                        have q10 := eq_of_bneF h10
                        (try dsimp only at q10)
                        (try simp only [Dat.len] at q10)
                        refine c_skip ?_
                        refine n_of (N' := NN50) nn50 ?_
                        refine c_seq fun NN53 nn53 => ?_
                        refine c_region fun KK54 kk54 => ?_
                        refine ⟨rfl, _, _, (s19 _ _ (by ((try dsimp only); first | assumption | omega | (simp (disch := omega) only [wr64]; omega)))), ?_⟩
                        refine ⟨rfl, _, _, (s19 _ _ (by ((try dsimp only); first | assumption | omega | (simp (disch := omega) only [wr64]; omega)))), ?_⟩
                        refine ⟨rfl, _, _, s20 _ _, ?_⟩
                        refine n_of (N' := KK54) kk54 ?_
                        refine n_of (N' := NN53) nn53 ?_
                        refine c_seq fun NN55 nn55 => ?_
                        refine c_seq fun NN56 nn56 => ?_
                        refine c_region fun KK57 kk57 => ?_
                        refine ⟨rfl, _, _, s21 _ _ _, ?_⟩
                        refine And.intro (fun h11 => ?_) (fun h11 => ?_)
                        · skip
                          (first | (cases h11; done) | exact bnn h11 | (have q := of_decide_eq_true h11; exfalso; omega) | exact absurd rfl (ne_of_bneT h11))
                        · skip
                          refine n_of (N' := KK57) kk57 ?_
                          refine n_of (N' := NN56) nn56 ?_
                          refine c_cond rfl (fun h12 => ?_) (fun h12 => ?_)
                          · skip
                            (first | (cases h12; done) | exact bnn h12 | (have q := of_decide_eq_true h12; exfalso; omega) | exact absurd rfl (ne_of_bneT h12))
                          · skip
                            refine c_skip ?_
                            refine n_of (N' := NN55) nn55 ?_
                            refine c_seq fun NN58 nn58 => ?_
                            refine c_region fun KK59 kk59 => ?_
                            refine n_of (N' := KK59) kk59 ?_
                            refine n_of (N' := NN58) nn58 ?_
                            refine c_seq fun NN60 nn60 => ?_
                            refine c_region fun KK61 kk61 => ?_
                            refine ⟨rfl, _, _, (s23 _ _ _ (by ((try dsimp only); first | assumption | omega | (simp (disch := omega) only [wr64]; omega))) (by ((try dsimp only); first | assumption | omega | (simp (disch := omega) only [wr64]; omega))) (by ((try dsimp only); first | assumption | omega | (simp (disch := omega) only [wr64]; omega)))), ?_⟩
                            refine n_of (N' := KK61) kk61 ?_
                            refine n_of (N' := NN60) nn60 ?_
                            refine c_seq fun NN62 nn62 => ?_
                            refine c_seq fun NN63 nn63 => ?_
                            refine c_region fun KK64 kk64 => ?_
                            refine n_of (N' := KK64) kk64 ?_
                            refine n_of (N' := NN63) nn63 ?_
                            refine c_cond rfl (fun h13 => ?_) (fun h13 => ?_)
                            · skip
                              (first | (cases h13; done) | exact bnn h13 | (have q := of_decide_eq_true h13; exfalso; omega) | exact absurd rfl (ne_of_bneT h13))
                            · skip
                              have q13 := of_decide_eq_false h13
                              (try dsimp only at q13)
                              (try simp only [Dat.len] at q13)
                              refine c_skip ?_
                              refine n_of (N' := NN62) nn62 ?_
                              refine c_seq fun NN65 nn65 => ?_
                              refine c_seq fun NN66 nn66 => ?_
                              refine c_region fun KK67 kk67 => ?_
                              refine n_of (N' := KK67) kk67 ?_
                              refine n_of (N' := NN66) nn66 ?_
                              refine c_cond rfl (fun h14 => ?_) (fun h14 => ?_)
                              · skip
                                (first | (cases h14; done) | exact bnn h14 | (have q := of_decide_eq_true h14; exfalso; omega) | exact absurd rfl (ne_of_bneT h14))
                              · skip
                                have q14 := eq_of_bneF h14
                                (try dsimp only at q14)
                                (try simp only [Dat.len] at q14)
                                refine c_skip ?_
                                refine n_of (N' := NN65) nn65 ?_
                                refine c_seq fun NN68 nn68 => ?_
                                refine c_region fun KK69 kk69 => ?_
                                refine n_of (N' := KK69) kk69 ?_
                                refine n_of (N' := NN68) nn68 ?_
                                refine c_ret ?_
                                refine n_of (N' := R0) hR ?_
                                exact ⟨[], rfl, rfl, rfl⟩

end
end Go.AX
