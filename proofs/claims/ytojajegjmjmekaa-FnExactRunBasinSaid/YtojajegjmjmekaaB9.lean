/- What the functions of this program do, one contract a function, by that walk: each under what its own statement says. -/
import Derived.Test.YtojajegjmjmekaaB8
set_option linter.unusedVariables false
set_option linter.unusedSimpArgs false
namespace Go.AX
noncomputable section
open Go.RowKit Go.Proofs
set_option maxRecDepth 100000
set_option maxHeartbeats 4000000

theorem gR_len {b : Bool} {R : List Nat} {n : Nat} (h : b = true → R.length ≤ n) : (gR b R).length ≤ n := by
  cases b
  · exact Nat.zero_le _
  · exact h rfl
theorem isB_len256 {w h : Int} {R : List Nat} (hb : isB w h R = true) : R.length ≤ 256 := (isB_pos hb).2
theorem sz_is {n : Nat} (h : decide (sz 1048576 n < 0) = false) (hm : n ≤ maxLen) : sz 1048576 n = 1048576 - n := by
  have hn := sz_le h hm
  unfold sz
  rw [wr64 (by omega) (by omega), if_neg (by omega)]
theorem sz_leN {m : Int} {n : Nat} (h : decide (sz m n < 0) = false) (h0 : 0 ≤ m) (h1 : m ≤ 1048576) (hm : n ≤ maxLen) : (n : Int) ≤ m ∧ sz m n = m - n := by
  have h := of_decide_eq_false h
  have hml : maxLen = 9223372036854775807 := by decide
  unfold sz at *
  rw [wr64 (by omega) (by omega)] at h ⊢
  split at h
  · omega
  · rw [if_neg (by omega)]; omega

theorem s40 (w h : Int) (x : Nat) : SP 40 [] [i64 w, i64 h, f32 x] [ar true (gR (okflat w h x) (Rflat w h x))] (toldB (okflat w h x) w h 0) := by
  refine spec_of_codeR (fn := Try.f40) tyOK mixes Try.func40 rfl rfl rfl rfl fun hg R0 hR => ?_
  refine c_seq fun NN1 nn1 => ?_
  refine c_region fun KK2 kk2 => ?_
  refine n_of (N' := KK2) kk2 ?_
  refine n_of (N' := NN1) nn1 ?_
  refine c_seq fun NN3 nn3 => ?_
  refine c_seq fun NN4 nn4 => ?_
  refine c_region fun KK5 kk5 => ?_
  refine ⟨rfl, _, _, (s81 _), ?_⟩
  refine And.intro (fun h0 => ?_) (fun h0 => ?_)
  · skip
    refine n_of (N' := KK5) kk5 ?_
    refine n_of (N' := NN4) nn4 ?_
    refine c_cond rfl (fun _ => ?_) (fun h => nomatch h)
    refine c_seq fun NN6 nn6 => ?_
    refine c_region fun KK7 kk7 => ?_
    refine n_of (N' := KK7) kk7 ?_
    refine n_of (N' := NN6) nn6 ?_
    refine c_ret ?_
    refine n_of (N' := R0) hR ?_
    have ok : okflat w h x = false := by unfold okflat sizeB; rw [not_t h0]; rfl
    exact ⟨[.nil 32 (.f [])], rfl, rfl, by rw [ok]; rfl, by rw [ok]; rfl⟩
  · skip
    refine ⟨rfl, _, _, (s81 _), ?_⟩
    refine n_of (N' := KK5) kk5 ?_
    refine n_of (N' := NN4) nn4 ?_
    refine c_cond rfl (fun h1 => ?_) (fun h1 => ?_)
    · skip
      refine c_seq fun NN8 nn8 => ?_
      refine c_region fun KK9 kk9 => ?_
      refine n_of (N' := KK9) kk9 ?_
      refine n_of (N' := NN8) nn8 ?_
      refine c_ret ?_
      refine n_of (N' := R0) hR ?_
      have ok : okflat w h x = false := by unfold okflat sizeB; rw [not_t h1]; simp
      exact ⟨[.nil 32 (.f [])], rfl, rfl, by rw [ok]; rfl, by rw [ok]; rfl⟩
    · skip
      have hz : sizeB w h = true := by unfold sizeB; rw [not_f h0, not_f h1]; rfl
      obtain ⟨W, H, rfl, rfl, w1, w2, w3, w4, hWH⟩ := size_nat (hz)
      refine c_skip ?_
      refine n_of (N' := NN3) nn3 ?_
      refine c_seq fun NN10 nn10 => ?_
      refine c_region fun KK11 kk11 => ?_
      refine ⟨rfl, _, _, s95flat _ _ _ w1 w2 w3 w4, ?_⟩
      refine ⟨rfl, _, _, (s94 _ _ _), ?_⟩
      refine n_of (N' := KK11) kk11 ?_
      refine n_of (N' := NN10) nn10 ?_
      refine c_ret ?_
      refine n_of (N' := R0) hR ?_
      have e : grid W H (fun x_1 y => x) = Rflat W H x := by rw [gridN, RflatN]
      have ok : okflat W H x = isB W H (Rflat W H x) := by unfold okflat; rw [hz]; rfl
      exact ⟨[], rfl, by rw [ok, ← e], by rw [ok, ← e]⟩

theorem s8 (w h : Int) (x : Nat) : SP 8 [] [i64 w, i64 h, f32 x] [] (exb true) := by
  refine spec_of_codeR (fn := Try.f8) tyOK mixes Try.func8 rfl rfl rfl rfl fun hg R0 hR => ?_
  have hR1 : (gR (okflat w h x) (Rflat w h x)).length ≤ 256 := gR_len fun hb => isB_len256 (w := w) (h := h) (by unfold okflat at hb; simp only [Bool.and_eq_true] at hb; exact hb.2)
  refine c_seq fun NN1 nn1 => ?_
  refine c_region fun KK2 kk2 => ?_
  refine n_of (N' := KK2) kk2 ?_
  refine n_of (N' := NN1) nn1 ?_
  refine c_seq fun NN3 nn3 => ?_
  refine c_region fun KK4 kk4 => ?_
  refine ⟨rfl, _, _, (s39 _ _ _), ?_⟩
  refine n_of (N' := KK4) kk4 ?_
  refine n_of (N' := NN3) nn3 ?_
  refine c_seq fun NN5 nn5 => ?_
  refine c_region fun KK6 kk6 => ?_
  refine ⟨rfl, _, _, (s40 _ _ _), ?_⟩
  refine n_of (N' := KK6) kk6 ?_
  refine n_of (N' := NN5) nn5 ?_
  refine c_seq fun NN7 nn7 => ?_
  refine c_seq fun NN8 nn8 => ?_
  refine c_region fun KK9 kk9 => ?_
  refine ⟨rfl, _, _, (s29 _ _ _ _ _), ?_⟩
  refine And.intro (fun h0 => ?_) (fun h0 => ?_)
  · skip
    (first | (cases h0; done) | exact bnn h0 | (have q := of_decide_eq_true h0; exfalso; omega) | exact absurd rfl (ne_of_bneT h0))
  · skip
    refine n_of (N' := KK9) kk9 ?_
    refine n_of (N' := NN8) nn8 ?_
    refine c_cond rfl (fun h1 => ?_) (fun h1 => ?_)
    · skip
      (first | (cases h1; done) | exact bnn h1 | (have q := of_decide_eq_true h1; exfalso; omega) | exact absurd rfl (ne_of_bneT h1))
    · skip
      refine c_skip ?_
      refine n_of (N' := NN7) nn7 ?_
      refine c_seq fun NN10 nn10 => ?_
      refine c_region fun KK11 kk11 => ?_
      refine n_of (N' := KK11) kk11 ?_
      refine n_of (N' := NN10) nn10 ?_
      refine c_seq fun NN12 nn12 => ?_
      refine c_region fun KK13 kk13 => ?_
      refine ⟨rfl, _, _, (s41 _ _ _ _ (by ((try dsimp only); first | assumption | omega | (simp (disch := omega) only [wr64]; omega))) (by ((try dsimp only); first | assumption | omega | (simp (disch := omega) only [wr64]; omega))) (by ((try dsimp only); first | assumption | omega | (simp (disch := omega) only [wr64]; omega)))), ?_⟩
      refine n_of (N' := KK13) kk13 ?_
      refine n_of (N' := NN12) nn12 ?_
      refine c_seq fun NN14 nn14 => ?_
      refine c_region fun KK15 kk15 => ?_
      refine n_of (N' := KK15) kk15 ?_
      refine n_of (N' := NN14) nn14 ?_
      refine c_seq fun NN16 nn16 => ?_
      refine c_region fun KK17 kk17 => ?_
      refine ⟨rfl, _, _, (s42 _ _ _ _ _ (by ((try dsimp only); first | assumption | omega | (simp (disch := omega) only [wr64]; omega))) (by ((try dsimp only); first | assumption | omega | (simp (disch := omega) only [wr64]; omega))) (by ((try dsimp only); first | assumption | omega | (simp (disch := omega) only [wr64]; omega)))), ?_⟩
      refine n_of (N' := KK17) kk17 ?_
      refine n_of (N' := NN16) nn16 ?_
      refine c_seq fun NN18 nn18 => ?_
      refine c_seq fun NN19 nn19 => ?_
      refine c_region fun KK20 kk20 => ?_
      refine n_of (N' := KK20) kk20 ?_
      refine n_of (N' := NN19) nn19 ?_
      refine c_cond rfl (fun h2 => ?_) (fun h2 => ?_)
      · skip
        (first | (cases h2; done) | exact bnn h2 | (have q := of_decide_eq_true h2; exfalso; omega) | exact absurd rfl (ne_of_bneT h2))
      · skip
        have q2 := of_decide_eq_false h2
        (try dsimp only at q2)
        (try simp only [Dat.len] at q2)
        refine c_skip ?_
        refine n_of (N' := NN18) nn18 ?_
        refine c_seq fun NN21 nn21 => ?_
        refine c_seq fun NN22 nn22 => ?_
        refine c_region fun KK23 kk23 => ?_
        refine n_of (N' := KK23) kk23 ?_
        refine n_of (N' := NN22) nn22 ?_
        refine c_cond rfl (fun h3 => ?_) (fun h3 => ?_)
        · skip
          (first | (cases h3; done) | exact bnn h3 | (have q := of_decide_eq_true h3; exfalso; omega) | exact absurd rfl (ne_of_bneT h3))
        · skip
          have q3 := eq_of_bneF h3
          (try dsimp only at q3)
          (try simp only [Dat.len] at q3)
          refine c_skip ?_
          refine n_of (N' := NN21) nn21 ?_
          refine c_seq fun NN24 nn24 => ?_
          refine c_region fun KK25 kk25 => ?_
          refine ⟨rfl, _, _, (s40 _ _ _), ?_⟩
          refine n_of (N' := KK25) kk25 ?_
          refine n_of (N' := NN24) nn24 ?_
          refine c_seq fun NN26 nn26 => ?_
          refine c_seq fun NN27 nn27 => ?_
          refine c_region fun KK28 kk28 => ?_
          refine ⟨rfl, _, _, (s29 _ _ _ _ _), ?_⟩
          refine And.intro (fun h4 => ?_) (fun h4 => ?_)
          · skip
            (first | (cases h4; done) | exact bnn h4 | (have q := of_decide_eq_true h4; exfalso; omega) | exact absurd rfl (ne_of_bneT h4))
          · skip
            refine n_of (N' := KK28) kk28 ?_
            refine n_of (N' := NN27) nn27 ?_
            refine c_cond rfl (fun h5 => ?_) (fun h5 => ?_)
            · skip
              (first | (cases h5; done) | exact bnn h5 | (have q := of_decide_eq_true h5; exfalso; omega) | exact absurd rfl (ne_of_bneT h5))
            · skip
              refine c_skip ?_
              refine n_of (N' := NN26) nn26 ?_
              refine c_seq fun NN29 nn29 => ?_
              refine c_region fun KK30 kk30 => ?_
              refine n_of (N' := KK30) kk30 ?_
              refine n_of (N' := NN29) nn29 ?_
              refine c_seq fun NN31 nn31 => ?_
              refine c_region fun KK32 kk32 => ?_
              refine ⟨rfl, _, _, (s42 _ _ _ _ _ (by ((try dsimp only); first | assumption | omega | (simp (disch := omega) only [wr64]; omega))) (by ((try dsimp only); first | assumption | omega | (simp (disch := omega) only [wr64]; omega))) (by ((try dsimp only); first | assumption | omega | (simp (disch := omega) only [wr64]; omega)))), ?_⟩
              refine n_of (N' := KK32) kk32 ?_
              refine n_of (N' := NN31) nn31 ?_
              refine c_seq fun NN33 nn33 => ?_
              refine c_seq fun NN34 nn34 => ?_
              refine c_region fun KK35 kk35 => ?_
              refine n_of (N' := KK35) kk35 ?_
              refine n_of (N' := NN34) nn34 ?_
              refine c_cond rfl (fun h6 => ?_) (fun h6 => ?_)
              · skip
                (first | (cases h6; done) | exact bnn h6 | (have q := of_decide_eq_true h6; exfalso; omega) | exact absurd rfl (ne_of_bneT h6))
              · skip
                have q6 := of_decide_eq_false h6
                (try dsimp only at q6)
                (try simp only [Dat.len] at q6)
                refine c_skip ?_
                refine n_of (N' := NN33) nn33 ?_
                refine c_seq fun NN36 nn36 => ?_
                refine c_seq fun NN37 nn37 => ?_
                refine c_region fun KK38 kk38 => ?_
                refine n_of (N' := KK38) kk38 ?_
                refine n_of (N' := NN37) nn37 ?_
                refine c_cond rfl (fun h7 => ?_) (fun h7 => ?_)
                · skip
                  (first | (cases h7; done) | exact bnn h7 | (have q := of_decide_eq_true h7; exfalso; omega) | exact absurd rfl (ne_of_bneT h7))
                · skip
                  have q7 := eq_of_bneF h7
                  (try dsimp only at q7)
                  (try simp only [Dat.len] at q7)
                  refine c_skip ?_
                  refine n_of (N' := NN36) nn36 ?_
                  refine c_seq fun NN39 nn39 => ?_
                  refine c_region fun KK40 kk40 => ?_
                  refine n_of (N' := KK40) kk40 ?_
                  refine n_of (N' := NN39) nn39 ?_
                  refine c_ret ?_
                  refine n_of (N' := R0) hR ?_
                  exact ⟨[], rfl, rfl, rfl⟩

end
end Go.AX