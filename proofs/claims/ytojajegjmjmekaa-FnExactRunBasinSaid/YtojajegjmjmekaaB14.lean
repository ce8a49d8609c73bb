/- What the functions of this program do, one contract a function, by that walk: each under what its own statement says. -/
import Derived.Test.YtojajegjmjmekaaB13
set_option linter.unusedVariables false
set_option linter.unusedSimpArgs false
namespace Go.AX
noncomputable section
open Go.RowKit Go.Proofs
set_option maxRecDepth 100000
set_option maxHeartbeats 4000000

theorem s162 (o o2 : Bool) (xs ys : List Nat) (w h w2 k2 : Int) : SP 162 [.var 27 [.ex (.int .i64 w), .ex (.int .i64 h), .sl 2, .ex (.int .i64 w2), .ex (.int .i64 k2), .sl 3], .var 117 [.sv 0 2], ar o xs, ar o2 ys] [.one (.sv 0 2), .one (.fn 149 [] [1])] [.var 27 [.ex (.int .i64 w), .ex (.int .i64 h), .sl 2, .ex (.int .i64 w2), .ex (.int .i64 k2), .sl 3], .var 117 [.sv 0 2], ar o xs, ar o2 ys] (exi .i64 (fi2 (al w h xs w h) (al w2 k2 ys w h))) := by
  refine spec_of_codeR (fn := Try.f162) tyOK mixes Try.func162 rfl rfl rfl ⟨.inl rfl, ⟨.inl rfl, ⟨.inl rfl, ⟨.inl rfl, rfl⟩⟩⟩⟩ fun hg R0 hR => ?_
  refine c_seq fun NN1 nn1 => ?_
  refine c_region fun KK2 kk2 => ?_
  refine n_of (N' := KK2) kk2 ?_
  refine n_of (N' := NN1) nn1 ?_
  refine c_seq fun NN3 nn3 => ?_
  refine c_seq fun NN4 nn4 => ?_
  refine c_region fun KK5 kk5 => ?_
  refine n_of (N' := KK5) kk5 ?_
  refine n_of (N' := NN4) nn4 ?_
  refine c_block fun XX6 xx6 => ?_
  refine loop_keep [] [0, 1, 7] (ι := { i : Nat // i ≤ 2 ∧ (1 ≤ i → al w h xs w h = true) ∧ (2 ≤ i → al w2 k2 ys w h = true) }) (fun i => [(8, exi .i64 i.1)]) (fun i => []) (fun i => 2 - i.1) ⟨0, by omega, fun h => absurd h (by omega), fun h => absurd h (by omega)⟩ trivial rfl ?_
  refine ⟨?_, ?_, ?_⟩
  · exact ⟨.inr rfl, trivial⟩
  · exact ⟨rfl, rfl, rfl, rfl, trivial⟩
  refine fun ⟨i, hi, ha, hb⟩ NL7 nl7 => ?_
  obtain rfl | rfl | rfl : i = 0 ∨ i = 1 ∨ i = 2 := by omega
  · skip
    refine c_norm rfl rfl ?_
    refine c_seq fun NN8 nn8 => ?_
    refine c_region fun KK9 kk9 => ?_
    refine n_of (N' := KK9) kk9 ?_
    refine n_of (N' := NN8) nn8 ?_
    refine c_seq fun NN10 nn10 => ?_
    refine c_cond rfl (fun h0 => ?_) (fun h0 => ?_)
    · skip
      have q0 := of_decide_eq_true h0
      (try dsimp only at q0)
      (try simp only [Dat.len] at q0)
      refine c_skip ?_
      refine n_of (N' := NN10) nn10 ?_
      refine c_seq fun NN11 nn11 => ?_
      refine c_block fun XX12 xx12 => ?_
      refine c_seq fun NN13 nn13 => ?_
      refine c_region fun KK14 kk14 => ?_
      refine n_of (N' := KK14) kk14 ?_
      refine n_of (N' := NN13) nn13 ?_
      refine c_seq fun NN15 nn15 => ?_
      refine c_region fun KK16 kk16 => ?_
      refine And.intro ?_ ?_
      · ((try dsimp only); (try simp only [Dat.len, Int.toNat_natCast]); omega)   -- 0 index
      refine ⟨rfl, _, _, s149a _ _ _ _ _ _ _ _, ?_⟩
      refine n_of (N' := KK16) kk16 ?_
      refine n_of (N' := NN15) nn15 ?_
      refine c_cond rfl (fun h1 => ?_) (fun h1 => ?_)
      · skip
        refine c_seq fun NN17 nn17 => ?_
        refine c_region fun KK18 kk18 => ?_
        refine n_of (N' := KK18) kk18 ?_
        refine n_of (N' := NN17) nn17 ?_
        refine c_ret ?_
        refine n_of (N' := R0) hR ?_
        exact ⟨[], rfl, rfl, congrArg (exi .i64) (by (try dsimp only); unfold fi2; rw [not_t h1]; rfl)⟩
      · skip
        refine c_skip ?_
        refine n_of (N' := NN11) nn11 ?_
        refine c_region fun KK19 kk19 => ?_
        refine n_of (N' := KK19) kk19 ?_
        refine n_of (N' := NL7) nl7 ?_
        refine ⟨⟨1, by omega, fun _ => not_f h1, fun h => absurd h (by omega)⟩, ?_, [0, 1, 2, 3], rfl, ?_, ?_⟩
        · (dsimp only; omega)
        · exact LEq.eq ⟨rfl, rfl, rfl, rfl, trivial⟩
        · exact ⟨.inr rfl, .inr rfl, .inr rfl, .inr rfl, trivial⟩
    · skip
      have q0 := of_decide_eq_false h0
      (try dsimp only at q0)
      (try simp only [Dat.len] at q0)
      (exfalso; omega)
  · skip
    refine c_norm rfl rfl ?_
    refine c_seq fun NN20 nn20 => ?_
    refine c_region fun KK21 kk21 => ?_
    refine n_of (N' := KK21) kk21 ?_
    refine n_of (N' := NN20) nn20 ?_
    refine c_seq fun NN22 nn22 => ?_
    refine c_cond rfl (fun h0 => ?_) (fun h0 => ?_)
    · skip
      have q0 := of_decide_eq_true h0
      (try dsimp only at q0)
      (try simp only [Dat.len] at q0)
      refine c_skip ?_
      refine n_of (N' := NN22) nn22 ?_
      refine c_seq fun NN23 nn23 => ?_
      refine c_block fun XX24 xx24 => ?_
      refine c_seq fun NN25 nn25 => ?_
      refine c_region fun KK26 kk26 => ?_
      refine n_of (N' := KK26) kk26 ?_
      refine n_of (N' := NN25) nn25 ?_
      refine c_seq fun NN27 nn27 => ?_
      refine c_region fun KK28 kk28 => ?_
      refine And.intro ?_ ?_
      · ((try dsimp only); (try simp only [Dat.len, Int.toNat_natCast]); omega)   -- 1 index
      refine ⟨rfl, _, _, s149b _ _ _ _ _ _ _ _, ?_⟩
      refine n_of (N' := KK28) kk28 ?_
      refine n_of (N' := NN27) nn27 ?_
      refine c_cond rfl (fun h1 => ?_) (fun h1 => ?_)
      · skip
        refine c_seq fun NN29 nn29 => ?_
        refine c_region fun KK30 kk30 => ?_
        refine n_of (N' := KK30) kk30 ?_
        refine n_of (N' := NN29) nn29 ?_
        refine c_ret ?_
        refine n_of (N' := R0) hR ?_
        exact ⟨[], rfl, rfl, congrArg (exi .i64) (by (try dsimp only); unfold fi2; rw [ha (by omega), not_t h1]; rfl)⟩
      · skip
        refine c_skip ?_
        refine n_of (N' := NN23) nn23 ?_
        refine c_region fun KK31 kk31 => ?_
        refine n_of (N' := KK31) kk31 ?_
        refine n_of (N' := NL7) nl7 ?_
        refine ⟨⟨2, by omega, fun _ => ha (by omega), fun _ => not_f h1⟩, ?_, [0, 1, 2, 3], rfl, ?_, ?_⟩
        · (dsimp only; omega)
        · exact LEq.eq ⟨rfl, rfl, rfl, rfl, trivial⟩
        · exact ⟨.inr rfl, .inr rfl, .inr rfl, .inr rfl, trivial⟩
    · skip
      have q0 := of_decide_eq_false h0
      (try dsimp only at q0)
      (try simp only [Dat.len] at q0)
      (exfalso; omega)
  · skip
    refine c_norm rfl rfl ?_
    refine c_seq fun NN32 nn32 => ?_
    refine c_region fun KK33 kk33 => ?_
    refine n_of (N' := KK33) kk33 ?_
    refine n_of (N' := NN32) nn32 ?_
    refine c_seq fun NN34 nn34 => ?_
    refine c_cond rfl (fun h0 => ?_) (fun h0 => ?_)
    · skip
      have q0 := of_decide_eq_true h0
      (try dsimp only at q0)
      (try simp only [Dat.len] at q0)
      (exfalso; omega)
    · skip
      have q0 := of_decide_eq_false h0
      (try dsimp only at q0)
      (try simp only [Dat.len] at q0)
      refine c_exit ?_
      refine x_here xx6 ?_
      refine n_of (N' := NN3) nn3 ?_
      refine c_seq fun NN35 nn35 => ?_
      refine c_region fun KK36 kk36 => ?_
      refine n_of (N' := KK36) kk36 ?_
      refine n_of (N' := NN35) nn35 ?_
      refine c_ret ?_
      refine n_of (N' := R0) hR ?_
      exact ⟨[], rfl, rfl, congrArg (exi .i64) (by (try dsimp only); unfold fi2; rw [ha (by omega), hb (by omega)]; rfl)⟩

theorem s148 (o o2 : Bool) (xs ys : List Nat) (w h w2 k2 : Int) : SP 148 [.var 27 [.ex (.int .i64 w), .ex (.int .i64 h), .sl 2, .ex (.int .i64 w2), .ex (.int .i64 k2), .sl 3], .var 117 [.sv 0 2], ar o xs, ar o2 ys] [.one (.sv 0 2), .one (.fn 149 [] [1])] [.var 27 [.ex (.int .i64 w), .ex (.int .i64 h), .sl 2, .ex (.int .i64 w2), .ex (.int .i64 k2), .sl 3], .var 117 [.sv 0 2], ar o xs, ar o2 ys] (exb (decide ((fi2 (al w h xs w h) (al w2 k2 ys w h)) ≥ 0))) := by
  refine spec_of_codeR (fn := Try.f148) tyOK mixes Try.func148 rfl rfl rfl ⟨.inl rfl, ⟨.inl rfl, ⟨.inl rfl, ⟨.inl rfl, rfl⟩⟩⟩⟩ fun hg R0 hR => ?_
  refine c_seq fun NN1 nn1 => ?_
  refine c_region fun KK2 kk2 => ?_
  refine n_of (N' := KK2) kk2 ?_
  refine n_of (N' := NN1) nn1 ?_
  refine c_seq fun NN3 nn3 => ?_
  refine c_region fun KK4 kk4 => ?_
  refine ⟨rfl, _, _, (s162 _ _ _ _ _ _ _ _), ?_⟩
  refine n_of (N' := KK4) kk4 ?_
  refine n_of (N' := NN3) nn3 ?_
  refine c_ret ?_
  refine n_of (N' := R0) hR ?_
  exact ⟨[], rfl, rfl, rfl⟩

theorem s115 (o o2 : Bool) (xs ys : List Nat) (w h w2 k2 : Int) : SP 115 [.var 27 [.ex (.int .i64 w), .ex (.int .i64 h), .sl 1, .ex (.int .i64 w2), .ex (.int .i64 k2), .sl 2], ar o xs, ar o2 ys] [.one (.sv 0 2)] [.var 27 [.ex (.int .i64 w), .ex (.int .i64 h), .sl 1, .ex (.int .i64 w2), .ex (.int .i64 k2), .sl 2], ar o xs, ar o2 ys] (exb (two w h xs w2 k2 ys)) := by
  refine spec_of_codeR (fn := Try.f115) tyOK mixes Try.func115 rfl rfl rfl ⟨.inl rfl, ⟨.inl rfl, ⟨.inl rfl, rfl⟩⟩⟩ fun hg R0 hR => ?_
  refine c_seq fun NN1 nn1 => ?_
  refine c_region fun KK2 kk2 => ?_
  refine n_of (N' := KK2) kk2 ?_
  refine n_of (N' := NN1) nn1 ?_
  refine c_seq fun NN3 nn3 => ?_
  refine c_region fun KK4 kk4 => ?_
  refine ⟨rfl, _, _, (s148 _ _ _ _ _ _ _ _), ?_⟩
  refine n_of (N' := KK4) kk4 ?_
  refine n_of (N' := NN3) nn3 ?_
  refine c_ret ?_
  refine n_of (N' := R0) hR ?_
  exact ⟨[], rfl, rfl, congrArg exb (by rw [fi2_ge, al_two])⟩

theorem s114 (o o2 : Bool) (xs ys : List Nat) (w h w2 k2 : Int) : SP 114 [basV w h 2, basV w2 k2 3, ar o xs, ar o2 ys] [.one (.pv 0 0), .one (.pv 1 0)] [basV w h 2, basV w2 k2 3, ar o xs, ar o2 ys] (exb (two w h xs w2 k2 ys)) := by
  refine spec_of_codeR (fn := Try.f114) tyOK mixes Try.func114 rfl rfl rfl ⟨.inl rfl, ⟨.inl rfl, ⟨.inl rfl, ⟨.inl rfl, rfl⟩⟩⟩⟩ fun hg R0 hR => ?_
  refine c_seq fun NN1 nn1 => ?_
  refine c_region fun KK2 kk2 => ?_
  refine n_of (N' := KK2) kk2 ?_
  refine n_of (N' := NN1) nn1 ?_
  refine c_seq fun NN3 nn3 => ?_
  refine c_draw 26 [0, 1, 2, 3, 4, 5, 6, 7, 8, 9, 10, 11, 12, 13, 14, 15, 16, 17, 18, 19, 20, 21, 22, 23, 24, 25] (by kernel_rfl) fun KK4 kk4 => ?_
  refine ⟨rfl, _, _, (s79 _ _ _ _), rfl, ?_⟩
  refine And.intro (fun h0 => ?_) (fun h0 => ?_)
  · skip
    refine ⟨rfl, _, _, (s79 _ _ _ _), rfl, ?_⟩
    refine And.intro (fun h1 => ?_) (fun h1 => ?_)
    · skip
      refine And.intro (fun h2 => ?_) (fun h2 => ?_)
      · skip
        refine n_of (N' := KK4) kk4 ?_
        refine n_of (N' := NN3) nn3 ?_
        refine c_ret ?_
        refine n_of (N' := R0) hR ?_
        exact ⟨[], rfl, rfl, congrArg exb (by unfold two; simp only [h0, h1, h2, Bool.false_and, Bool.true_and, Bool.and_false])⟩
      · skip
        refine n_of (N' := KK4) kk4 ?_
        refine n_of (N' := NN3) nn3 ?_
        refine c_ret ?_
        refine n_of (N' := R0) hR ?_
        exact ⟨[], rfl, rfl, congrArg exb (by unfold two; simp only [h0, h1, h2, Bool.false_and, Bool.true_and, Bool.and_false])⟩
    · skip
      refine And.intro (fun h => nomatch h) (fun _ => ?_)
      refine n_of (N' := KK4) kk4 ?_
      refine n_of (N' := NN3) nn3 ?_
      refine c_ret ?_
      refine n_of (N' := R0) hR ?_
      exact ⟨[], rfl, rfl, congrArg exb (by unfold two; simp only [h0, h1, Bool.false_and, Bool.true_and, Bool.and_false])⟩
  · skip
    refine And.intro (fun h => nomatch h) (fun _ => ?_)
    refine And.intro (fun h => nomatch h) (fun _ => ?_)
    refine n_of (N' := KK4) kk4 ?_
    refine n_of (N' := NN3) nn3 ?_
    refine c_ret ?_
    refine n_of (N' := R0) hR ?_
    exact ⟨[], rfl, rfl, congrArg exb (by unfold two; simp only [h0, Bool.false_and, Bool.true_and, Bool.and_false])⟩

theorem s58 (o o2 : Bool) (xs ys : List Nat) (w h w2 k2 : Int) : SP 58 [ar o xs, ar o2 ys] [bas w h 0, bas w2 k2 1] [ar o xs, ar o2 ys, ar true (gR (okadd w h xs w2 k2 ys) (Radd xs ys))] (toldB (okadd w h xs w2 k2 ys) w h 2) := by
  refine spec_of_codeR (fn := Try.f58) tyOK mixes Try.func58 rfl rfl rfl ⟨.inl rfl, ⟨.inl rfl, rfl⟩⟩ fun hg R0 hR => ?_
  refine c_seq fun NN1 nn1 => ?_
  refine c_region fun KK2 kk2 => ?_
  refine n_of (N' := KK2) kk2 ?_
  refine n_of (N' := NN1) nn1 ?_
  refine c_seq fun NN3 nn3 => ?_
  refine c_seq fun NN4 nn4 => ?_
  refine c_region fun KK5 kk5 => ?_
  refine ⟨rfl, _, _, (s114 _ _ _ _ _ _ _ _), ?_⟩
  refine n_of (N' := KK5) kk5 ?_
  refine n_of (N' := NN4) nn4 ?_
  refine c_cond rfl (fun h0 => ?_) (fun h0 => ?_)
  · skip
    refine c_seq fun NN6 nn6 => ?_
    refine c_region fun KK7 kk7 => ?_
    refine n_of (N' := KK7) kk7 ?_
    refine n_of (N' := NN6) nn6 ?_
    refine c_ret ?_
    refine n_of (N' := R0) hR ?_
    have ok : okadd w h xs w2 k2 ys = false := by unfold okadd; rw [not_t h0]; rfl
    exact ⟨[.nil 32 (.f [])], rfl, rfl, by rw [ok]; rfl, by rw [ok]; rfl⟩
  · skip
    have ht := not_f h0
    obtain ⟨hb, rfl, rfl, hb2⟩ := two_of ht
    obtain ⟨W, H, rfl, rfl, w1, w2, w3, w4, hl, hWH⟩ := isB_nat hb
    obtain ⟨W2, H2, e1, e2, _, _, _, _, hl2, _⟩ := isB_nat hb2
    have e1 : W = W2 := Int.ofNat.inj e1
    have e2 : H = H2 := Int.ofNat.inj e2
    rw [← e1, ← e2] at hl2
    refine c_skip ?_
    refine n_of (N' := NN3) nn3 ?_
    refine c_seq fun NN8 nn8 => ?_
    refine c_region fun KK9 kk9 => ?_
    refine ⟨rfl, _, _, (s99 _ _), ?_⟩
    refine n_of (N' := KK9) kk9 ?_
    refine n_of (N' := NN8) nn8 ?_
    refine c_seq fun NN10 nn10 => ?_
    refine c_seq fun NN11 nn11 => ?_
    refine c_region fun KK12 kk12 => ?_
    refine n_of (N' := KK12) kk12 ?_
    refine n_of (N' := NN11) nn11 ?_
    refine c_block fun XX13 xx13 => ?_
    refine loop_keep [] [2, 3, 4, 6] (ι := { i : Nat // i ≤ xs.length }) (fun i => [(7, exi .i64 i.1)]) (fun i => [(5, ar true (bld (fun i => fop .add .f32 (xs.getD i 0) (ys.getD i 0)) i.1))]) (fun i => xs.length - i.1) ⟨0, Nat.zero_le _⟩ trivial rfl ?_
    refine ⟨?_, ?_, ?_⟩
    · exact ⟨.inr rfl, trivial⟩
    · exact ⟨rfl, rfl, rfl, rfl, rfl, rfl, rfl, trivial⟩
    refine fun ⟨i, hi⟩ NL14 nl14 => ?_
    refine c_norm rfl rfl ?_
    refine c_seq fun NN15 nn15 => ?_
    refine c_seq fun NN16 nn16 => ?_
    refine c_region fun KK17 kk17 => ?_
    refine n_of (N' := KK17) kk17 ?_
    refine n_of (N' := NN16) nn16 ?_
    refine c_cond rfl (fun h1 => ?_) (fun h1 => ?_)
    · skip
      have q1 := of_decide_eq_true h1
      (try dsimp only at q1)
      (try simp only [Dat.len, bld_len, List.length_cons, List.length_nil] at q1)
      refine c_skip ?_
      refine n_of (N' := NN15) nn15 ?_
      refine c_seq fun NN18 nn18 => ?_
      refine c_block fun XX19 xx19 => ?_
      refine c_draw 14 [0, 1, 2, 3, 4, 5, 6, 7, 8, 9, 10, 11, 12, 13] (by kernel_rfl) fun KK20 kk20 => ?_
      refine And.intro ?_ ?_
      · ((try dsimp only); (try simp only [Dat.len, Int.toNat_natCast, bld_len, List.length_cons, List.length_nil]); omega)   -- 0 index
      refine And.intro ?_ ?_
      · ((try dsimp only); (try simp only [Dat.len, Int.toNat_natCast, bld_len, List.length_cons, List.length_nil]); omega)   -- 1 load
      refine And.intro ?_ ?_
      · ((try dsimp only); (try simp only [Dat.len, Int.toNat_natCast, bld_len, List.length_cons, List.length_nil]); omega)   -- 2 index
      refine And.intro ?_ ?_
      · ((try dsimp only); (try simp only [Dat.len, Int.toNat_natCast, bld_len, List.length_cons, List.length_nil]); omega)   -- 3 load
      refine And.intro ?_ ?_
      · (refine ⟨?_, by decide⟩; (try dsimp only); (try simp only [Dat.len, Int.toNat_natCast, bld_len, List.length_cons, List.length_nil]); omega)   -- 4 append
      refine n_of (N' := KK20) kk20 ?_
      refine n_of (N' := NN18) nn18 ?_
      refine c_region fun KK21 kk21 => ?_
      refine n_of (N' := KK21) kk21 ?_
      refine n_of (N' := NL14) nl14 ?_
      refine ⟨⟨i + 1, by omega⟩, ?_, [0, 1, 2, 3, 4, 5, 6], rfl, ?_, ?_⟩
      · (dsimp only; omega)
      · exact LEq.eq ⟨rfl, rfl, rfl, rfl, rfl, rfl, rfl, trivial⟩
      · exact ⟨.inr (congrArg (exi .i64) (wr64 (n := (i : Int) + 1) (by omega) (by omega))), .inr rfl, .inr rfl, .inr rfl, .inr rfl, trivial⟩
    · skip
      have q1 := of_decide_eq_false h1
      (try dsimp only at q1)
      (try simp only [Dat.len, bld_len, List.length_cons, List.length_nil] at q1)
      refine c_exit ?_
      refine x_here xx13 ?_
      refine n_of (N' := NN10) nn10 ?_
      refine c_seq fun NN22 nn22 => ?_
      refine c_region fun KK23 kk23 => ?_
      refine ⟨rfl, _, _, (s92 _ _ _), ?_⟩
      refine n_of (N' := KK23) kk23 ?_
      refine n_of (N' := NN22) nn22 ?_
      refine c_ret ?_
      refine n_of (N' := R0) hR ?_
      have e : i = xs.length := by omega
      subst e
      have ok : okadd W H xs W H ys = isB W H (Radd xs ys) := by unfold okadd; rw [ht]; rfl
      exact ⟨[], rfl, by rw [ok]; rfl, by rw [ok]; rfl⟩

theorem s59 (o o2 : Bool) (xs ys : List Nat) (w h w2 k2 : Int) : SP 59 [ar o xs, ar o2 ys] [bas w h 0, bas w2 k2 1] [ar o xs, ar o2 ys, ar true (gR (okadd w h xs w2 k2 ys) (Radd xs ys))] (toldB (okadd w h xs w2 k2 ys) w h 2) := by
  refine spec_of_codeR (fn := Try.f59) tyOK mixes Try.func59 rfl rfl rfl ⟨.inl rfl, ⟨.inl rfl, rfl⟩⟩ fun hg R0 hR => ?_
  refine c_seq fun NN1 nn1 => ?_
  refine c_region fun KK2 kk2 => ?_
  refine n_of (N' := KK2) kk2 ?_
  refine n_of (N' := NN1) nn1 ?_
  refine c_seq fun NN3 nn3 => ?_
  refine c_seq fun NN4 nn4 => ?_
  refine c_region fun KK5 kk5 => ?_
  refine ⟨rfl, _, _, (s115 _ _ _ _ _ _ _ _), ?_⟩
  refine n_of (N' := KK5) kk5 ?_
  refine n_of (N' := NN4) nn4 ?_
  refine c_cond rfl (fun h0 => ?_) (fun h0 => ?_)
  · skip
    refine c_seq fun NN6 nn6 => ?_
    refine c_region fun KK7 kk7 => ?_
    refine n_of (N' := KK7) kk7 ?_
    refine n_of (N' := NN6) nn6 ?_
    refine c_ret ?_
    refine n_of (N' := R0) hR ?_
    have ok : okadd w h xs w2 k2 ys = false := by unfold okadd; rw [not_t h0]; rfl
    exact ⟨[.nil 32 (.f [])], rfl, rfl, by rw [ok]; rfl, by rw [ok]; rfl⟩
  · skip
    have ht := not_f h0
    obtain ⟨hb, rfl, rfl, hb2⟩ := two_of ht
    obtain ⟨W, H, rfl, rfl, w1, w2, w3, w4, hl, hWH⟩ := isB_nat hb
    refine c_skip ?_
    refine n_of (N' := NN3) nn3 ?_
    refine c_seq fun NN8 nn8 => ?_
    refine c_region fun KK9 kk9 => ?_
    refine ⟨rfl, _, _, s101add _ _ _ _ _ _ hb2, ?_⟩
    refine n_of (N' := KK9) kk9 ?_
    refine n_of (N' := NN8) nn8 ?_
    refine c_ret ?_
    refine n_of (N' := R0) hR ?_
    have ok : okadd W H xs W H ys = (isB W H xs && isB W H (Radd xs ys)) := by unfold okadd; rw [ht, hb]
    have e := grid_add (xs := xs) (ys := ys) w1 hl
    exact ⟨[], rfl, by rw [ok, ← e], by rw [ok, ← e]⟩

theorem s15 (o o2 : Bool) (xs ys : List Nat) (w h w2 k2 : Int) : SP 15 [ar o xs, ar o2 ys] [bas w h 0, bas w2 k2 1] [ar o xs, ar o2 ys] (exb true) := by
  refine spec_of_codeR (fn := Try.f15) tyOK mixes Try.func15 rfl rfl rfl ⟨.inl rfl, ⟨.inl rfl, rfl⟩⟩ fun hg R0 hR => ?_
  have hR1 : (gR (okadd w h xs w2 k2 ys) (Radd xs ys)).length ≤ 256 := gR_len fun hb => isB_len256 (w := w) (h := h) (by unfold okadd at hb; simp only [Bool.and_eq_true] at hb; exact hb.2)
  refine c_seq fun NN1 nn1 => ?_
  refine c_region fun KK2 kk2 => ?_
  refine n_of (N' := KK2) kk2 ?_
  refine n_of (N' := NN1) nn1 ?_
  refine c_seq fun NN3 nn3 => ?_
  refine c_region fun KK4 kk4 => ?_
  refine n_of (N' := KK4) kk4 ?_
  refine n_of (N' := NN3) nn3 ?_
  refine c_seq fun NN5 nn5 => ?_
  refine c_region fun KK6 kk6 => ?_
  refine ⟨rfl, _, _, (s25 _ _ _ _ _), ?_⟩
  refine n_of (N' := KK6) kk6 ?_
  refine n_of (N' := NN5) nn5 ?_
  refine c_seq fun NN7 nn7 => ?_
  refine c_seq fun NN8 nn8 => ?_
  refine c_region fun KK9 kk9 => ?_
  refine n_of (N' := KK9) kk9 ?_
  refine n_of (N' := NN8) nn8 ?_
  refine c_cond rfl (fun h0 => ?_) (fun h0 => ?_)
  · skip
    have q0 := of_decide_eq_true h0
    (try dsimp only at q0)
    (try simp only [Dat.len] at q0)
    refine c_seq fun NN10 nn10 => ?_
    refine c_region fun KK11 kk11 => ?_
    refine n_of (N' := KK11) kk11 ?_
    refine n_of (N' := NN10) nn10 ?_
    refine c_ret ?_
    refine n_of (N' := R0) hR ?_
    exact ⟨[], rfl, rfl, rfl⟩
  · skip
    have q0 := of_decide_eq_false h0
    (try dsimp only at q0)
    (try simp only [Dat.len] at q0)
    have hn : xs.length ≤ 1048576 := sz_le h0 hg.1.1.1
    refine c_skip ?_
    refine n_of (N' := NN7) nn7 ?_
    refine c_seq fun NN12 nn12 => ?_
    refine c_region fun KK13 kk13 => ?_
    refine ⟨rfl, _, _, (s25 _ _ _ _ _), ?_⟩
    refine n_of (N' := KK13) kk13 ?_
    refine n_of (N' := NN12) nn12 ?_
    refine c_seq fun NN14 nn14 => ?_
    refine c_seq fun NN15 nn15 => ?_
    refine c_region fun KK16 kk16 => ?_
    refine n_of (N' := KK16) kk16 ?_
    refine n_of (N' := NN15) nn15 ?_
    refine c_cond rfl (fun h1 => ?_) (fun h1 => ?_)
    · skip
      have q1 := of_decide_eq_true h1
      (try dsimp only at q1)
      (try simp only [Dat.len] at q1)
      refine c_seq fun NN17 nn17 => ?_
      refine c_region fun KK18 kk18 => ?_
      refine n_of (N' := KK18) kk18 ?_
      refine n_of (N' := NN17) nn17 ?_
      refine c_ret ?_
      refine n_of (N' := R0) hR ?_
      exact ⟨[], rfl, rfl, rfl⟩
    · skip
      have q1 := of_decide_eq_false h1
      (try dsimp only at q1)
      (try simp only [Dat.len] at q1)
      have hn2 : ys.length ≤ 1048576 := sz_le2 h0 h1 hg.1.1.1 hg.1.2.1.1
      refine c_skip ?_
      refine n_of (N' := NN14) nn14 ?_
      refine c_seq fun NN19 nn19 => ?_
      refine c_draw3 10 8 6 9 33 [0, 2, 1, 3, 4, 5, 6, 7] (by kernel_rfl) fun KK20 kk20 => ?_
      refine ⟨rfl, _, _, (s27 _ _ (by ((try dsimp only); first | assumption | omega | (simp (disch := omega) only [wr64]; omega))) _ _), rfl, ?_⟩
      refine ⟨rfl, _, _, (s27 _ _ (by ((try dsimp only); first | assumption | omega | (simp (disch := omega) only [wr64]; omega))) _ _), rfl, ?_⟩
      refine ⟨rfl, _, _, (s58 _ _ _ _ _ _ _ _), rfl, ?_⟩
      refine n_of (N' := KK20) kk20 ?_
      refine n_of (N' := NN19) nn19 ?_
      refine c_seq fun NN21 nn21 => ?_
      refine c_region fun KK22 kk22 => ?_
      refine ⟨rfl, _, _, (s27 _ _ (by ((try dsimp only); first | assumption | omega | (simp (disch := omega) only [wr64]; omega))) _ _), ?_⟩
      refine n_of (N' := KK22) kk22 ?_
      refine n_of (N' := NN21) nn21 ?_
      refine c_seq fun NN23 nn23 => ?_
      refine c_region fun KK24 kk24 => ?_
      refine ⟨rfl, _, _, (s27 _ _ (by ((try dsimp only); first | assumption | omega | (simp (disch := omega) only [wr64]; omega))) _ _), ?_⟩
      refine n_of (N' := KK24) kk24 ?_
      refine n_of (N' := NN23) nn23 ?_
      refine c_seq fun NN25 nn25 => ?_
      refine c_region fun KK26 kk26 => ?_
      refine ⟨rfl, _, _, (s59 _ _ _ _ _ _ _ _), ?_⟩
      refine n_of (N' := KK26) kk26 ?_
      refine n_of (N' := NN25) nn25 ?_
      refine c_seq fun NN27 nn27 => ?_
      refine c_seq fun NN28 nn28 => ?_
      refine c_region fun KK29 kk29 => ?_
      refine ⟨rfl, _, _, (s29 _ _ _ _ _), ?_⟩
      refine And.intro (fun h2 => ?_) (fun h2 => ?_)
      · skip
        (first | (cases h2; done) | exact bnn h2 | (have q := of_decide_eq_true h2; exfalso; omega) | exact absurd rfl (ne_of_bneT h2))
      · skip
        refine n_of (N' := KK29) kk29 ?_
        refine n_of (N' := NN28) nn28 ?_
        refine c_cond rfl (fun h3 => ?_) (fun h3 => ?_)
        · skip
          (first | (cases h3; done) | exact bnn h3 | (have q := of_decide_eq_true h3; exfalso; omega) | exact absurd rfl (ne_of_bneT h3))
        · skip
          refine c_skip ?_
          refine n_of (N' := NN27) nn27 ?_
          refine c_seq fun NN30 nn30 => ?_
          refine c_seq fun NN31 nn31 => ?_
          refine c_draw 3 [0, 1, 2] (by kernel_rfl) fun KK32 kk32 => ?_
          refine ⟨rfl, _, _, (s27 _ _ (by ((try dsimp only); first | assumption | omega | (simp (disch := omega) only [wr64]; omega))) _ _), rfl, ?_⟩
          refine ⟨rfl, _, _, (s29 _ _ _ _ _), ?_⟩
          refine n_of (N' := KK32) kk32 ?_
          refine n_of (N' := NN31) nn31 ?_
          refine c_cond rfl (fun h4 => ?_) (fun h4 => ?_)
          · skip
            (first | (cases h4; done) | exact bnn h4 | (have q := of_decide_eq_true h4; exfalso; omega) | exact absurd rfl (ne_of_bneT h4))
          · skip
            refine c_skip ?_
            refine n_of (N' := NN30) nn30 ?_
            refine c_seq fun NN33 nn33 => ?_
            refine c_seq fun NN34 nn34 => ?_
            refine c_draw 3 [0, 1, 2] (by kernel_rfl) fun KK35 kk35 => ?_
            refine ⟨rfl, _, _, (s27 _ _ (by ((try dsimp only); first | assumption | omega | (simp (disch := omega) only [wr64]; omega))) _ _), rfl, ?_⟩
            refine ⟨rfl, _, _, (s29 _ _ _ _ _), ?_⟩
            refine n_of (N' := KK35) kk35 ?_
            refine n_of (N' := NN34) nn34 ?_
            refine c_cond rfl (fun h5 => ?_) (fun h5 => ?_)
            · skip
              (first | (cases h5; done) | exact bnn h5 | (have q := of_decide_eq_true h5; exfalso; omega) | exact absurd rfl (ne_of_bneT h5))
            · skip
              refine c_skip ?_
              refine n_of (N' := NN33) nn33 ?_
              refine c_seq fun NN36 nn36 => ?_
              refine c_region fun KK37 kk37 => ?_
              refine n_of (N' := KK37) kk37 ?_
              refine n_of (N' := NN36) nn36 ?_
              refine c_seq fun NN38 nn38 => ?_
              refine c_region fun KK39 kk39 => ?_
              refine ⟨rfl, _, _, (s41 _ _ _ _ (by ((try dsimp only); first | assumption | omega | (simp (disch := omega) only [wr64]; omega))) (by ((try dsimp only); first | assumption | omega | (simp (disch := omega) only [wr64]; omega))) (by ((try dsimp only); first | assumption | omega | (simp (disch := omega) only [wr64]; omega)))), ?_⟩
              refine n_of (N' := KK39) kk39 ?_
              refine n_of (N' := NN38) nn38 ?_
              refine c_seq fun NN40 nn40 => ?_
              refine c_region fun KK41 kk41 => ?_
              refine ⟨rfl, _, _, (s41 _ _ _ _ (by ((try dsimp only); first | assumption | omega | (simp (disch := omega) only [wr64]; omega))) (by ((try dsimp only); first | assumption | omega | (simp (disch := omega) only [wr64]; omega))) (by ((try dsimp only); first | assumption | omega | (simp (disch := omega) only [wr64]; omega)))), ?_⟩
              refine n_of (N' := KK41) kk41 ?_
              refine n_of (N' := NN40) nn40 ?_
              refine c_seq fun NN42 nn42 => ?_
              refine c_seq fun NN43 nn43 => ?_
              refine c_region fun KK44 kk44 => ?_
              refine And.intro (fun h6 => ?_) (fun h6 => ?_)
              · skip
                (first | (cases h6; done) | exact bnn h6 | (have q := of_decide_eq_true h6; exfalso; omega) | exact absurd rfl (ne_of_bneT h6))
              · skip
                have q6 := of_decide_eq_false h6
                (try dsimp only at q6)
                (try simp only [Dat.len] at q6)
                refine ⟨rfl, _, _, (s29 _ _ _ _ _), ?_⟩
                refine And.intro (fun h7 => ?_) (fun h7 => ?_)
                · skip
                  (first | (cases h7; done) | exact bnn h7 | (have q := of_decide_eq_true h7; exfalso; omega) | exact absurd rfl (ne_of_bneT h7))
                · skip
                  refine n_of (N' := KK44) kk44 ?_
                  refine n_of (N' := NN43) nn43 ?_
                  refine c_cond rfl (fun h8 => ?_) (fun h8 => ?_)
                  · skip
                    (first | (cases h8; done) | exact bnn h8 | (have q := of_decide_eq_true h8; exfalso; omega) | exact absurd rfl (ne_of_bneT h8))
                  · skip
                    refine c_skip ?_
                    refine n_of (N' := NN42) nn42 ?_
                    refine c_seq fun NN45 nn45 => ?_
                    refine c_region fun KK46 kk46 => ?_
                    refine n_of (N' := KK46) kk46 ?_
                    refine n_of (N' := NN45) nn45 ?_
                    refine c_seq fun NN47 nn47 => ?_
                    refine c_region fun KK48 kk48 => ?_
                    refine ⟨rfl, _, _, (s41 _ _ _ _ (by ((try dsimp only); first | assumption | omega | (simp (disch := omega) only [wr64]; omega))) (by ((try dsimp only); first | assumption | omega | (simp (disch := omega) only [wr64]; omega))) (by ((try dsimp only); first | assumption | omega | (simp (disch := omega) only [wr64]; omega)))), ?_⟩
                    refine n_of (N' := KK48) kk48 ?_
                    refine n_of (N' := NN47) nn47 ?_
                    refine c_seq fun NN49 nn49 => ?_
                    refine c_region fun KK50 kk50 => ?_
                    refine n_of (N' := KK50) kk50 ?_
                    refine n_of (N' := NN49) nn49 ?_
                    refine c_seq fun NN51 nn51 => ?_
                    refine c_region fun KK52 kk52 => ?_
                    refine ⟨rfl, _, _, (s42 _ _ _ _ _ (by ((try dsimp only); first | assumption | omega | (simp (disch := omega) only [wr64]; omega))) (by ((try dsimp only); first | assumption | omega | (simp (disch := omega) only [wr64]; omega))) (by ((try dsimp only); first | assumption | omega | (simp (disch := omega) only [wr64]; omega)))), ?_⟩
                    refine n_of (N' := KK52) kk52 ?_
                    refine n_of (N' := NN51) nn51 ?_
                    refine c_seq fun NN53 nn53 => ?_
                    refine c_seq fun NN54 nn54 => ?_
                    refine c_region fun KK55 kk55 => ?_
                    refine n_of (N' := KK55) kk55 ?_
                    refine n_of (N' := NN54) nn54 ?_
                    refine c_cond rfl (fun h9 => ?_) (fun h9 => ?_)
                    · skip
                      (first | (cases h9; done) | exact bnn h9 | (have q := of_decide_eq_true h9; exfalso; omega) | exact absurd rfl (ne_of_bneT h9))
                    · skip
                      have q9 := of_decide_eq_false h9
                      (try dsimp only at q9)
                      (try simp only [Dat.len] at q9)
                      refine c_skip ?_
                      refine n_of (N' := NN53) nn53 ?_
                      refine c_seq fun NN56 nn56 => ?_
                      refine c_seq fun NN57 nn57 => ?_
                      refine c_region fun KK58 kk58 => ?_
                      refine n_of (N' := KK58) kk58 ?_
                      refine n_of (N' := NN57) nn57 ?_
                      refine c_cond rfl (fun h10 => ?_) (fun h10 => ?_)
                      · skip
                        (first | (cases h10; done) | exact bnn h10 | (have q := of_decide_eq_true h10; exfalso; omega) | exact absurd rfl (ne_of_bneT h10))
                      · skip
                        have q10 := eq_of_bneF h10
                        (try dsimp only at q10)
                        (try simp only [Dat.len] at q10)
                        refine c_skip ?_
                        refine n_of (N' := NN56) nn56 ?_
                        refine c_seq fun NN59 nn59 => ?_
                        refine c_draw3 10 8 15 9 100 [0, 2, 1, 3, 4, 5, 6, 7] (by kernel_rfl) fun KK60 kk60 => ?_
                        refine ⟨rfl, _, _, (s27 _ _ (by ((try dsimp only); first | assumption | omega | (simp (disch := omega) only [wr64]; omega))) _ _), rfl, ?_⟩
                        refine ⟨rfl, _, _, (s27 _ _ (by ((try dsimp only); first | assumption | omega | (simp (disch := omega) only [wr64]; omega))) _ _), rfl, ?_⟩
                        refine ⟨rfl, _, _, (s59 _ _ _ _ _ _ _ _), rfl, ?_⟩
                        refine n_of (N' := KK60) kk60 ?_
                        refine n_of (N' := NN59) nn59 ?_
                        refine c_seq fun NN61 nn61 => ?_
                        refine c_seq fun NN62 nn62 => ?_
                        refine c_region fun KK63 kk63 => ?_
                        refine ⟨rfl, _, _, (s29 _ _ _ _ _), ?_⟩
                        refine And.intro (fun h11 => ?_) (fun h11 => ?_)
                        · skip
                          (first | (cases h11; done) | exact bnn h11 | (have q := of_decide_eq_true h11; exfalso; omega) | exact absurd rfl (ne_of_bneT h11))
                        · skip
                          refine n_of (N' := KK63) kk63 ?_
                          refine n_of (N' := NN62) nn62 ?_
                          refine c_cond rfl (fun h12 => ?_) (fun h12 => ?_)
                          · skip
                            (first | (cases h12; done) | exact bnn h12 | (have q := of_decide_eq_true h12; exfalso; omega) | exact absurd rfl (ne_of_bneT h12))
                          · skip
                            refine c_skip ?_
                            refine n_of (N' := NN61) nn61 ?_
                            refine c_seq fun NN64 nn64 => ?_
                            refine c_region fun KK65 kk65 => ?_
                            refine n_of (N' := KK65) kk65 ?_
                            refine n_of (N' := NN64) nn64 ?_
                            refine c_seq fun NN66 nn66 => ?_
                            refine c_region fun KK67 kk67 => ?_
                            refine ⟨rfl, _, _, (s42 _ _ _ _ _ (by ((try dsimp only); first | assumption | omega | (simp (disch := omega) only [wr64]; omega))) (by ((try dsimp only); first | assumption | omega | (simp (disch := omega) only [wr64]; omega))) (by ((try dsimp only); first | assumption | omega | (simp (disch := omega) only [wr64]; omega)))), ?_⟩
                            refine n_of (N' := KK67) kk67 ?_
                            refine n_of (N' := NN66) nn66 ?_
                            refine c_seq fun NN68 nn68 => ?_
                            refine c_seq fun NN69 nn69 => ?_
                            refine c_region fun KK70 kk70 => ?_
                            refine n_of (N' := KK70) kk70 ?_
                            refine n_of (N' := NN69) nn69 ?_
                            refine c_cond rfl (fun h13 => ?_) (fun h13 => ?_)
                            · skip
                              (first | (cases h13; done) | exact bnn h13 | (have q := of_decide_eq_true h13; exfalso; omega) | exact absurd rfl (ne_of_bneT h13))
                            · skip
                              have q13 := of_decide_eq_false h13
                              (try dsimp only at q13)
                              (try simp only [Dat.len] at q13)
                              refine c_skip ?_
                              refine n_of (N' := NN68) nn68 ?_
                              refine c_seq fun NN71 nn71 => ?_
                              refine c_seq fun NN72 nn72 => ?_
                              refine c_region fun KK73 kk73 => ?_
                              refine n_of (N' := KK73) kk73 ?_
                              refine n_of (N' := NN72) nn72 ?_
                              refine c_cond rfl (fun h14 => ?_) (fun h14 => ?_)
                              · skip
                                (first | (cases h14; done) | exact bnn h14 | (have q := of_decide_eq_true h14; exfalso; omega) | exact absurd rfl (ne_of_bneT h14))
                              · skip
                                have q14 := eq_of_bneF h14
                                (try dsimp only at q14)
                                (try simp only [Dat.len] at q14)
                                refine c_skip ?_
                                refine n_of (N' := NN71) nn71 ?_
                                refine c_seq fun NN74 nn74 => ?_
                                refine c_region fun KK75 kk75 => ?_
                                refine n_of (N' := KK75) kk75 ?_
                                refine n_of (N' := NN74) nn74 ?_
                                refine c_ret ?_
                                refine n_of (N' := R0) hR ?_
                                exact ⟨[], rfl, rfl, rfl⟩

end
end Go.AX