/- What the functions of this program do, one contract a function, by that walk: each under what its own statement says. -/
import Derived.Test.YtfhgggjpdimaoaaC3
set_option linter.unusedVariables false
set_option linter.unusedSimpArgs false
namespace Go.AX
noncomputable section
open Go.RowKit Go.Proofs
set_option maxRecDepth 100000
set_option maxHeartbeats 4000000
open Go

/-! The ring -/
def Fring (r c k : Nat) : Nat × Nat := (fop .mul .f32 (phV (fop .quo .f64 (fint .f64 (k : Int)) (fint .f64 (c : Int))) (4 * k / c)).1 r, fop .mul .f32 (phV (fop .quo .f64 (fint .f64 (k : Int)) (fint .f64 (c : Int))) (4 * k / c)).2 r)
def okri (n : Int) (r s : Nat) : Bool := (inB n 3 48 && above r) && isSh (bld (Fring r n.toNat) n.toNat) (bld (fun _ => s) n.toNat)

theorem s63 (r c k : Nat) (hk : k < c) (hc : c ≤ 48) : SP 63 [.var 2 [.ex (.int .i64 (c : Int))], .var 23 [.fl .f32 r]] [i64 k, .one (.pv 0 0), .one (.pv 1 0)] [.var 2 [.ex (.int .i64 (c : Int))], .var 23 [.fl .f32 r]] (.v (c64 (Fring r c k).1 (Fring r c k).2)) := by
  refine spec_of_codeR (fn := Try.f63) tyOK mixes Try.func63 rfl rfl rfl ⟨.inl rfl, ⟨.inl rfl, rfl⟩⟩ fun hg R0 hR => ?_
  refine c_seq fun NN1 nn1 => ?_
  refine c_region fun KK2 kk2 => ?_
  refine n_of (N' := KK2) kk2 ?_
  refine n_of (N' := NN1) nn1 ?_
  refine c_seq fun NN3 nn3 => ?_
  refine c_draw 7 [0, 1, 2, 3, 4, 6, 5] (by kernel_rfl) fun KK4 kk4 => ?_
  refine ⟨rfl, _, _, s60 _ _ (phOK (by assumption) (by assumption)), rfl, ?_⟩
  refine ⟨rfl, _, _, s59 _ _ _, ?_⟩
  refine n_of (N' := KK4) kk4 ?_
  refine n_of (N' := NN3) nn3 ?_
  refine c_ret ?_
  refine n_of (N' := R0) hR ?_
  exact ⟨[], rfl, rfl, rfl⟩

theorem s45ring (r : Nat) (N : Nat) (hN : N ≤ 48) (s : Nat) (c : Bool) : SP 45 [.var 2 [.ex (.int .i64 (N : Int))], .var 23 [.fl .f32 r]] [i64 N, f32 s, .one (.ex (.bool c)), .one (.fn 63 [] [0, 1])] [.var 2 [.ex (.int .i64 (N : Int))], .var 23 [.fl .f32 r], arC true (gR (isSh (bld (Fring r N) N) (bld (fun _ => s) N)) (bld (Fring r N) N)), ar true (gR (isSh (bld (Fring r N) N) (bld (fun _ => s) N)) (bld (fun _ => s) N))] (toldS (isSh (bld (Fring r N) N) (bld (fun _ => s) N)) c 2 3) := by
  refine spec_of_codeR (fn := Try.f45) tyOK mixes Try.func45 rfl rfl rfl ⟨.inl rfl, ⟨.inl rfl, rfl⟩⟩ fun hg R0 hR => ?_
  refine c_seq fun NN1 nn1 => ?_
  refine c_region fun KK2 kk2 => ?_
  refine n_of (N' := KK2) kk2 ?_
  refine n_of (N' := NN1) nn1 ?_
  refine c_seq fun NN3 nn3 => ?_
  refine c_region fun KK4 kk4 => ?_
  refine n_of (N' := KK4) kk4 ?_
  refine n_of (N' := NN3) nn3 ?_
  refine c_seq fun NN5 nn5 => ?_
  refine c_seq fun NN6 nn6 => ?_
  refine c_region fun KK7 kk7 => ?_
  refine n_of (N' := KK7) kk7 ?_
  refine n_of (N' := NN6) nn6 ?_
  refine c_block fun XX8 xx8 => ?_
  refine loop_keep [.c 3 0 66 (.c []), .c 3 1 23 (.f [])] [1, 3, 8, 10, 14] (ι := { i : Nat // i ≤ N }) (fun i => [(15, exi .i64 i.1)]) (fun i => [(4, arC true (bld (Fring r N) i.1)), (5, ar true (bld (fun _ => s) i.1))]) (fun i => N - i.1) ⟨0, Nat.zero_le _⟩ ⟨rfl, rfl, trivial⟩ rfl ?_
  refine ⟨?_, ?_, ?_⟩
  · exact ⟨.inr rfl, trivial⟩
  · exact ⟨rfl, rfl, rfl, rfl, rfl, rfl, trivial⟩
  refine fun ⟨i, hi⟩ NL9 nl9 => ?_
  refine c_norm rfl rfl ?_
  refine c_seq fun NN10 nn10 => ?_
  refine c_region fun KK11 kk11 => ?_
  refine n_of (N' := KK11) kk11 ?_
  refine n_of (N' := NN10) nn10 ?_
  refine c_seq fun NN12 nn12 => ?_
  refine c_cond rfl (fun h0 => ?_) (fun h0 => ?_)
  · skip
    have q0 := of_decide_eq_true h0
    (try dsimp only at q0)
    (try simp only [Dat.len, bld_len, List.length_cons, List.length_nil] at q0)
    refine c_skip ?_
    refine n_of (N' := NN12) nn12 ?_
    refine c_seq fun NN13 nn13 => ?_
    refine c_block fun XX14 xx14 => ?_
    refine c_seq fun NN15 nn15 => ?_
    refine c_region fun KK16 kk16 => ?_
    refine n_of (N' := KK16) kk16 ?_
    refine n_of (N' := NN15) nn15 ?_
    refine c_drawP tyOK mixes [4, 5] 13 10 11 11 28 [0, 1, 2, 3, 7, 8, 9, 12, 4, 5, 6, 11] (by kernel_rfl) fun KK17 kk17 => ?_
    refine ⟨rfl, _, _, s63 _ _ i (by omega) (by omega), ⟨.inr rfl, .inr rfl, .inr rfl, .inr rfl, .inl rfl, .inl rfl, trivial⟩, ?_⟩
    refine And.intro ?_ ?_
    · (refine ⟨?_, by decide⟩; (try dsimp only); (try simp only [Dat.len, Int.toNat_natCast, bld_len, List.length_cons, List.length_nil]); omega)   -- 0 append
    refine And.intro ⟨.inr rfl, .inr rfl, .inr rfl, .inr rfl, .inl rfl, .inl rfl, .inr rfl, trivial⟩ ?_
    refine And.intro ?_ ?_
    · (refine ⟨?_, by decide⟩; (try dsimp only); (try simp only [Dat.len, Int.toNat_natCast, bld_len, List.length_cons, List.length_nil]); omega)   -- 1 append
    refine And.intro ⟨.inr rfl, .inr rfl, .inr rfl, .inr rfl, .inl rfl, .inl rfl, .inr rfl, .inr rfl, trivial⟩ ?_
    refine n_of (N' := KK17) kk17 ?_
    refine n_of (N' := NN13) nn13 ?_
    refine c_region fun KK18 kk18 => ?_
    refine n_of (N' := KK18) kk18 ?_
    refine n_of (N' := NL9) nl9 ?_
    refine ⟨⟨i + 1, by omega⟩, ?_, [0, 1, 2, 3, 7, 8], rfl, ?_, ?_⟩
    · (dsimp only; omega)
    · exact LEq.eq ⟨rfl, rfl, rfl, rfl, rfl, rfl, trivial⟩
    · exact ⟨.inr (congrArg (exi .i64) (wr64 (n := (i : Int) + 1) (by omega) (by omega))), .inr rfl, .inr rfl, .inr rfl, .inr rfl, .inr rfl, trivial⟩
  · skip
    have q0 := of_decide_eq_false h0
    (try dsimp only at q0)
    (try simp only [Dat.len, bld_len, List.length_cons, List.length_nil] at q0)
    refine c_exit ?_
    refine x_here xx8 ?_
    refine n_of (N' := NN5) nn5 ?_
    refine c_seq fun NN19 nn19 => ?_
    refine c_region fun KK20 kk20 => ?_
    refine ⟨rfl, _, _, s72 _ _ _, ?_⟩
    refine n_of (N' := KK20) kk20 ?_
    refine n_of (N' := NN19) nn19 ?_
    refine c_ret ?_
    refine n_of (N' := R0) hR ?_
    have e : i = N := by omega
    subst e
    exact ⟨[], rfl, rfl, rfl⟩

theorem s30 (n : Int) (r s : Nat) : SP 30 [] [i64 n, f32 r, f32 s] [arC true (gR (okri n r s) (bld (Fring r n.toNat) n.toNat)), ar true (gR (okri n r s) (bld (fun _ => s) n.toNat))] (toldS (okri n r s) true 0 1) := by
  refine spec_of_codeR (fn := Try.f30) tyOK mixes Try.func30 rfl rfl rfl rfl fun hg R0 hR => ?_
  refine c_seq fun NN1 nn1 => ?_
  refine c_region fun KK2 kk2 => ?_
  refine n_of (N' := KK2) kk2 ?_
  refine n_of (N' := NN1) nn1 ?_
  refine c_seq fun NN3 nn3 => ?_
  refine c_seq fun NN4 nn4 => ?_
  refine c_region fun KK5 kk5 => ?_
  refine ⟨rfl, _, _, (s37 _ _ _), ?_⟩
  refine And.intro (fun h0 => ?_) (fun h0 => ?_)
  · skip
    refine n_of (N' := KK5) kk5 ?_
    refine n_of (N' := NN4) nn4 ?_
    refine c_cond rfl (fun _ => ?_) (fun h => nomatch h)
    refine c_seq fun NN6 nn6 => ?_
    refine c_region fun KK7 kk7 => ?_
    refine n_of (N' := KK7) kk7 ?_
    refine n_of (N' := NN6) nn6 ?_
    refine c_ret ?_
    refine n_of (N' := R0) hR ?_
    have ok : okri n r s = false := by unfold okri; rw [not_t h0]; rfl
    exact ⟨[.nil 66 (.c []), .nil 23 (.f [])], rfl, rfl, rfl, by rw [ok]; rfl, by rw [ok]; rfl⟩
  · skip
    have hn := inB_le (not_f h0)
    obtain ⟨N, rfl⟩ : ∃ N : Nat, n = N := ⟨n.toNat, by omega⟩
    refine ⟨rfl, _, _, s44 _ _, ?_⟩
    refine n_of (N' := KK5) kk5 ?_
    refine n_of (N' := NN4) nn4 ?_
    refine c_cond rfl (fun h1 => ?_) (fun h1 => ?_)
    · skip
      refine c_seq fun NN8 nn8 => ?_
      refine c_region fun KK9 kk9 => ?_
      refine n_of (N' := KK9) kk9 ?_
      refine n_of (N' := NN8) nn8 ?_
      refine c_ret ?_
      refine n_of (N' := R0) hR ?_
      have ok : okri N r s = false := by unfold okri; rw [not_t h1]; simp
      exact ⟨[.nil 66 (.c []), .nil 23 (.f [])], rfl, rfl, rfl, by rw [ok]; rfl, by rw [ok]; rfl⟩
    · skip
      refine c_skip ?_
      refine n_of (N' := NN3) nn3 ?_
      refine c_seq fun NN10 nn10 => ?_
      refine c_region fun KK11 kk11 => ?_
      refine ⟨rfl, _, _, s45ring _ _ (by omega) _ _, ?_⟩
      refine n_of (N' := KK11) kk11 ?_
      refine n_of (N' := NN10) nn10 ?_
      refine c_ret ?_
      refine n_of (N' := R0) hR ?_
      have ok : okri N r s = isSh (bld (Fring r N) N) (bld (fun _ => s) N) := by unfold okri; rw [not_f h0, not_f h1]; rfl
      exact ⟨[], rfl, by rw [ok]; rfl, by rw [ok]⟩

theorem s29 (n : Int) (r s : Nat) : SP 29 [] [i64 n, f32 r, f32 s] [arC true (gR (okri n r s) (bld (Fring r n.toNat) n.toNat)), ar true (gR (okri n r s) (bld (fun _ => s) n.toNat))] (toldS (okri n r s) true 0 1) := by
  refine spec_of_codeR (fn := Try.f29) tyOK mixes Try.func29 rfl rfl rfl rfl fun hg R0 hR => ?_
  refine c_seq fun NN1 nn1 => ?_
  refine c_region fun KK2 kk2 => ?_
  refine n_of (N' := KK2) kk2 ?_
  refine n_of (N' := NN1) nn1 ?_
  refine c_seq fun NN3 nn3 => ?_
  refine c_seq fun NN4 nn4 => ?_
  refine c_region fun KK5 kk5 => ?_
  refine ⟨rfl, _, _, (s41 _ _ _), ?_⟩
  refine And.intro (fun h0 => ?_) (fun h0 => ?_)
  · skip
    refine n_of (N' := KK5) kk5 ?_
    refine n_of (N' := NN4) nn4 ?_
    refine c_cond rfl (fun _ => ?_) (fun h => nomatch h)
    refine c_seq fun NN6 nn6 => ?_
    refine c_region fun KK7 kk7 => ?_
    refine n_of (N' := KK7) kk7 ?_
    refine n_of (N' := NN6) nn6 ?_
    refine c_ret ?_
    refine n_of (N' := R0) hR ?_
    have ok : okri n r s = false := by unfold okri; rw [not_t h0]; rfl
    exact ⟨[.nil 66 (.c []), .nil 23 (.f [])], rfl, rfl, rfl, by rw [ok]; rfl, by rw [ok]; rfl⟩
  · skip
    refine ⟨rfl, _, _, (s42 _), ?_⟩
    refine n_of (N' := KK5) kk5 ?_
    refine n_of (N' := NN4) nn4 ?_
    refine c_cond rfl (fun h1 => ?_) (fun h1 => ?_)
    · skip
      refine c_seq fun NN8 nn8 => ?_
      refine c_region fun KK9 kk9 => ?_
      refine n_of (N' := KK9) kk9 ?_
      refine n_of (N' := NN8) nn8 ?_
      refine c_ret ?_
      refine n_of (N' := R0) hR ?_
      have ok : okri n r s = false := by unfold okri; rw [not_t h1]; simp
      exact ⟨[.nil 66 (.c []), .nil 23 (.f [])], rfl, rfl, rfl, by rw [ok]; rfl, by rw [ok]; rfl⟩
    · skip
      have hn := inB_le (not_f h0)
      obtain ⟨N, rfl⟩ : ∃ N : Nat, n = N := ⟨n.toNat, by omega⟩
      refine c_skip ?_
      refine n_of (N' := NN3) nn3 ?_
      refine c_seq fun NN10 nn10 => ?_
      refine c_region fun KK11 kk11 => ?_
      refine n_of (N' := KK11) kk11 ?_
      refine n_of (N' := NN10) nn10 ?_
      refine c_seq fun NN12 nn12 => ?_
      refine c_seq fun NN13 nn13 => ?_
      refine c_region fun KK14 kk14 => ?_
      refine n_of (N' := KK14) kk14 ?_
      refine n_of (N' := NN13) nn13 ?_
      refine c_block fun XX15 xx15 => ?_
      refine loop_keep [.c 1 0 66 (.c []), .c 1 1 23 (.f [])] [0, 1, 2, 6, 8] (ι := { i : Nat // i ≤ N }) (fun i => [(9, exi .i64 i.1)]) (fun i => [(2, arC true (bld (Fring r N) i.1)), (3, ar true (bld (fun _ => s) i.1))]) (fun i => N - i.1) ⟨0, Nat.zero_le _⟩ ⟨rfl, rfl, trivial⟩ rfl ?_
      refine ⟨?_, ?_, ?_⟩
      · exact ⟨.inr rfl, trivial⟩
      · exact ⟨rfl, rfl, rfl, rfl, trivial⟩
      refine fun ⟨i, hi⟩ NL16 nl16 => ?_
      refine c_norm rfl rfl ?_
      refine c_seq fun NN17 nn17 => ?_
      refine c_seq fun NN18 nn18 => ?_
      refine c_region fun KK19 kk19 => ?_
      refine n_of (N' := KK19) kk19 ?_
      refine n_of (N' := NN18) nn18 ?_
      refine c_cond rfl (fun h2 => ?_) (fun h2 => ?_)
      · skip
        have q2 := of_decide_eq_true h2
        (try dsimp only at q2)
        (try simp only [Dat.len, bld_len, List.length_cons, List.length_nil] at q2)
        refine c_skip ?_
        refine n_of (N' := NN17) nn17 ?_
        refine c_seq fun NN20 nn20 => ?_
        refine c_block fun XX21 xx21 => ?_
        refine c_seq fun NN22 nn22 => ?_
        refine c_draw 11 [0, 1, 2, 3, 4, 5, 6, 8, 7, 9, 10] (by kernel_rfl) fun KK23 kk23 => ?_
        refine ⟨rfl, _, _, s56 _ _ (phOK (k := i) (c := N) (by omega) (by omega)), rfl, ?_⟩
        refine ⟨rfl, _, _, (s57 _ _ _), rfl, ?_⟩
        refine And.intro ?_ ?_
        · (refine ⟨?_, by decide⟩; (try dsimp only); (try simp only [Dat.len, Int.toNat_natCast, bld_len, List.length_cons, List.length_nil]); omega)   -- 0 append
        refine n_of (N' := KK23) kk23 ?_
        refine n_of (N' := NN22) nn22 ?_
        refine c_region fun KK24 kk24 => ?_
        refine And.intro ?_ ?_
        · (refine ⟨?_, by decide⟩; (try dsimp only); (try simp only [Dat.len, Int.toNat_natCast, bld_len, List.length_cons, List.length_nil]); omega)   -- 1 append
        refine n_of (N' := KK24) kk24 ?_
        refine n_of (N' := NN20) nn20 ?_
        refine c_region fun KK25 kk25 => ?_
        refine n_of (N' := KK25) kk25 ?_
        refine n_of (N' := NL16) nl16 ?_
        refine ⟨⟨i + 1, by omega⟩, ?_, [0, 1, 2, 3], rfl, ?_, ?_⟩
        · (dsimp only; omega)
        · exact LEq.eq ⟨rfl, rfl, rfl, rfl, trivial⟩
        · exact ⟨.inr (congrArg (exi .i64) (wr64 (n := (i : Int) + 1) (by omega) (by omega))), .inr rfl, .inr rfl, .inr rfl, .inr rfl, .inr rfl, trivial⟩
      · skip
        have q2 := of_decide_eq_false h2
        (try dsimp only at q2)
        (try simp only [Dat.len, bld_len, List.length_cons, List.length_nil] at q2)
        refine c_exit ?_
        refine x_here xx15 ?_
        refine n_of (N' := NN12) nn12 ?_
        refine c_seq fun NN26 nn26 => ?_
        refine c_region fun KK27 kk27 => ?_
        refine ⟨rfl, _, _, s43 _ _ _, ?_⟩
        refine n_of (N' := KK27) kk27 ?_
        refine n_of (N' := NN26) nn26 ?_
        refine c_ret ?_
        refine n_of (N' := R0) hR ?_
        have e : i = N := by omega
        subst e
        have ok : okri (i : Int) r s = isSh (bld (Fring r i) i) (bld (fun _ => s) i) := by unfold okri; rw [not_f h0, not_f h1]; rfl
        exact ⟨[], rfl, by rw [ok]; rfl, by rw [ok]⟩

theorem s7 (n : Int) (r s : Nat) : SP 7 [] [i64 n, f32 r, f32 s] [] (exb true) := by
  refine spec_of_codeR (fn := Try.f7) tyOK mixes Try.func7 rfl rfl rfl rfl fun hg R0 hR => ?_
  have hR1 : (gR (okri n r s) (bld (Fring r n.toNat) n.toNat)).length ≤ 48 := gR_len fun hb => (isSh_len (by unfold okri at hb; simp only [Bool.and_eq_true] at hb; exact hb.2)).1
  have hR2 : (gR (okri n r s) (bld (fun _ => s) n.toNat)).length ≤ 48 := gR_len fun hb => (isSh_len (by unfold okri at hb; simp only [Bool.and_eq_true] at hb; exact hb.2)).2
  refine c_seq fun NN1 nn1 => ?_
  refine c_region fun KK2 kk2 => ?_
  refine n_of (N' := KK2) kk2 ?_
  refine n_of (N' := NN1) nn1 ?_
  refine c_seq fun NN3 nn3 => ?_
  refine c_region fun KK4 kk4 => ?_
  refine ⟨rfl, _, _, (s29 _ _ _), ?_⟩
  refine n_of (N' := KK4) kk4 ?_
  refine n_of (N' := NN3) nn3 ?_
  refine c_seq fun NN5 nn5 => ?_
  refine c_region fun KK6 kk6 => ?_
  refine ⟨rfl, _, _, (s30 _ _ _), ?_⟩
  refine n_of (N' := KK6) kk6 ?_
  refine n_of (N' := NN5) nn5 ?_
  refine c_seq fun NN7 nn7 => ?_
  refine c_seq fun NN8 nn8 => ?_
  refine c_region fun KK9 kk9 => ?_
  refine ⟨rfl, _, _, (s15 _ _ _ _ _ _ _), ?_⟩
  refine And.intro (fun h0 => ?_) (fun h0 => ?_)
  · skip
    (first | (cases h0; done) | exact bnn h0 | (have q := of_decide_eq_true h0; exfalso; omega) | exact absurd rfl (ne_of_bneT h0))
  · skip
    refine n_of (N' := KK9) kk9 ?_
    refine n_of (N' := NN8) nn8 ?_
    refine c_cond rfl (fun h1 => ?_) (fun h1 => ?_)
    · skip
      (first | (cases h1; done) | exact bnn h1 | (have q := of_decide_eq_true h1; exfalso; omega) | exact absurd rfl (ne_of_bneT h1))
    · skip
      refine c_skip ?_
      refine n_of (N' := NN7) nn7 ?_
      refine c_seq fun NN10 nn10 => ?_
      refine c_region fun KK11 kk11 => ?_
      refine n_of (N' := KK11) kk11 ?_
      refine n_of (N' := NN10) nn10 ?_
      refine c_seq fun NN12 nn12 => ?_
      refine c_region fun KK13 kk13 => ?_
      refine ⟨rfl, _, _, (s16 _ _ _ _ (by ((try dsimp only); first | assumption | omega | (simp (disch := omega) only [wr64]; omega))) (by ((try dsimp only); first | assumption | omega | (simp (disch := omega) only [wr64]; omega))) (by ((try dsimp only); first | assumption | omega | (simp (disch := omega) only [wr64]; omega))) (by ((try dsimp only); first | assumption | omega | (simp (disch := omega) only [wr64]; omega)))), ?_⟩
      refine n_of (N' := KK13) kk13 ?_
      refine n_of (N' := NN12) nn12 ?_
      refine c_seq fun NN14 nn14 => ?_
      refine c_region fun KK15 kk15 => ?_
      refine n_of (N' := KK15) kk15 ?_
      refine n_of (N' := NN14) nn14 ?_
      refine c_seq fun NN16 nn16 => ?_
      refine c_region fun KK17 kk17 => ?_
      refine ⟨rfl, _, _, (s17 _ _ _ _ _ _ (by ((try dsimp only); first | assumption | omega | (simp (disch := omega) only [wr64]; omega))) (by ((try dsimp only); first | assumption | omega | (simp (disch := omega) only [wr64]; omega))) (by ((try dsimp only); first | assumption | omega | (simp (disch := omega) only [wr64]; omega))) (by ((try dsimp only); first | assumption | omega | (simp (disch := omega) only [wr64]; omega)))), ?_⟩
      refine n_of (N' := KK17) kk17 ?_
      refine n_of (N' := NN16) nn16 ?_
      refine c_seq fun NN18 nn18 => ?_
      refine c_seq fun NN19 nn19 => ?_
      refine c_region fun KK20 kk20 => ?_
      refine n_of (N' := KK20) kk20 ?_
      refine n_of (N' := NN19) nn19 ?_
      refine c_cond rfl (fun h2 => ?_) (fun h2 => ?_)
      · skip
        (first | (cases h2; done) | exact bnn h2 | (have q := of_decide_eq_true h2; exfalso; omega) | exact absurd rfl (ne_of_bneT h2))
      · skip
        have q2 := of_decide_eq_false h2
        (try dsimp only at q2)
        (try simp only [Dat.len] at q2)
        refine c_skip ?_
        refine n_of (N' := NN18) nn18 ?_
        refine c_seq fun NN21 nn21 => ?_
        refine c_seq fun NN22 nn22 => ?_
        refine c_region fun KK23 kk23 => ?_
        refine n_of (N' := KK23) kk23 ?_
        refine n_of (N' := NN22) nn22 ?_
        refine c_cond rfl (fun h3 => ?_) (fun h3 => ?_)
        · skip
          (first | (cases h3; done) | exact bnn h3 | (have q := of_decide_eq_true h3; exfalso; omega) | exact absurd rfl (ne_of_bneT h3))
        · skip
          have q3 := eq_of_bneF h3
          (try dsimp only at q3)
          (try simp only [Dat.len] at q3)
          refine c_skip ?_
          refine n_of (N' := NN21) nn21 ?_
          refine c_seq fun NN24 nn24 => ?_
          refine c_region fun KK25 kk25 => ?_
          refine ⟨rfl, _, _, (s30 _ _ _), ?_⟩
          refine n_of (N' := KK25) kk25 ?_
          refine n_of (N' := NN24) nn24 ?_
          refine c_seq fun NN26 nn26 => ?_
          refine c_seq fun NN27 nn27 => ?_
          refine c_region fun KK28 kk28 => ?_
          refine ⟨rfl, _, _, (s15 _ _ _ _ _ _ _), ?_⟩
          refine And.intro (fun h4 => ?_) (fun h4 => ?_)
          · skip
            (first | (cases h4; done) | exact bnn h4 | (have q := of_decide_eq_true h4; exfalso; omega) | exact absurd rfl (ne_of_bneT h4))
          · skip
            refine n_of (N' := KK28) kk28 ?_
            refine n_of (N' := NN27) nn27 ?_
            refine c_cond rfl (fun h5 => ?_) (fun h5 => ?_)
            · skip
              (first | (cases h5; done) | exact bnn h5 | (have q := of_decide_eq_true h5; exfalso; omega) | exact absurd rfl (ne_of_bneT h5))
            · skip
              refine c_skip ?_
              refine n_of (N' := NN26) nn26 ?_
              refine c_seq fun NN29 nn29 => ?_
              refine c_region fun KK30 kk30 => ?_
              refine n_of (N' := KK30) kk30 ?_
              refine n_of (N' := NN29) nn29 ?_
              refine c_seq fun NN31 nn31 => ?_
              refine c_region fun KK32 kk32 => ?_
              refine ⟨rfl, _, _, (s17 _ _ _ _ _ _ (by ((try dsimp only); first | assumption | omega | (simp (disch := omega) only [wr64]; omega))) (by ((try dsimp only); first | assumption | omega | (simp (disch := omega) only [wr64]; omega))) (by ((try dsimp only); first | assumption | omega | (simp (disch := omega) only [wr64]; omega))) (by ((try dsimp only); first | assumption | omega | (simp (disch := omega) only [wr64]; omega)))), ?_⟩
              refine n_of (N' := KK32) kk32 ?_
              refine n_of (N' := NN31) nn31 ?_
              refine c_seq fun NN33 nn33 => ?_
              refine c_seq fun NN34 nn34 => ?_
              refine c_region fun KK35 kk35 => ?_
              refine n_of (N' := KK35) kk35 ?_
              refine n_of (N' := NN34) nn34 ?_
              refine c_cond rfl (fun h6 => ?_) (fun h6 => ?_)
              · skip
                (first | (cases h6; done) | exact bnn h6 | (have q := of_decide_eq_true h6; exfalso; omega) | exact absurd rfl (ne_of_bneT h6))
              · skip
                have q6 := of_decide_eq_false h6
                (try dsimp only at q6)
                (try simp only [Dat.len] at q6)
                refine c_skip ?_
                refine n_of (N' := NN33) nn33 ?_
                refine c_seq fun NN36 nn36 => ?_
                refine c_seq fun NN37 nn37 => ?_
                refine c_region fun KK38 kk38 => ?_
                refine n_of (N' := KK38) kk38 ?_
                refine n_of (N' := NN37) nn37 ?_
                refine c_cond rfl (fun h7 => ?_) (fun h7 => ?_)
                · skip
                  (first | (cases h7; done) | exact bnn h7 | (have q := of_decide_eq_true h7; exfalso; omega) | exact absurd rfl (ne_of_bneT h7))
                · skip
                  have q7 := eq_of_bneF h7
                  (try dsimp only at q7)
                  (try simp only [Dat.len] at q7)
                  refine c_skip ?_
                  refine n_of (N' := NN36) nn36 ?_
                  refine c_seq fun NN39 nn39 => ?_
                  refine c_region fun KK40 kk40 => ?_
                  refine n_of (N' := KK40) kk40 ?_
                  refine n_of (N' := NN39) nn39 ?_
                  refine c_ret ?_
                  refine n_of (N' := R0) hR ?_
                  exact ⟨[], rfl, rfl, rfl⟩

end
end Go.AX
