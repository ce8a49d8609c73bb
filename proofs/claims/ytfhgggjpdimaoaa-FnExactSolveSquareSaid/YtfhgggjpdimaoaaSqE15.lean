/- What the functions of this program do, one contract a function, by that walk: each under what its own statement says. -/
import Derived.Test.YtfhgggjpdimaoaaSqE14
set_option linter.unusedVariables false
set_option linter.unusedSimpArgs false
namespace Go.AX
noncomputable section
open Go.RowKit Go.Proofs
set_option maxRecDepth 100000
set_option maxHeartbeats 4000000
open Go

/-! ## The program's SolveSquare -/

theorem inB_of {n : Nat} (h : inB (n : Int) 1 16 = true) : 1 ≤ n ∧ n ≤ 16 := by
  unfold inB at h
  simp only [Bool.and_eq_true, decide_eq_true_eq] at h
  omega
theorem okSq_in {a b : List Nat} (h : inB (b.length : Int) 1 16 = false) : okSq a b = false := by unfold okSq; rw [h]; simp
theorem imp_eq {n m0 : Nat} {s s' : St} (h : s = s') : Imp n m0 s s' := by subst h; exact Imp.refl _
noncomputable def cMain : Code := sndC (sndC (sndC (sndC (sndC c20))))
theorem solved {a bl : List Nat} (hN0 : 0 < bl.length) (hN : bl.length ≤ 16) (ha : a.length = bl.length * bl.length) {R0 : St → Prop} (hR : R0 = Ret20 a bl)
    (ok : solve a bl = sol (fun i j => a.getD (i * bl.length + j) 0) (fun i => bl.getD i 0) bl.length) :
    CodeOK Try.prog 208 2 cMain ⟨[(0, one (.sl 0)), (1, one (.sl 2)), (6, exi .i64 (bl.length : Int)), (7, one (.sw 4 0 0))], full a bl bl [] [] 0⟩ R0 (fun _ _ => False) R0 := by
  refine k_seq fun N1 n1 => ?_
  refine rows_ok hN0 hN ha fun e M x eM he => ?_
  subst eM
  refine n_of (N' := N1) n1 ?_
  refine k_imp (Imp.trans (Imp.env he) (imp_eq (congrArg (fun l => (⟨envM bl.length x, full a bl l [] (mat (fun i j => a.getD (i * bl.length + j) 0) bl.length) x⟩ : St)) (vec_of bl)))) ?_
  refine k_seq fun N2 n2 => ?_
  refine elim_ok hN (fun G g hel e he => ?_) (fun k G g hel hk hp e he => ?_)
  · refine n_of (N' := N2) n2 ?_
    refine k_imp (Imp.env he) ?_
    refine r28_ok hN ?_
    refine k_imp (imp_eq (congrArg (fun l => (⟨envP bl.length x, full a bl (bld g bl.length) l (mat G bl.length) x⟩ : St)) (zero_vec bl.length))) ?_
    refine k_seq fun N3 n3 => ?_
    refine blk_ok hN fun e he => ?_
    refine n_of (N' := N3) n3 ?_
    refine k_imp (Imp.env he) ?_
    refine tail_ok (fun hf e he => ?_) (fun hf e he => ?_)
    · refine n_of (N' := R0) hR ?_
      refine ret_yes (ok.trans ?_) he
      unfold sol
      rw [hel]
      show (if _ = true then _ else none) = _
      rw [if_pos hf]
    · refine n_of (N' := R0) hR ?_
      refine ret_no (ok.trans ?_) he _
      unfold sol
      rw [hel]
      show (if (bld (bsx G g bl.length bl.length) bl.length).all finB = true then _ else none) = _
      rw [if_neg (by rw [hf]; simp)]
  · refine n_of (N' := R0) hR ?_
    exact ret_no (ok.trans (sol_piv hel hk hp)) he _
theorem s20 (a bl : List Nat) : SP 20 [ar true a, ar true bl] [.one (.sl 0), .one (.sl 1)] [ar true a, ar true bl, ar true (solL (solve a bl))] (.tup [.one (.sl 2), .one (.ex (.bool (solve a bl).isSome))]) := by
  refine spec_of_ok (ty := ty) tyOK (fn := Try.f20) Try.func20 rfl rfl rfl (keeps_of ⟨.inl rfl, ⟨.inl rfl, rfl⟩⟩) fun hg R0 hR => ?_
  refine k_seq fun N1 n1 => ?_
  refine k_code tyOK mixes ?_
  refine c_region fun K2 k2 => ?_
  refine n_of (N' := K2) k2 ?_
  refine n_of (N' := N1) n1 ?_
  refine k_seq fun N3 n3 => ?_
  refine k_code tyOK mixes ?_
  refine c_region fun K4 k4 => ?_
  refine n_of (N' := K4) k4 ?_
  refine n_of (N' := N3) n3 ?_
  refine k_seq fun N5 n5 => ?_
  refine k_seq fun N6 n6 => ?_
  refine k_code tyOK mixes ?_
  refine c_region fun K7 k7 => ?_
  refine ⟨rfl, _, _, s37 _ _ _, ?_⟩
  refine And.intro (fun h0 => ?_) (fun h0 => ?_)
  · skip
    refine And.intro (fun _ => ?_) (fun h => nomatch h)
    refine And.intro (fun _ => ?_) (fun h => nomatch h)
    refine n_of (N' := K7) k7 ?_
    refine n_of (N' := N6) n6 ?_
    refine k_cond rfl (fun _ => ?_) (fun h => nomatch h)
    refine k_seq fun N100 n100 => ?_
    refine k_code tyOK mixes ?_
    refine c_region fun K100 k100 => ?_
    refine n_of (N' := K100) k100 ?_
    refine n_of (N' := N100) n100 ?_
    refine k_ret ?_
    refine n_of (N' := R0) hR ?_
    exact ret_no (solve_no (okSq_in (not_t h0))) ⟨.inr rfl, .inr rfl, trivial⟩ _
  · skip
    obtain ⟨hN0, hN⟩ : 1 ≤ bl.length ∧ bl.length ≤ 16 := inB_of (not_f h0)
    refine And.intro (fun h1 => ?_) (fun h1 => ?_)
    · skip
      refine And.intro (fun _ => ?_) (fun h => nomatch h)
      refine n_of (N' := K7) k7 ?_
      refine n_of (N' := N6) n6 ?_
      refine k_cond rfl (fun _ => ?_) (fun h => nomatch h)
      refine k_seq fun N102 n102 => ?_
      refine k_code tyOK mixes ?_
      refine c_region fun K102 k102 => ?_
      refine n_of (N' := K102) k102 ?_
      refine n_of (N' := N102) n102 ?_
      refine k_ret ?_
      refine n_of (N' := R0) hR ?_
      exact ret_no (solve_no (okSq_l (fun e => ne_of_bneT h1 (show ((a.length : Nat) : Int) = IntKind.i64.wrap ((bl.length : Int) * (bl.length : Int)) by rw [sq_wrap (by omega), e])))) ⟨.inr rfl, .inr rfl, trivial⟩ _
    · skip
      have hlen : a.length = bl.length * bl.length := by
        have c : ((a.length : Nat) : Int) = IntKind.i64.wrap ((bl.length : Int) * (bl.length : Int)) := eq_of_bneF h1
        rw [sq_wrap (by omega)] at c
        omega
      refine ⟨rfl, _, _, s52 _ _, ?_⟩
      refine And.intro (fun h2 => ?_) (fun h2 => ?_)
      · skip
        refine n_of (N' := K7) k7 ?_
        refine n_of (N' := N6) n6 ?_
        refine k_cond rfl (fun _ => ?_) (fun h => nomatch h)
        refine k_seq fun N104 n104 => ?_
        refine k_code tyOK mixes ?_
        refine c_region fun K104 k104 => ?_
        refine n_of (N' := K104) k104 ?_
        refine n_of (N' := N104) n104 ?_
        refine k_ret ?_
        refine n_of (N' := R0) hR ?_
        exact ret_no (solve_no (okSq_a (not_t h2))) ⟨.inr rfl, .inr rfl, trivial⟩ _
      · skip
        refine ⟨rfl, _, _, s52 _ _, ?_⟩
        refine n_of (N' := K7) k7 ?_
        refine n_of (N' := N6) n6 ?_
        refine k_cond rfl (fun h3 => ?_) (fun h3 => ?_)
        · skip
          refine k_seq fun N106 n106 => ?_
          refine k_code tyOK mixes ?_
          refine c_region fun K106 k106 => ?_
          refine n_of (N' := K106) k106 ?_
          refine n_of (N' := N106) n106 ?_
          refine k_ret ?_
          refine n_of (N' := R0) hR ?_
          exact ret_no (solve_no (okSq_b (not_t h3))) ⟨.inr rfl, .inr rfl, trivial⟩ _
        · skip
          refine k_skip ?_
          refine n_of (N' := N5) n5 ?_
          have ok := solve_yes (a := a) (b := bl) (by omega) (by omega) hlen (not_f h2) (not_f h3)
          refine k_seq fun N8 n8 => ?_
          refine k_code tyOK mixes ?_
          refine c_region fun K9 k9 => ?_
          refine ⟨rfl, _, _, s53 _ _ (by omega) (by omega), ?_⟩
          refine n_of (N' := K9) k9 ?_
          refine n_of (N' := N8) n8 ?_
          refine k_seq fun N10 n10 => ?_
          refine k_code tyOK mixes ?_
          refine c_region fun K11 k11 => ?_
          refine n_of (N' := K11) k11 ?_
          refine n_of (N' := N10) n10 ?_
          refine k_imp (Imp.trans (imp_nil (T := 23) (D := .f []) rfl) (imp_drop (e' := [(0, one (.sl 0)), (1, one (.sl 2)), (6, exi .i64 (bl.length : Int)), (7, one (.sw 4 0 0))]) (L' := full a bl bl [] [] 0) [0, 1, 2, 4, 3] rfl rfl ⟨.inr rfl, .inr rfl, .inr rfl, .inr rfl, trivial⟩)) ?_
          exact solved (by omega) (by omega) hlen hR ok
end
end Go.AX
