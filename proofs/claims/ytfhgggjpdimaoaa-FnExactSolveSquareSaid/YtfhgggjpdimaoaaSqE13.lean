/- What the functions of this program do, one contract a function, by that walk: each under what its own statement says. -/
import Derived.Test.YtfhgggjpdimaoaaSqE12
set_option linter.unusedVariables false
set_option linter.unusedSimpArgs false
namespace Go.AX
noncomputable section
open Go.RowKit Go.Proofs
set_option maxRecDepth 100000
set_option maxHeartbeats 4000000
open Go

/-! ## The way back -/

section
variable {P : Program} {ty : TyT} {n m0 : Nat} {i : Nat} {ol r : List Oper} {o : Oper} {s : St} {K : St → Prop} {φ : Option Prop} {α : AV} {E : Ent}
theorem vOps_g (hw : wants s.env ol o = some true) (hd : okDst n o.dst = true) (hg : isGuard ol i = false) (hq : qOp ty s.env s.L o.op = none) (hq2 : gOp ty s.env s.L o.op = some (φ, α, E)) (h : both φ (vOps P ty n m0 ol (i + 1) r { env := envPut s.env o.dst α, L := s.L ++ [E] } K)) : vOps P ty n m0 ol i (o :: r) s K := by
  simp only [vOps, hw, vOp, hd, hq, hq2, cond_true, hg, cond_false]
  exact both_norm (K := fun s' => vOps P ty n m0 ol (i + 1) r s' K) h
end
theorem bk_ok {l0 l1 : List Nat} {g y : BB} {G : FF} {N x i : Nat} (hN : N ≤ 16) (hi : i < N) {Nx : St → Prop} {X : Nat → St → Prop} {R : St → Prop}
    (h : ∀ e M l, M = mat G N → l = bld (upb y i (fop .quo .f32 (sm G y i (g i) (N - (i + 1))) (G i i))) N → LeEnvS e ((15, exi .i64 (i : Int)) :: envP N x) → Nx ⟨e, full l0 l1 (bld g N) l M x⟩) :
    CodeOK Try.prog 208 2 cBk ⟨(15, exi .i64 (i : Int)) :: envP N x, full l0 l1 (bld g N) (bld y N) (mat G N) x⟩ Nx X R := by
  refine k_seq fun N1 n1 => ?_
  refine r32_ok hi fun e v ev he => ?_
  refine n_of (N' := N1) n1 ?_
  refine k_imp (Imp.env he) ?_
  refine k_seq fun N2 n2 => ?_
  refine k_seq fun N3 n3 => ?_
  refine k_code tyOK mixes ?_
  refine c_region fun K4 k4 => ?_
  refine n_of (N' := K4) k4 ?_
  refine n_of (N' := N3) n3 ?_
  refine k_block fun X5 x5 => ?_
  refine k_loop (ι := { s : Nat // i + 1 + s ≤ N }) (fun j => ⟨envS N x i (sm G y i v j.1) (i + 1 + j.1), full l0 l1 (bld g N) (bld y N) (mat G N) x⟩) (fun j => N - j.1) ⟨0, by omega⟩ (Imp.env ⟨.inr rfl, .inr rfl, .inr rfl, .inr rfl, .inr rfl, .inr rfl, .inr (congrArg (exi .i64) (wrN (a := i) (b := 1) (by omega))), trivial⟩) ?_
  refine fun ⟨s, hs⟩ N6 n6 => ?_
  refine k_seq fun N7 n7 => ?_
  refine k_seq fun N8 n8 => ?_
  refine k_code tyOK mixes ?_
  refine c_region fun K9 k9 => ?_
  refine n_of (N' := K9) k9 ?_
  refine n_of (N' := N8) n8 ?_
  refine k_cond rfl (fun h0 => ?_) (fun h0 => ?_)
  · have q0 := of_decide_eq_true h0
    (try dsimp only at q0)
    have hj : i + 1 + s < N := by omega
    refine k_skip ?_
    refine n_of (N' := N7) n7 ?_
    refine k_seq fun N10 n10 => ?_
    refine k_block fun X11 x11 => ?_
    refine k_imp (s' := ⟨envS N x i (sm G y i v s) (i + 1 + s), full l0 l1 (bld g N) (bld y N) (mat G N) x⟩) (Imp.env ⟨.inr rfl, .inr rfl, .inr rfl, .inr rfl, .inr rfl, .inr rfl, .inr rfl, trivial⟩) ?_
    refine r36_ok hi hj fun e M v' eM ev' he => ?_
    subst eM
    refine n_of (N' := N10) n10 ?_
    refine k_imp (Imp.env he) ?_
    refine k_code tyOK mixes ?_
    refine c_region fun K12 k12 => ?_
    refine n_of (N' := K12) k12 ?_
    refine n_of (N' := N6) n6 ?_
    exact ⟨⟨s + 1, by omega⟩, by (dsimp only; omega), Imp.env ⟨.inr rfl, .inr rfl, .inr rfl, .inr rfl, .inr rfl, .inr (congrArg fl32 ev'), .inr (congrArg (exi .i64) (wrN (a := i + 1 + s) (b := 1) (by omega))), trivial⟩⟩
  · have q0 := of_decide_eq_false h0
    (try dsimp only at q0)
    have e : s = N - (i + 1) := by omega
    subst e
    refine k_exit ?_
    refine x_here x5 ?_
    refine n_of (N' := N2) n2 ?_
    refine k_imp (s' := ⟨envQ N x i (sm G y i v (N - (i + 1))), full l0 l1 (bld g N) (bld y N) (mat G N) x⟩) (Imp.env ⟨.inr rfl, .inr rfl, .inr rfl, .inr rfl, .inr rfl, .inr rfl, trivial⟩) ?_
    refine r37_ok hi fun e M l eM el he => ?_
    subst ev
    exact h _ _ _ eM el (he.trans ⟨.inr rfl, .inr rfl, .inr rfl, .inr rfl, .inr rfl, trivial⟩)
noncomputable def cBlk : Code := fstC (sndC cBack)
theorem blk_ok {l0 l1 : List Nat} {g : BB} {G : FF} {N x : Nat} (hN : N ≤ 16) {Nx : St → Prop} {X : Nat → St → Prop} {R : St → Prop}
    (h : ∀ e, LeEnvS e [(14, one (.sl 3))] → Nx ⟨e, full l0 l1 (bld g N) (bld (bsx G g N N) N) (mat G N) x⟩) :
    CodeOK Try.prog 208 2 cBlk ⟨envP N x, full l0 l1 (bld g N) (bld (bsx G g N 0) N) (mat G N) x⟩ Nx X R := by
  refine k_seq fun N3 n3 => ?_
  refine k_code tyOK mixes ?_
  refine c_region fun K4 k4 => ?_
  refine n_of (N' := K4) k4 ?_
  refine n_of (N' := N3) n3 ?_
  refine k_block fun X5 x5 => ?_
  refine k_loop (ι := { t : Nat // t ≤ N }) (fun j => ⟨(15, exi .i64 ((N : Int) - 1 - (j.1 : Int))) :: envP N x, full l0 l1 (bld g N) (bld (bsx G g N j.1) N) (mat G N) x⟩) (fun j => N - j.1) ⟨0, Nat.zero_le _⟩
    (Imp.env ⟨.inr (congrArg (exi .i64) ((wr64 (n := (N : Int) - 1) (by omega) (by omega)).trans (show (N : Int) - 1 = (N : Int) - 1 - ((0 : Nat) : Int) by omega))), .inr rfl, .inr rfl, .inr rfl, .inr rfl, trivial⟩) ?_
  refine fun ⟨t, ht⟩ N6 n6 => ?_
  refine k_seq fun N7 n7 => ?_
  refine k_seq fun N8 n8 => ?_
  refine k_code tyOK mixes ?_
  refine c_region fun K9 k9 => ?_
  refine n_of (N' := K9) k9 ?_
  refine n_of (N' := N8) n8 ?_
  refine k_cond rfl (fun h0 => ?_) (fun h0 => ?_)
  · have q0 := of_decide_eq_true h0
    (try dsimp only at q0)
    have ht1 : t < N := by omega
    have eI : (N : Int) - 1 - (t : Int) = ((N - 1 - t : Nat) : Int) := by omega
    refine k_skip ?_
    refine n_of (N' := N7) n7 ?_
    refine k_seq fun N10 n10 => ?_
    refine k_block fun X11 x11 => ?_
    refine k_imp (s' := ⟨(15, exi .i64 ((N - 1 - t : Nat) : Int)) :: envP N x, full l0 l1 (bld g N) (bld (bsx G g N t) N) (mat G N) x⟩) (Imp.env ⟨.inr (congrArg (exi .i64) eI), .inr rfl, .inr rfl, .inr rfl, .inr rfl, trivial⟩) ?_
    refine bk_ok hN (by omega) fun e M l eM el he => ?_
    subst eM
    have e9 : N - (N - 1 - t + 1) = t := by omega
    rw [e9] at el
    subst el
    refine n_of (N' := N10) n10 ?_
    refine k_imp (Imp.env he) ?_
    refine k_code tyOK mixes ?_
    refine c_region fun K12 k12 => ?_
    refine n_of (N' := K12) k12 ?_
    refine n_of (N' := N6) n6 ?_
    exact ⟨⟨t + 1, by omega⟩, by (dsimp only; omega), Imp.env ⟨.inr (congrArg (exi .i64) ((wr64 (n := ((N - 1 - t : Nat) : Int) - 1) (by omega) (by omega)).trans (show ((N - 1 - t : Nat) : Int) - 1 = (N : Int) - 1 - ((t + 1 : Nat) : Int) by omega))), .inr rfl, .inr rfl, .inr rfl, .inr rfl, trivial⟩⟩
  · have q0 := of_decide_eq_false h0
    (try dsimp only at q0)
    have e : t = N := by omega
    subst e
    refine k_exit ?_
    refine x_here x5 ?_
    exact h _ ⟨.inr rfl, trivial⟩
noncomputable def cR28 : Code := fstC cBack
theorem pos3 {n N : Nat} (h : n = N + 5) : (one (.sl n)).res (perm3 N) = one (.sl 3) := by
  subst h
  simp only [AV.res, A1.res, AC.res, perm3, pos, beq_ne (show 0 ≠ N + 5 by omega), beq_ne (show 1 ≠ N + 5 by omega), beq_ne (show 2 ≠ N + 5 by omega), Nat.beq_refl, cond_true, cond_false]
theorem full_len (l0 l1 l2 l3 : List Nat) (M : List (List Nat)) (x : Nat) : (full l0 l1 l2 l3 M x).length = M.length + 5 := by simp
theorem r28_ok {l0 l1 l2 : List Nat} {M : List (List Nat)} {N x : Nat} (hN : N ≤ 16) {Nx : St → Prop} {X : Nat → St → Prop} {R : St → Prop}
    (h : CodeOK Try.prog 208 2 (sndC cBack) ⟨envP N x, full l0 l1 l2 (List.replicate N 0) M x⟩ Nx X R) :
    CodeOK Try.prog 208 2 cBack ⟨envM N x, full l0 l1 l2 [] M x⟩ Nx X R := by
  refine k_seq fun N3 n3 => ?_
  refine k_code tyOK mixes ?_
  refine c_region fun K4 k4 => ?_
  refine vOps_q0 rfl rfl rfl rfl rfl ?_
  refine vOps_g rfl rfl rfl rfl rfl (And.intro ?_ ?_)
  · (refine ⟨rfl, ?_, ?_, by decide⟩ <;> (try dsimp only) <;> (try simp only [Dat.len]) <;> omega)
  refine vOps_q0 rfl rfl rfl rfl rfl ?_
  refine n_of (N' := K4) k4 ?_
  refine n_of (N' := N3) n3 ?_
  refine k_imp (imp_pick3 (env' := envP N x) (by decide) ⟨.inr rfl, .inr rfl, .inr ?_, .inr (pos3 (full_len _ _ _ _ _ _)), trivial⟩) h
  rfl
end
end Go.AX
