/- What the functions of this program do, one contract a function, by that walk: each under what its own statement says. -/
import Derived.Test.YtfhgggjpdimaoaaSqE13
set_option linter.unusedVariables false
set_option linter.unusedSimpArgs false
namespace Go.AX
noncomputable section
open Go.RowKit Go.Proofs
set_option maxRecDepth 100000
set_option maxHeartbeats 4000000
open Go

/-! ## The program's solver -/

theorem s55T (o : Bool) (xs : List Nat) (h : xs.all finB = true) : SP 55 [ar o xs] [.one (.sl 0)] [ar o xs] (.tup [.one (.sl 0), .one (.ex (.bool true))]) := by
  refine spec_of_codeR (fn := Try.f55) tyOK mixes Try.func55 rfl rfl rfl ⟨.inl rfl, rfl⟩ fun hg R0 hR => ?_
  refine c_seq fun NN1 nn1 => ?_
  refine c_region fun KK2 kk2 => ?_
  refine n_of (N' := KK2) kk2 ?_
  refine n_of (N' := NN1) nn1 ?_
  refine c_seq fun NN3 nn3 => ?_
  refine c_seq fun NN4 nn4 => ?_
  refine c_region fun KK5 kk5 => ?_
  refine ⟨rfl, _, _, s52 _ _, ?_⟩
  refine n_of (N' := KK5) kk5 ?_
  refine n_of (N' := NN4) nn4 ?_
  refine c_cond rfl (fun h0 => ?_) (fun h0 => ?_)
  · have h1 := not_t h0
    rw [h] at h1; cases h1
  · refine c_skip ?_
    refine n_of (N' := NN3) nn3 ?_
    refine c_seq fun NN6 nn6 => ?_
    refine c_region fun KK7 kk7 => ?_
    refine n_of (N' := KK7) kk7 ?_
    refine n_of (N' := NN6) nn6 ?_
    refine c_ret ?_
    refine n_of (N' := R0) hR ?_
    exact ⟨[], rfl, rfl, rfl⟩
theorem s55F (o : Bool) (xs : List Nat) (h : xs.all finB = false) : SP 55 [ar o xs] [.one (.sl 0)] [ar o xs] (.tup [.one (.ex (.slice none 0 0)), .one (.ex (.bool false))]) := by
  refine spec_of_codeR (fn := Try.f55) tyOK mixes Try.func55 rfl rfl rfl ⟨.inl rfl, rfl⟩ fun hg R0 hR => ?_
  refine c_seq fun NN1 nn1 => ?_
  refine c_region fun KK2 kk2 => ?_
  refine n_of (N' := KK2) kk2 ?_
  refine n_of (N' := NN1) nn1 ?_
  refine c_seq fun NN3 nn3 => ?_
  refine c_seq fun NN4 nn4 => ?_
  refine c_region fun KK5 kk5 => ?_
  refine ⟨rfl, _, _, s52 _ _, ?_⟩
  refine n_of (N' := KK5) kk5 ?_
  refine n_of (N' := NN4) nn4 ?_
  refine c_cond rfl (fun h0 => ?_) (fun h0 => ?_)
  · refine c_seq fun NN6 nn6 => ?_
    refine c_region fun KK7 kk7 => ?_
    refine n_of (N' := KK7) kk7 ?_
    refine n_of (N' := NN6) nn6 ?_
    refine c_ret ?_
    refine n_of (N' := R0) hR ?_
    exact ⟨[], rfl, rfl, rfl⟩
  · have h1 := not_f h0
    rw [h] at h1; cases h1

/-- What the solver's end owes. -/
abbrev Ret20 (a bl : List Nat) (s : St) : Prop := ∃ s', Imp 208 2 s s' ∧ vRet ty 2 Try.f20.results.toList [ar true a, ar true bl, ar true (solL (solve a bl))] (.tup [.one (.sl 2), .one (.ex (.bool (solve a bl).isSome))]) s'
theorem ret_no {a bl : List Nat} (h : solve a bl = none) {e : List (Nat × AV)} (he : LeEnvS e envNo) (L : List Ent) : Ret20 a bl ⟨e, rowE a :: rowE bl :: L⟩ := by
  refine ⟨⟨envNo, [rowE a, rowE bl]⟩, Imp.trans (Imp.env he) (imp_drop [0, 1] ?_ rfl ⟨.inr rfl, .inr rfl, trivial⟩), ⟨[.nil 23 (.f [])], rfl, rfl, by rw [h]; rfl, by rw [h]; rfl⟩⟩
  simp [okPi0, keeps0, mem] <;> decide
theorem ret_yes {a bl xs : List Nat} (h : solve a bl = some xs) {e : List (Nat × AV)} (he : LeEnvS e [(4, one (.sl 2)), (5, exb true)]) : Ret20 a bl ⟨e, [rowE a, rowE bl, rowE xs]⟩ :=
  ⟨⟨[(4, one (.sl 2)), (5, exb true)], [rowE a, rowE bl, rowE xs]⟩, Imp.env he, ⟨[], rfl, by rw [h]; rfl, by rw [h]; rfl⟩⟩

noncomputable def cTail : Code := sndC (sndC cBack)
theorem tail_ok {a bl l2 xs : List Nat} {M : List (List Nat)} {x : Nat} {Nx : St → Prop} {X : Nat → St → Prop} {R : St → Prop}
    (hT : xs.all finB = true → ∀ e, LeEnvS e [(4, one (.sl 2)), (5, exb true)] → R ⟨e, [rowE a, rowE bl, rowE xs]⟩)
    (hF : xs.all finB = false → ∀ e, LeEnvS e envNo → R ⟨e, [rowE a, rowE bl, rowE xs]⟩) :
    CodeOK Try.prog 208 2 cTail ⟨[(14, one (.sl 3))], full a bl l2 xs M x⟩ Nx X R := by
  refine k_imp (imp_drop (e' := [(14, one (.sl 2))]) (L' := [rowE a, rowE bl, rowE xs]) [0, 1, 3] (by simp [okPi0, keeps0, mem] <;> decide) rfl ⟨.inr rfl, trivial⟩) ?_
  cases hf : xs.all finB
  · refine k_seq fun N1 n1 => ?_
    refine k_code tyOK mixes ?_
    refine c_region fun K2 k2 => ?_
    refine ⟨rfl, _, _, s55F _ _ hf, ?_⟩
    refine n_of (N' := K2) k2 ?_
    refine n_of (N' := N1) n1 ?_
    refine k_ret ?_
    exact hF hf _ ⟨.inr rfl, .inr rfl, trivial⟩
  · refine k_seq fun N1 n1 => ?_
    refine k_code tyOK mixes ?_
    refine c_region fun K2 k2 => ?_
    refine ⟨rfl, _, _, s55T _ _ hf, ?_⟩
    refine n_of (N' := K2) k2 ?_
    refine n_of (N' := N1) n1 ?_
    refine k_ret ?_
    exact hT hf _ ⟨.inr rfl, .inr rfl, trivial⟩
end
end Go.AX
