/- The law returns true whatever the input, and the input reads as it did: no condition. -/
import Derived.Test.YtfhgggjpdimaoaaSqE16
import Derived.Test.YtfhgggjpdimaoaaSqCJ
import Derived.Test.YtfhgggjpdimaoaaSqCK
set_option linter.unusedVariables false
set_option linter.unusedSimpArgs false
namespace Go.Proofs.Ytfhgggjpdimaoaa
open Go.ChangeShapes Go.WideShapes Go.ChangeAt Go.RowKit Go.AX Go.Proofs

set_option maxRecDepth 100000 in
theorem lifted5 (os : Os) (started : os.Started) (H : Type) (enc : TypeId × Value → H) :
    ReturnsInHanded {} Try.checked os 5 .any (Rows.fnExactSolveSquareSpec.pre6 enc Try.prog Try.f5 Rows.fnExactSolveSquareRow.domain false) (Rows.fnExactSolveSquareSpec.post enc Try.prog Try.f5 false true false false) := by
  refine returnsInHanded_of_change (C := Try.checked) Go.AX.Try.own started (by kernel_rfl) Try.func5
    (ChangeSpec.witness6 (enc := enc) (C := Try.checked) false ⟨#[], #[.slice none 0 0, .slice none 0 0], []⟩ 8 (by kernel_rfl) (by kernel_rfl) (by kernel_rfl) (by kernel_rfl)) ?_
  intro W base args ds gs before hval0 hW hcnd _
  have hval : ∀ (j : Nat) t v, Try.f5.params[j]? = some t → args[j]? = some v → Value.okWide Try.prog W .any base t v := hval0
  have hW' := hW
  obtain ⟨p, q, hA0, hV, rfl, hfz, hnd⟩ := hW
  have hA : DataW.TrodAll enc Try.prog W 0 (fun _ => true) true Try.f5.params.toList args.toList ds p := hA0
  rw [Try.params5] at hA hval
  obtain ⟨v0, v1, d0, d1, p0, p1, rfl, rfl, rfl, h0, h1⟩ := trodAll_two hA
  obtain ⟨rfl, rfl⟩ := trodVars_none hV
  obtain ⟨a0, l0, c0, rfl⟩ := okWide_slice Try.underlying35 (hval 0 35 v0 rfl rfl)
  obtain ⟨f0, t0⟩ := id h0
  obtain ⟨xs0, r0, q0⟩ := reads_floats (show DataW.trod enc Try.prog W 0 (fun _ => true) true f0 35 [.slice a0 l0 c0] = some (d0, p0) from t0)
  obtain ⟨a1, l1, c1, rfl⟩ := okWide_slice Try.underlying35 (hval 1 35 v1 rfl rfl)
  obtain ⟨f1, t1⟩ := id h1
  obtain ⟨xs1, r1, q1⟩ := reads_floats (show DataW.trod enc Try.prog W 0 (fun _ => true) true f1 35 [.slice a1 l1 c1] = some (d1, p1) from t1)
  clear hA0 hval0
  simp only [List.append_nil, List.nil_append, List.append_assoc] at hW'
  have hlt : ∀ x ∈ (p0 ++ (p1)), x.block < W.heap.size := fun x hx => by simpa using hW'.lt x hx
  have hsat := (sat_add (T := 23) (sat_add (T := 23) (sat_nil W) rfl r0) rfl r1)
  refine (spec_run (s5 false false xs0 xs1) Try.func5 rfl (by kernel_rfl) (us := [.slice a0 l0 c0, .slice a1 l1 c1]) hsat ⟨⟨rfl, q0⟩, ⟨rfl, q1⟩, trivial⟩).mono fun e W' ⟨v, he, σ', hs', hv, hf⟩ => ?_
  have hv : v = .bool true := hv
  subst he; subst hv
  have hb := below_of hf rfl
  refine ⟨_, rfl, _, _, _, [], (p0 ++ (p1)), [], hW', ?_, ?_, rfl, hb.frame _, fun h => by cases h⟩
  · exact trodAll_mk1 (shut_bool Try.underlying4 true)
  · have key : DataW.TrodAll enc Try.prog W' 0 (fun b => decide (b < W.heap.size)) true [35, 35] [.slice a0 l0 c0, .slice a1 l1 c1] [d0, d1] _ := trodAll_mk2 (keeps35 h0 hb fun x hx => hlt x (by simp [hx])) (keeps35 h1 hb fun x hx => hlt x (by simp [hx]))
    (try simp only [List.append_nil, List.nil_append, List.append_assoc] at key)
    exact key

theorem closed5 : joinedFacts Try.prog 5 Try.f5 Rows.fnExactSolveSquareSpec Rows.fnExactSolveSquareRow = true := by
  unfold joinedFacts
  rewrite [io3, io4, io5]
  kernel_rfl

theorem solveSquare_holds : Rows.FnExactSolveSquareSaid :=
  OpenClaim.holds_of_wide 5 Try.f5 rfl rfl rfl rfl rfl rfl rfl ⟨rfl, rfl, rfl, rfl, rfl⟩ rfl rfl rfl rfl rfl (by kernel_rfl) Try.func5 closed5
    (of_decide_eq_true (by kernel_rfl)) (by unfold Func.isWrapper; rw [if_neg (of_decide_eq_false (by kernel_rfl))]; exact ⟨rfl, rfl⟩)
    (fun os started H enc _ => lifted5 os started H enc)
end Go.Proofs.Ytfhgggjpdimaoaa
