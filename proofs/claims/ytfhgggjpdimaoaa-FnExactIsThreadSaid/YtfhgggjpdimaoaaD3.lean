/- The law returns true whatever the input, and the input reads as it did: no condition. -/
import Derived.Test.YtfhgggjpdimaoaaC1
import Derived.Test.YtfhgggjpdimaoaaCJ
import Derived.Test.YtfhgggjpdimaoaaCK
set_option linter.unusedVariables false
set_option linter.unusedSimpArgs false
namespace Go.Proofs.Ytfhgggjpdimaoaa
open Go.ChangeShapes Go.WideShapes Go.ChangeAt Go.RowKit Go.AX Go.Proofs

set_option maxRecDepth 100000 in
theorem lifted3 (os : Os) (started : os.Started) (H : Type) (enc : TypeId × Value → H) :
    ReturnsInHanded {} Try.checked os 3 .any (Rows.fnExactIsThreadSpec.pre6 enc Try.prog Try.f3 Rows.fnExactIsThreadRow.domain false) (Rows.fnExactIsThreadSpec.post enc Try.prog Try.f3 false true false false) := by
  refine returnsInHanded_of_change (C := Try.checked) Go.AX.Try.own started (by kernel_rfl) Try.func3
    (ChangeSpec.witness6 (enc := enc) (C := Try.checked) false ⟨#[], #[.agg #[.slice none 0 0, .float .f32 0]], []⟩ 8 (by kernel_rfl) (by kernel_rfl) (by kernel_rfl) (by kernel_rfl)) ?_
  intro W base args ds gs before hval0 hW hcnd _
  have hval : ∀ (j : Nat) t v, Try.f3.params[j]? = some t → args[j]? = some v → Value.okWide Try.prog W .any base t v := hval0
  have hW' := hW
  obtain ⟨p, q, hA0, hV, rfl, hfz, hnd⟩ := hW
  have hA : DataW.TrodAll enc Try.prog W 0 (fun _ => true) true Try.f3.params.toList args.toList ds p := hA0
  rw [Try.params3] at hA hval
  obtain ⟨v0, d0, rfl, rfl, h0⟩ := trodAll_one hA
  obtain ⟨rfl, rfl⟩ := trodVars_none hV
  obtain ⟨xs0, s0, sl0, e0, r0, q0, g0⟩ := open_thread (hval 0 25 v0 rfl rfl) h0
  clear hA0 hval0
  simp only [List.append_nil, List.nil_append, List.append_assoc] at hW'
  have hlt : ∀ x ∈ (p), x.block < W.heap.size := fun x hx => by simpa using hW'.lt x hx
  have hsat := (sat_add (T := 85) (sat_nil W) rfl r0)
  refine (spec_run (s3 false xs0 (cn .f32 s0)) Try.func3 rfl (by kernel_rfl) (us := [v0]) hsat ⟨by rw [e0]; exact ⟨[_, _], rfl, ⟨rfl, q0⟩, ⟨s0, rfl, rfl, g0⟩, trivial⟩, trivial⟩).mono fun e W' ⟨v, he, σ', hs', hv, hf⟩ => ?_
  have hv : v = .bool true := hv
  subst he; subst hv
  have hb := below_of hf rfl
  refine ⟨_, rfl, _, _, _, [], (p), [], hW', ?_, ?_, rfl, hb.frame _, fun h => by cases h⟩
  · exact trodAll_mk1 (shut_bool Try.underlying4 true)
  · have key : DataW.TrodAll enc Try.prog W' 0 (fun b => decide (b < W.heap.size)) true [25] [v0] [d0] _ := trodAll_mk1 (keeps25 h0 hb fun x hx => hlt x (by simp [hx]))
    (try simp only [List.append_nil, List.nil_append, List.append_assoc] at key)
    exact key

theorem closed3 : joinedFacts Try.prog 3 Try.f3 Rows.fnExactIsThreadSpec Rows.fnExactIsThreadRow = true := by
  unfold joinedFacts
  rewrite [io3, io4, io5]
  kernel_rfl

theorem isThread_holds : Rows.FnExactIsThreadSaid :=
  OpenClaim.holds_of_wide 3 Try.f3 rfl rfl rfl rfl rfl rfl rfl ⟨rfl, rfl, rfl, rfl, rfl⟩ rfl rfl rfl rfl rfl (by kernel_rfl) Try.func3 closed3
    (of_decide_eq_true (by kernel_rfl)) (by unfold Func.isWrapper; rw [if_neg (of_decide_eq_false (by kernel_rfl))]; exact ⟨rfl, rfl⟩)
    (fun os started H enc _ => lifted3 os started H enc)
end Go.Proofs.Ytfhgggjpdimaoaa
