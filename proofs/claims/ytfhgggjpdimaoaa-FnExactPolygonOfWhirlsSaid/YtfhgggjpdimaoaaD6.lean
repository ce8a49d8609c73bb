/- The law returns true whatever the input, and the input reads as it did: no condition. -/
import Derived.Test.YtfhgggjpdimaoaaC6
import Derived.Test.YtfhgggjpdimaoaaCJ
import Derived.Test.YtfhgggjpdimaoaaCK
set_option linter.unusedVariables false
set_option linter.unusedSimpArgs false
namespace Go.Proofs.Ytfhgggjpdimaoaa
open Go.ChangeShapes Go.WideShapes Go.ChangeAt Go.RowKit Go.AX Go.Proofs

set_option maxRecDepth 100000 in
theorem lifted6 (os : Os) (started : os.Started) (H : Type) (enc : TypeId × Value → H) :
    ReturnsInHanded {} Try.checked os 6 .any (Rows.fnExactPolygonOfWhirlsSpec.pre6 enc Try.prog Try.f6 Rows.fnExactPolygonOfWhirlsRow.domain false) (Rows.fnExactPolygonOfWhirlsSpec.post enc Try.prog Try.f6 false true false false) := by
  refine returnsInHanded_of_change (C := Try.checked) Go.AX.Try.own started (by kernel_rfl) Try.func6
    (ChangeSpec.witness6 (enc := enc) (C := Try.checked) false ⟨#[], #[.int .i64 0, .float .f32 0, .float .f32 0], []⟩ 8 (by kernel_rfl) (by kernel_rfl) (by kernel_rfl) (by kernel_rfl)) ?_
  intro W base args ds gs before hval0 hW hcnd _
  have hval : ∀ (j : Nat) t v, Try.f6.params[j]? = some t → args[j]? = some v → Value.okWide Try.prog W .any base t v := hval0
  have hW' := hW
  obtain ⟨p, q, hA0, hV, rfl, hfz, hnd⟩ := hW
  have hA : DataW.TrodAll enc Try.prog W 0 (fun _ => true) true Try.f6.params.toList args.toList ds p := hA0
  rw [Try.params6] at hA hval
  obtain ⟨v0, v1, v2, d0, d1, d2, p0, p1, p2, rfl, rfl, rfl, h0, h1, h2⟩ := trodAll_three hA
  obtain ⟨rfl, rfl⟩ := trodVars_none hV
  obtain ⟨n0, rfl, rfl, rfl, g0⟩ := open_int Try.underlying2 (hval 0 2 v0 rfl rfl) h0
  obtain ⟨b1, rfl, rfl, rfl, g1⟩ := open_float Try.underlying23 (hval 1 23 v1 rfl rfl) h1
  obtain ⟨b2, rfl, rfl, rfl, g2⟩ := open_float Try.underlying23 (hval 2 23 v2 rfl rfl) h2
  clear hA0 hval0
  simp only [List.append_nil, List.nil_append, List.append_assoc] at hW'
  have hlt : ∀ x ∈ (([] : List MemPlace)), x.block < W.heap.size := fun x hx => by simpa using hW'.lt x hx
  have hsat := (sat_nil W)
  refine (spec_run (s6 n0 (cn .f32 b1) (cn .f32 b2)) Try.func6 rfl (by kernel_rfl) (us := [.int .i64 n0, .float .f32 b1, .float .f32 b2]) hsat ⟨rfl, ⟨b1, rfl, rfl, by simpa [Lit.wf, wd] using g1⟩, ⟨b2, rfl, rfl, by simpa [Lit.wf, wd] using g2⟩, trivial⟩).mono fun e W' ⟨v, he, σ', hs', hv, hf⟩ => ?_
  have hv : v = .bool true := hv
  subst he; subst hv
  have hb := below_of hf rfl
  refine ⟨_, rfl, _, _, _, [], (([] : List MemPlace)), [], hW', ?_, ?_, rfl, hb.frame _, fun h => by cases h⟩
  · exact trodAll_mk1 (shut_bool Try.underlying4 true)
  · have key : DataW.TrodAll enc Try.prog W' 0 (fun b => decide (b < W.heap.size)) true [2, 23, 23] [.int .i64 n0, .float .f32 b1, .float .f32 b2] [.lit (.int .i64 n0), .lit (.float .f32 b1), .lit (.float .f32 b2)] _ := trodAll_mk3 (shut_int Try.underlying2 g0) (shut_float Try.underlying23 g1) (shut_float Try.underlying23 g2)
    (try simp only [List.append_nil, List.nil_append, List.append_assoc] at key)
    exact key

theorem closed6 : joinedFacts Try.prog 6 Try.f6 Rows.fnExactPolygonOfWhirlsSpec Rows.fnExactPolygonOfWhirlsRow = true := by
  unfold joinedFacts
  rewrite [io3, io4, io5]
  kernel_rfl

theorem polygonOfWhirls_holds : Rows.FnExactPolygonOfWhirlsSaid :=
  OpenClaim.holds_of_wide 6 Try.f6 rfl rfl rfl rfl rfl rfl rfl ⟨rfl, rfl, rfl, rfl, rfl⟩ rfl rfl rfl rfl rfl (by kernel_rfl) Try.func6 closed6
    (of_decide_eq_true (by kernel_rfl)) (by unfold Func.isWrapper; rw [if_neg (of_decide_eq_false (by kernel_rfl))]; exact ⟨rfl, rfl⟩)
    (fun os started H enc _ => lifted6 os started H enc)
end Go.Proofs.Ytfhgggjpdimaoaa
