/- The law returns true whatever the input, and the input reads as it did: no condition. -/
import Derived.Test.YtojajegjmjmekaaB22
import Derived.Test.YtojajegjmjmekaaBJ
import Derived.Test.YtojajegjmjmekaaBK
set_option linter.unusedVariables false
set_option linter.unusedSimpArgs false
namespace Go.Proofs.Ytojajegjmjmekaa
open Go.ChangeShapes Go.WideShapes Go.ChangeAt Go.RowKit Go.AX Go.Proofs

set_option maxRecDepth 100000 in
theorem lifted9 (os : Os) (started : os.Started) (H : Type) (enc : TypeId × Value → H) :
    ReturnsInHanded {} Try.checked os 9 .any (Rows.fnExactStepBasinSpec.pre6 enc Try.prog Try.f9 Rows.fnExactStepBasinRow.domain false) (Rows.fnExactStepBasinSpec.post enc Try.prog Try.f9 false true false false) := by
  refine returnsInHanded_of_change (C := Try.checked) Go.AX.Try.own started (by kernel_rfl) Try.func9
    (ChangeSpec.witness6 (enc := enc) (C := Try.checked) false ⟨#[], #[.agg #[.int .i64 0, .int .i64 0, .slice none 0 0], .float .f32 0, .float .f32 0, .int .i64 0], []⟩ 8 (by kernel_rfl) (by kernel_rfl) (by kernel_rfl) (by kernel_rfl)) ?_
  intro W base args ds gs before hval0 hW hcnd _
  have hval : ∀ (j : Nat) t v, Try.f9.params[j]? = some t → args[j]? = some v → Value.okWide Try.prog W .any base t v := hval0
  have hW' := hW
  obtain ⟨p, q, hA0, hV, rfl, hfz, hnd⟩ := hW
  have hA : DataW.TrodAll enc Try.prog W 0 (fun _ => true) true Try.f9.params.toList args.toList ds p := hA0
  rw [Try.params9] at hA hval
  obtain ⟨v0, v1, v2, v3, d0, d1, d2, d3, p0, p1, p2, p3, rfl, rfl, rfl, h0, h1, h2, h3⟩ := trodAll_four hA
  obtain ⟨rfl, rfl⟩ := trodVars_none hV
  obtain ⟨w0, k0, xs0, sl0, e0, r0, s0⟩ := open_basin (hval 0 24 v0 rfl rfl) h0
  obtain ⟨b1, rfl, rfl, rfl, g1⟩ := open_float Try.underlying32 (hval 1 32 v1 rfl rfl) h1
  obtain ⟨b2, rfl, rfl, rfl, g2⟩ := open_float Try.underlying32 (hval 2 32 v2 rfl rfl) h2
  obtain ⟨n3, rfl, rfl, rfl, g3⟩ := open_int Try.underlying2 (hval 3 2 v3 rfl rfl) h3
  clear hA0 hval0
  simp only [List.append_nil, List.nil_append, List.append_assoc] at hW'
  have hlt : ∀ x ∈ (p0), x.block < W.heap.size := fun x hx => by simpa using hW'.lt x hx
  have hsat := (sat_add (T := 32) (sat_nil W) rfl r0)
  refine (spec_run (s9 false xs0 w0 k0 (cn .f32 b1) (cn .f32 b2) n3) Try.func9 rfl (by kernel_rfl) (us := [v0, .float .f32 b1, .float .f32 b2, .int .i64 n3]) hsat ⟨by rw [e0]; exact rel_basin rfl s0, ⟨b1, rfl, rfl, by simpa [Lit.wf, wd] using g1⟩, ⟨b2, rfl, rfl, by simpa [Lit.wf, wd] using g2⟩, rfl, trivial⟩).mono fun e W' ⟨v, he, σ', hs', hv, hf⟩ => ?_
  have hv : v = .bool true := hv
  subst he; subst hv
  have hb := below_of hf rfl
  refine ⟨_, rfl, _, _, _, [], (p0), [], hW', ?_, ?_, rfl, hb.frame _, fun h => by cases h⟩
  · exact trodAll_mk1 (shut_bool Try.underlying4 true)
  · have key : DataW.TrodAll enc Try.prog W' 0 (fun b => decide (b < W.heap.size)) true [24, 32, 32, 2] [v0, .float .f32 b1, .float .f32 b2, .int .i64 n3] [d0, .lit (.float .f32 b1), .lit (.float .f32 b2), .lit (.int .i64 n3)] _ := trodAll_mk4 (keeps24 h0 hb fun x hx => hlt x (by simp [hx])) (shut_float Try.underlying32 g1) (shut_float Try.underlying32 g2) (shut_int Try.underlying2 g3)
    (try simp only [List.append_nil, List.nil_append, List.append_assoc] at key)
    exact key

theorem closed9 : joinedFacts Try.prog 9 Try.f9 Rows.fnExactStepBasinSpec Rows.fnExactStepBasinRow = true := by
  unfold joinedFacts
  rewrite [io3, io4, io5]
  kernel_rfl

theorem stepBasin_holds : Rows.FnExactStepBasinSaid :=
  OpenClaim.holds_of_wide 9 Try.f9 rfl rfl rfl rfl rfl rfl rfl ⟨rfl, rfl, rfl, rfl, rfl⟩ rfl rfl rfl rfl rfl (by kernel_rfl) Try.func9 closed9
    (of_decide_eq_true (by kernel_rfl)) (by unfold Func.isWrapper; rw [if_neg (of_decide_eq_false (by kernel_rfl))]; exact ⟨rfl, rfl⟩)
    (fun os started H enc _ => lifted9 os started H enc)
end Go.Proofs.Ytojajegjmjmekaa
