/- The law returns true whatever the input, and the input reads as it did: no condition. -/
import Derived.Test.YtojajegjmjmekaaB13
import Derived.Test.YtojajegjmjmekaaBJ
import Derived.Test.YtojajegjmjmekaaBK
set_option linter.unusedVariables false
set_option linter.unusedSimpArgs false
namespace Go.Proofs.Ytojajegjmjmekaa
open Go.ChangeShapes Go.WideShapes Go.ChangeAt Go.RowKit Go.AX Go.Proofs

set_option maxRecDepth 100000 in
theorem lifted12 (os : Os) (started : os.Started) (H : Type) (enc : TypeId × Value → H) :
    ReturnsInHanded {} Try.checked os 12 .any (Rows.fnExactBlobBasinSpec.pre6 enc Try.prog Try.f12 Rows.fnExactBlobBasinRow.domain false) (Rows.fnExactBlobBasinSpec.post enc Try.prog Try.f12 false true false false) := by
  refine returnsInHanded_of_change (C := Try.checked) Go.AX.Try.own started (by kernel_rfl) Try.func12
    (ChangeSpec.witness6 (enc := enc) (C := Try.checked) false ⟨#[], #[.int .i64 0, .int .i64 0, .float .f32 0, .float .f32 0, .float .f32 0, .float .f32 0], []⟩ 8 (by kernel_rfl) (by kernel_rfl) (by kernel_rfl) (by kernel_rfl)) ?_
  intro W base args ds gs before hval0 hW hcnd _
  have hval : ∀ (j : Nat) t v, Try.f12.params[j]? = some t → args[j]? = some v → Value.okWide Try.prog W .any base t v := hval0
  have hW' := hW
  obtain ⟨p, q, hA0, hV, rfl, hfz, hnd⟩ := hW
  have hA : DataW.TrodAll enc Try.prog W 0 (fun _ => true) true Try.f12.params.toList args.toList ds p := hA0
  rw [Try.params12] at hA hval
  obtain ⟨v0, vr0, d0, dr0, p0, q0, a0, rfl, rfl, h0, hr0⟩ := trodAll_cons hA
  obtain ⟨v1, vr1, d1, dr1, p1, q1, a1, rfl, rfl, h1, hr1⟩ := trodAll_cons hr0
  obtain ⟨v2, vr2, d2, dr2, p2, q2, a2, rfl, rfl, h2, hr2⟩ := trodAll_cons hr1
  obtain ⟨v3, vr3, d3, dr3, p3, q3, a3, rfl, rfl, h3, hr3⟩ := trodAll_cons hr2
  obtain ⟨v4, vr4, d4, dr4, p4, q4, a4, rfl, rfl, h4, hr4⟩ := trodAll_cons hr3
  obtain ⟨v5, vr5, d5, dr5, p5, q5, a5, rfl, rfl, h5, hr5⟩ := trodAll_cons hr4
  obtain ⟨ar, rfl, rfl⟩ := trodAll_nil hr5
  subst ar
  subst a5
  subst a4
  subst a3
  subst a2
  subst a1
  obtain rfl : args = #[v0, v1, v2, v3, v4, v5] := by cases args; simp_all
  obtain ⟨rfl, rfl⟩ := trodVars_none hV
  obtain ⟨n0, rfl, rfl, rfl, g0⟩ := open_int Try.underlying2 (hval 0 2 v0 rfl rfl) h0
  obtain ⟨n1, rfl, rfl, rfl, g1⟩ := open_int Try.underlying2 (hval 1 2 v1 rfl rfl) h1
  obtain ⟨b2, rfl, rfl, rfl, g2⟩ := open_float Try.underlying32 (hval 2 32 v2 rfl rfl) h2
  obtain ⟨b3, rfl, rfl, rfl, g3⟩ := open_float Try.underlying32 (hval 3 32 v3 rfl rfl) h3
  obtain ⟨b4, rfl, rfl, rfl, g4⟩ := open_float Try.underlying32 (hval 4 32 v4 rfl rfl) h4
  obtain ⟨b5, rfl, rfl, rfl, g5⟩ := open_float Try.underlying32 (hval 5 32 v5 rfl rfl) h5
  clear hA0 hval0
  simp only [List.append_nil, List.nil_append, List.append_assoc] at hW'
  have hlt : ∀ x ∈ (([] : List MemPlace)), x.block < W.heap.size := fun x hx => by simpa using hW'.lt x hx
  have hsat := (sat_nil W)
  refine (spec_run (s12 n0 n1 (cn .f32 b2) (cn .f32 b3) (cn .f32 b4) (cn .f32 b5)) Try.func12 rfl (by kernel_rfl) (us := [.int .i64 n0, .int .i64 n1, .float .f32 b2, .float .f32 b3, .float .f32 b4, .float .f32 b5]) hsat ⟨rfl, rfl, ⟨b2, rfl, rfl, by simpa [Lit.wf, wd] using g2⟩, ⟨b3, rfl, rfl, by simpa [Lit.wf, wd] using g3⟩, ⟨b4, rfl, rfl, by simpa [Lit.wf, wd] using g4⟩, ⟨b5, rfl, rfl, by simpa [Lit.wf, wd] using g5⟩, trivial⟩).mono fun e W' ⟨v, he, σ', hs', hv, hf⟩ => ?_
  have hv : v = .bool true := hv
  subst he; subst hv
  have hb := below_of hf rfl
  refine ⟨_, rfl, _, _, _, [], (([] : List MemPlace)), [], hW', ?_, ?_, rfl, hb.frame _, fun h => by cases h⟩
  · exact trodAll_mk1 (shut_bool Try.underlying4 true)
  · have key : DataW.TrodAll enc Try.prog W' 0 (fun b => decide (b < W.heap.size)) true [2, 2, 32, 32, 32, 32] [.int .i64 n0, .int .i64 n1, .float .f32 b2, .float .f32 b3, .float .f32 b4, .float .f32 b5] [.lit (.int .i64 n0), .lit (.int .i64 n1), .lit (.float .f32 b2), .lit (.float .f32 b3), .lit (.float .f32 b4), .lit (.float .f32 b5)] _ := (trodAll_cons_mk (shut_int Try.underlying2 g0) (trodAll_cons_mk (shut_int Try.underlying2 g1) (trodAll_cons_mk (shut_float Try.underlying32 g2) (trodAll_cons_mk (shut_float Try.underlying32 g3) (trodAll_cons_mk (shut_float Try.underlying32 g4) (trodAll_cons_mk (shut_float Try.underlying32 g5) trodAll_mk0))))))
    (try simp only [List.append_nil, List.nil_append, List.append_assoc] at key)
    exact key

theorem closed12 : joinedFacts Try.prog 12 Try.f12 Rows.fnExactBlobBasinSpec Rows.fnExactBlobBasinRow = true := by
  unfold joinedFacts
  rewrite [io3, io4, io5]
  kernel_rfl

theorem blobBasin_holds : Rows.FnExactBlobBasinSaid :=
  OpenClaim.holds_of_wide 12 Try.f12 rfl rfl rfl rfl rfl rfl rfl ⟨rfl, rfl, rfl, rfl, rfl⟩ rfl rfl rfl rfl rfl (by kernel_rfl) Try.func12 closed12
    (of_decide_eq_true (by kernel_rfl)) (by unfold Func.isWrapper; rw [if_neg (of_decide_eq_false (by kernel_rfl))]; exact ⟨rfl, rfl⟩)
    (fun os started H enc _ => lifted12 os started H enc)
end Go.Proofs.Ytojajegjmjmekaa
