/- The law returns true whatever the input, and the input reads as it did: no condition. -/
import Derived.Test.YtojajegjmjmekaaB21
import Derived.Test.YtojajegjmjmekaaBJ
import Derived.Test.YtojajegjmjmekaaBK
set_option linter.unusedVariables false
set_option linter.unusedSimpArgs false
namespace Go.Proofs.Ytojajegjmjmekaa
open Go.ChangeShapes Go.WideShapes Go.ChangeAt Go.RowKit Go.AX Go.Proofs

set_option maxRecDepth 100000 in
theorem lifted23 (os : Os) (started : os.Started) (H : Type) (enc : TypeId × Value → H) :
    ReturnsInHanded {} Try.checked os 23 .any (Rows.fnExactCarryBasinSpec.pre6 enc Try.prog Try.f23 Rows.fnExactCarryBasinRow.domain false) (Rows.fnExactCarryBasinSpec.post enc Try.prog Try.f23 false true false false) := by
  refine returnsInHanded_of_change (C := Try.checked) Go.AX.Try.own started (by kernel_rfl) Try.func23
    (ChangeSpec.witness6 (enc := enc) (C := Try.checked) false ⟨#[], #[.agg #[.int .i64 0, .int .i64 0, .slice none 0 0], .agg #[.int .i64 0, .int .i64 0, .slice none 0 0], .agg #[.int .i64 0, .int .i64 0, .slice none 0 0], .float .f32 0], []⟩ 8 (by kernel_rfl) (by kernel_rfl) (by kernel_rfl) (by kernel_rfl)) ?_
  intro W base args ds gs before hval0 hW hcnd _
  have hval : ∀ (j : Nat) t v, Try.f23.params[j]? = some t → args[j]? = some v → Value.okWide Try.prog W .any base t v := hval0
  have hW' := hW
  obtain ⟨p, q, hA0, hV, rfl, hfz, hnd⟩ := hW
  have hA : DataW.TrodAll enc Try.prog W 0 (fun _ => true) true Try.f23.params.toList args.toList ds p := hA0
  rw [Try.params23] at hA hval
  obtain ⟨v0, v1, v2, v3, d0, d1, d2, d3, p0, p1, p2, p3, rfl, rfl, rfl, h0, h1, h2, h3⟩ := trodAll_four hA
  obtain ⟨rfl, rfl⟩ := trodVars_none hV
  obtain ⟨w0, k0, xs0, sl0, e0, r0, s0⟩ := open_basin (hval 0 24 v0 rfl rfl) h0
  obtain ⟨w1, k1, xs1, sl1, e1, r1, s1⟩ := open_basin (hval 1 24 v1 rfl rfl) h1
  obtain ⟨w2, k2, xs2, sl2, e2, r2, s2⟩ := open_basin (hval 2 24 v2 rfl rfl) h2
  obtain ⟨b3, rfl, rfl, rfl, g3⟩ := open_float Try.underlying32 (hval 3 32 v3 rfl rfl) h3
  clear hA0 hval0
  simp only [List.append_nil, List.nil_append, List.append_assoc] at hW'
  have hlt : ∀ x ∈ (p0 ++ (p1 ++ (p2))), x.block < W.heap.size := fun x hx => by simpa using hW'.lt x hx
  have hsat := (sat_add (T := 32) (sat_add (T := 32) (sat_add (T := 32) (sat_nil W) rfl r0) rfl r1) rfl r2)
  refine (spec_run (s23 _ _ _ xs0 xs1 xs2 w0 k0 w1 k1 w2 k2 (cn .f32 b3)) Try.func23 rfl (by kernel_rfl) (us := [v0, v1, v2, .float .f32 b3]) hsat ⟨by rw [e0]; exact rel_basin rfl s0, by rw [e1]; exact rel_basin rfl s1, by rw [e2]; exact rel_basin rfl s2, ⟨b3, rfl, rfl, by simpa [Lit.wf, wd] using g3⟩, trivial⟩).mono fun e W' ⟨v, he, σ', hs', hv, hf⟩ => ?_
  have hv : v = .bool true := hv
  subst he; subst hv
  have hb := below_of hf rfl
  refine ⟨_, rfl, _, _, _, [], (p0 ++ (p1 ++ (p2))), [], hW', ?_, ?_, rfl, hb.frame _, fun h => by cases h⟩
  · exact trodAll_mk1 (shut_bool Try.underlying4 true)
  · have key : DataW.TrodAll enc Try.prog W' 0 (fun b => decide (b < W.heap.size)) true [24, 24, 24, 32] [v0, v1, v2, .float .f32 b3] [d0, d1, d2, .lit (.float .f32 b3)] _ := trodAll_mk4 (keeps24 h0 hb fun x hx => hlt x (by simp [hx])) (keeps24 h1 hb fun x hx => hlt x (by simp [hx])) (keeps24 h2 hb fun x hx => hlt x (by simp [hx])) (shut_float Try.underlying32 g3)
    (try simp only [List.append_nil, List.nil_append, List.append_assoc] at key)
    exact key

theorem closed23 : joinedFacts Try.prog 23 Try.f23 Rows.fnExactCarryBasinSpec Rows.fnExactCarryBasinRow = true := by
  unfold joinedFacts
  rewrite [io3, io4, io5]
  kernel_rfl

theorem carryBasin_holds : Rows.FnExactCarryBasinSaid :=
  OpenClaim.holds_of_wide 23 Try.f23 rfl rfl rfl rfl rfl rfl rfl ⟨rfl, rfl, rfl, rfl, rfl⟩ rfl rfl rfl rfl rfl (by kernel_rfl) Try.func23 closed23
    (of_decide_eq_true (by kernel_rfl)) (by unfold Func.isWrapper; rw [if_neg (of_decide_eq_false (by kernel_rfl))]; exact ⟨rfl, rfl⟩)
    (fun os started H enc _ => lifted23 os started H enc)
end Go.Proofs.Ytojajegjmjmekaa
