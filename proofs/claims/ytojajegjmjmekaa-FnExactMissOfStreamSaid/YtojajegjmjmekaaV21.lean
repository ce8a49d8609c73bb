/- The law returns true whatever the input, and the input reads as it did: no condition. -/
import Derived.Test.YtojajegjmjmekaaB18
import Derived.Test.YtojajegjmjmekaaBJ
import Derived.Test.YtojajegjmjmekaaBK
set_option linter.unusedVariables false
set_option linter.unusedSimpArgs false
namespace Go.Proofs.Ytojajegjmjmekaa
open Go.ChangeShapes Go.WideShapes Go.ChangeAt Go.RowKit Go.AX Go.Proofs

set_option maxRecDepth 100000 in
theorem lifted21 (os : Os) (started : os.Started) (H : Type) (enc : TypeId × Value → H) :
    ReturnsInHanded {} Try.checked os 21 .any (Rows.fnExactMissOfStreamSpec.pre6 enc Try.prog Try.f21 Rows.fnExactMissOfStreamRow.domain false) (Rows.fnExactMissOfStreamSpec.post enc Try.prog Try.f21 false true false false) := by
  refine returnsInHanded_of_change (C := Try.checked) Go.AX.Try.own started (by kernel_rfl) Try.func21
    (ChangeSpec.witness6 (enc := enc) (C := Try.checked) false ⟨#[], #[.agg #[.int .i64 0, .int .i64 0, .slice none 0 0], .agg #[.int .i64 0, .int .i64 0, .slice none 0 0]], []⟩ 8 (by kernel_rfl) (by kernel_rfl) (by kernel_rfl) (by kernel_rfl)) ?_
  intro W base args ds gs before hval0 hW hcnd _
  have hval : ∀ (j : Nat) t v, Try.f21.params[j]? = some t → args[j]? = some v → Value.okWide Try.prog W .any base t v := hval0
  have hW' := hW
  obtain ⟨p, q, hA0, hV, rfl, hfz, hnd⟩ := hW
  have hA : DataW.TrodAll enc Try.prog W 0 (fun _ => true) true Try.f21.params.toList args.toList ds p := hA0
  rw [Try.params21] at hA hval
  obtain ⟨v0, v1, d0, d1, p0, p1, rfl, rfl, rfl, h0, h1⟩ := trodAll_two hA
  obtain ⟨rfl, rfl⟩ := trodVars_none hV
  obtain ⟨w0, k0, xs0, sl0, e0, r0, s0⟩ := open_basin (hval 0 24 v0 rfl rfl) h0
  obtain ⟨w1, k1, xs1, sl1, e1, r1, s1⟩ := open_basin (hval 1 24 v1 rfl rfl) h1
  clear hA0 hval0
  simp only [List.append_nil, List.nil_append, List.append_assoc] at hW'
  have hlt : ∀ x ∈ (p0 ++ (p1)), x.block < W.heap.size := fun x hx => by simpa using hW'.lt x hx
  have hsat := (sat_add (T := 32) (sat_add (T := 32) (sat_nil W) rfl r0) rfl r1)
  refine (spec_run (s21 false false xs0 xs1 w0 k0 w1 k1) Try.func21 rfl (by kernel_rfl) (us := [v0, v1]) hsat ⟨by rw [e0]; exact rel_basin rfl s0, by rw [e1]; exact rel_basin rfl s1, trivial⟩).mono fun e W' ⟨v, he, σ', hs', hv, hf⟩ => ?_
  have hv : v = .bool true := hv
  subst he; subst hv
  have hb := below_of hf rfl
  refine ⟨_, rfl, _, _, _, [], (p0 ++ (p1)), [], hW', ?_, ?_, rfl, hb.frame _, fun h => by cases h⟩
  · exact trodAll_mk1 (shut_bool Try.underlying4 true)
  · have key : DataW.TrodAll enc Try.prog W' 0 (fun b => decide (b < W.heap.size)) true [24, 24] [v0, v1] [d0, d1] _ := trodAll_mk2 (keeps24 h0 hb fun x hx => hlt x (by simp [hx])) (keeps24 h1 hb fun x hx => hlt x (by simp [hx]))
    (try simp only [List.append_nil, List.nil_append, List.append_assoc] at key)
    exact key

theorem closed21 : joinedFacts Try.prog 21 Try.f21 Rows.fnExactMissOfStreamSpec Rows.fnExactMissOfStreamRow = true := by
  unfold joinedFacts
  rewrite [io3, io4, io5]
  kernel_rfl

theorem missOfStream_holds : Rows.FnExactMissOfStreamSaid :=
  OpenClaim.holds_of_wide 21 Try.f21 rfl rfl rfl rfl rfl rfl rfl ⟨rfl, rfl, rfl, rfl, rfl⟩ rfl rfl rfl rfl rfl (by kernel_rfl) Try.func21 closed21
    (of_decide_eq_true (by kernel_rfl)) (by unfold Func.isWrapper; rw [if_neg (of_decide_eq_false (by kernel_rfl))]; exact ⟨rfl, rfl⟩)
    (fun os started H enc _ => lifted21 os started H enc)
end Go.Proofs.Ytojajegjmjmekaa
