/- The law returns true whatever the input, and the input reads as it did: no condition. -/
import Derived.Test.YtojajegjmjmekaaB23
import Derived.Test.YtojajegjmjmekaaBJ
import Derived.Test.YtojajegjmjmekaaBK
set_option linter.unusedVariables false
set_option linter.unusedSimpArgs false
namespace Go.Proofs.Ytojajegjmjmekaa
open Go.ChangeShapes Go.WideShapes Go.ChangeAt Go.RowKit Go.AX Go.Proofs

set_option maxRecDepth 100000 in
theorem lifted14 (os : Os) (started : os.Started) (H : Type) (enc : TypeId × Value → H) :
    ReturnsInHanded {} Try.checked os 14 .any (Rows.fnExactRunBasinSpec.pre6 enc Try.prog Try.f14 Rows.fnExactRunBasinRow.domain false) (Rows.fnExactRunBasinSpec.post enc Try.prog Try.f14 false true false false) := by
  refine returnsInHanded_of_change (C := Try.checked) Go.AX.Try.own started (by kernel_rfl) Try.func14
    (ChangeSpec.witness6 (enc := enc) (C := Try.checked) false ⟨#[], #[.agg #[.int .i64 0, .int .i64 0, .slice none 0 0], .float .f32 0, .float .f32 0, .int .i64 0, .int .i64 0], []⟩ 8 (by kernel_rfl) (by kernel_rfl) (by kernel_rfl) (by kernel_rfl)) ?_
  intro W base args ds gs before hval0 hW hcnd _
  have hval : ∀ (j : Nat) t v, Try.f14.params[j]? = some t → args[j]? = some v → Value.okWide Try.prog W .any base t v := hval0
  have hW' := hW
  obtain ⟨p, q, hA0, hV, rfl, hfz, hnd⟩ := hW
  have hA : DataW.TrodAll enc Try.prog W 0 (fun _ => true) true Try.f14.params.toList args.toList ds p := hA0
  rw [Try.params14] at hA hval
  obtain ⟨v0, vr0, d0, dr0, p0, q0, a0, rfl, rfl, h0, hr0⟩ := trodAll_cons hA
  obtain ⟨v1, vr1, d1, dr1, p1, q1, a1, rfl, rfl, h1, hr1⟩ := trodAll_cons hr0
  obtain ⟨v2, vr2, d2, dr2, p2, q2, a2, rfl, rfl, h2, hr2⟩ := trodAll_cons hr1
  obtain ⟨v3, vr3, d3, dr3, p3, q3, a3, rfl, rfl, h3, hr3⟩ := trodAll_cons hr2
  obtain ⟨v4, vr4, d4, dr4, p4, q4, a4, rfl, rfl, h4, hr4⟩ := trodAll_cons hr3
  obtain ⟨ar, rfl, rfl⟩ := trodAll_nil hr4
  subst ar
  subst a4
  subst a3
  subst a2
  subst a1
  obtain rfl : args = #[v0, v1, v2, v3, v4] := by cases args; simp_all
  obtain ⟨rfl, rfl⟩ := trodVars_none hV
  obtain ⟨w0, k0, xs0, sl0, e0, r0, s0⟩ := open_basin (hval 0 24 v0 rfl rfl) h0
  obtain ⟨b1, rfl, rfl, rfl, g1⟩ := open_float Try.underlying32 (hval 1 32 v1 rfl rfl) h1
  obtain ⟨b2, rfl, rfl, rfl, g2⟩ := open_float Try.underlying32 (hval 2 32 v2 rfl rfl) h2
  obtain ⟨n3, rfl, rfl, rfl, g3⟩ := open_int Try.underlying2 (hval 3 2 v3 rfl rfl) h3
  obtain ⟨n4, rfl, rfl, rfl, g4⟩ := open_int Try.underlying2 (hval 4 2 v4 rfl rfl) h4
  clear hA0 hval0
  simp only [List.append_nil, List.nil_append, List.append_assoc] at hW'
  have hlt : ∀ x ∈ (p0), x.block < W.heap.size := fun x hx => by simpa using hW'.lt x hx
  have hsat := (sat_add (T := 32) (sat_nil W) rfl r0)
  refine (spec_run (s14 false xs0 w0 k0 (cn .f32 b1) (cn .f32 b2) n3 n4) Try.func14 rfl (by kernel_rfl) (us := [v0, .float .f32 b1, .float .f32 b2, .int .i64 n3, .int .i64 n4]) hsat ⟨by rw [e0]; exact rel_basin rfl s0, ⟨b1, rfl, rfl, by simpa [Lit.wf, wd] using g1⟩, ⟨b2, rfl, rfl, by simpa [Lit.wf, wd] using g2⟩, rfl, rfl, trivial⟩).mono fun e W' ⟨v, he, σ', hs', hv, hf⟩ => ?_
  have hv : v = .bool true := hv
  subst he; subst hv
  have hb := below_of hf rfl
  refine ⟨_, rfl, _, _, _, [], (p0), [], hW', ?_, ?_, rfl, hb.frame _, fun h => by cases h⟩
  · exact trodAll_mk1 (shut_bool Try.underlying4 true)
  · have key : DataW.TrodAll enc Try.prog W' 0 (fun b => decide (b < W.heap.size)) true [24, 32, 32, 2, 2] [v0, .float .f32 b1, .float .f32 b2, .int .i64 n3, .int .i64 n4] [d0, .lit (.float .f32 b1), .lit (.float .f32 b2), .lit (.int .i64 n3), .lit (.int .i64 n4)] _ := (trodAll_cons_mk (keeps24 h0 hb fun x hx => hlt x (by simp [hx])) (trodAll_cons_mk (shut_float Try.underlying32 g1) (trodAll_cons_mk (shut_float Try.underlying32 g2) (trodAll_cons_mk (shut_int Try.underlying2 g3) (trodAll_cons_mk (shut_int Try.underlying2 g4) trodAll_mk0)))))
    (try simp only [List.append_nil, List.nil_append, List.append_assoc] at key)
    exact key

theorem closed14 : joinedFacts Try.prog 14 Try.f14 Rows.fnExactRunBasinSpec Rows.fnExactRunBasinRow = true := by
  unfold joinedFacts
  rewrite [io3, io4, io5]
  kernel_rfl

theorem runBasin_holds : Rows.FnExactRunBasinSaid :=
  OpenClaim.holds_of_wide 14 Try.f14 rfl rfl rfl rfl rfl rfl rfl ⟨rfl, rfl, rfl, rfl, rfl⟩ rfl rfl rfl rfl rfl (by kernel_rfl) Try.func14 closed14
    (of_decide_eq_true (by kernel_rfl)) (by unfold Func.isWrapper; rw [if_neg (of_decide_eq_false (by kernel_rfl))]; exact ⟨rfl, rfl⟩)
    (fun os started H enc _ => lifted14 os started H enc)
end Go.Proofs.Ytojajegjmjmekaa
