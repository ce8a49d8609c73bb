/- What the functions of this program do, one contract a function, by that walk: each under what its own statement says. -/
import Derived.Test.YtojajegjmjmekaaB2
set_option linter.unusedVariables false
set_option linter.unusedSimpArgs false
namespace Go.AX
noncomputable section
open Go.RowKit Go.Proofs
set_option maxRecDepth 100000
set_option maxHeartbeats 4000000

theorem sz_le {n : Nat} (h : decide (sz 1048576 n < 0) = false) (hm : n ≤ maxLen) : n ≤ 1048576 := by
  have h := of_decide_eq_false h
  have hml : maxLen = 9223372036854775807 := by decide
  unfold sz at h
  rw [wr64 (by omega) (by omega)] at h
  split at h <;> omega
theorem bnn {b : Bool} {p : Prop} (h : (!(b == b)) = true) : p := by simp at h

theorem s3 (o : Bool) (xs : List Nat) (w h : Int) : SP 3 [ar o xs] [bas w h 0] [ar o xs] (exb true) := by
  refine spec_of_code (fn := Try.f3) tyOK mixes Try.func3 rfl rfl rfl ⟨.inl rfl, rfl⟩ fun hg => ?_
  refine ⟨rfl, _, _, s25 _ _ _ _ _, ?_⟩
  refine And.intro (fun h0 => ?_) (fun h0 => ?_)
  · exact ⟨[], rfl, rfl, rfl⟩
  · have hn : xs.length ≤ 1048576 := sz_le h0 hg.1.1.1
    refine ⟨rfl, _, _, s27 _ _ hn _ _, ?_⟩
    refine ⟨rfl, _, _, s26 _ _ _ _, ?_⟩
    refine ⟨rfl, _, _, s27 _ _ hn _ _, ?_⟩
    refine ⟨rfl, _, _, s28 _ _ _ _, ?_⟩
    refine And.intro (fun h1 => ?_) (fun h1 => ?_)
    · exact bnn h1
    · refine Or.inl ⟨3, [0, 1, 2], by kernel_rfl, ?_⟩
      refine ⟨rfl, _, _, s27 _ _ hn _ _, rfl, ?_⟩
      refine ⟨rfl, _, _, s29 _ _ _ _ _, ?_⟩
      refine And.intro (fun h2 => ?_) (fun h2 => ?_)
      · exact nomatch h2
      · exact ⟨[], rfl, rfl, rfl⟩

end
end Go.AX