/- What the functions of this program do, one contract a function, by that walk: each under what its own statement says. -/
import Derived.Test.YtfhgggjpdimaoaaSqC2
import Derived.Test.YtfhgggjpdimaoaaSqAxQ
set_option linter.unusedVariables false
set_option linter.unusedSimpArgs false
namespace Go.AX
noncomputable section
open Go.RowKit Go.Proofs
set_option maxRecDepth 100000
set_option maxHeartbeats 4000000
open Go
/-! Square systems: the smaller functions -/


theorem andN_abs {b : Nat} (h : b < 4294967296) : (andNI .u32 (b : Int) 2147483648).toNat = b % 2147483648 := by
  unfold andNI
  have e : (BitVec.ofInt IntKind.u32.bits (b : Int) &&& ~~~(BitVec.ofInt IntKind.u32.bits 2147483648)).toNat = b % 2147483648 := by
    show (BitVec.ofInt 32 (b : Int) &&& ~~~(BitVec.ofInt 32 2147483648)).toNat = b % 2147483648
    rw [BitVec.toNat_and, show (~~~(BitVec.ofInt 32 2147483648)).toNat = 2147483648 - 1 from by decide]
    rw [show (BitVec.ofInt 32 (b : Int)).toNat = b from by rw [BitVec.toNat_ofInt]; omega]
    exact Nat.and_two_pow_sub_one_eq_mod b 31
  rw [e]
  have : IntKind.u32.wrap ((b % 2147483648 : Nat) : Int) = ((b % 2147483648 : Nat) : Int) := by
    have : b % 2147483648 < 2147483648 := Nat.mod_lt _ (by omega)
    generalize b % 2147483648 = r at this
    show (r : Int) % 4294967296 = r
    omega
  rw [this]; rfl
theorem extern92 (b : Nat) (w : World) : (callFunc 92 #[.float .f32 b]).run Try.prog w = .ok (.value (.int .u32 b)) w := by
  rw [run_callFunc_extern (e := Extern.MathFloatBits.float32bits) Try.func92 (by kernel_rfl) rfl (by kernel_rfl) (by kernel_rfl)]
  rfl
theorem s92e (b : Nat) : SP 92 [] [.one (.ex (.float .f32 b))] [] (.v (.one (.ex (.int .u32 b)))) := by
  refine ⟨rfl, fun w σ us hs hr => .inr ?_⟩
  match us, hr with
  | [u], ⟨hu, _⟩ =>
    cases hu
    exact ⟨_, w, extern92 b w, σ, hs, rfl, Fr.refl _ _ _⟩
theorem extern91 (n : Int) (w : World) : (callFunc 91 #[.int .u32 n]).run Try.prog w = .ok (.value (.float .f32 n.toNat)) w := by
  rw [run_callFunc_extern (e := Extern.MathFloatBits.float32frombits) Try.func91 (by kernel_rfl) rfl (by kernel_rfl) (by kernel_rfl)]
  rfl
theorem s91e (n : Int) : SP 91 [] [.one (.ex (.int .u32 n))] [] (.v (.one (.ex (.float .f32 n.toNat)))) := by
  refine ⟨rfl, fun w σ us hs hr => .inr ?_⟩
  match us, hr with
  | [u], ⟨hu, _⟩ =>
    cases hu
    exact ⟨_, w, extern91 n w, σ, hs, rfl, Fr.refl _ _ _⟩

theorem s53 (o : Bool) (xs : List Nat) (h0 : 0 < xs.length) (hn : xs.length ≤ 1048576) : SP 53 [ar o xs] [.one (.sl 0)] [ar o xs, ar true xs] (one (.sl 1)) := by
  refine spec_of_codeR (fn := Try.f53) tyOK mixes Try.func53 rfl rfl rfl ⟨.inl rfl, rfl⟩ fun hg R0 hR => ?_
  refine c_seq fun NN1 nn1 => ?_
  refine c_region fun KK2 kk2 => ?_
  refine n_of (N' := KK2) kk2 ?_
  refine n_of (N' := NN1) nn1 ?_
  refine c_seq fun NN3 nn3 => ?_
  refine c_seq fun NN4 nn4 => ?_
  refine c_region fun KK5 kk5 => ?_
  refine And.intro ?_ ?_
  · ((try dsimp only); (try simp only [Dat.len, Int.toNat_natCast, List.nil_append, List.length_replicate]); omega)   -- 0 nonnil
  refine n_of (N' := KK5) kk5 ?_
  refine n_of (N' := NN4) nn4 ?_
  refine c_cond rfl (fun h => nomatch h) (fun _ => ?_)
  refine c_skip ?_
  refine n_of (N' := NN3) nn3 ?_
  refine c_seq fun NN6 nn6 => ?_
  refine c_region fun KK7 kk7 => ?_
  refine And.intro ?_ ?_
  · (refine ⟨?_, by decide⟩; (try dsimp only); (try simp only [Dat.len, Int.toNat_natCast, List.nil_append, List.length_replicate]); omega)   -- 1 append
  refine n_of (N' := KK7) kk7 ?_
  refine n_of (N' := NN6) nn6 ?_
  refine c_ret ?_
  refine n_of (N' := R0) hR ?_
  exact ⟨[], rfl, rfl, rfl⟩

theorem s78e (b : Nat) (hb : b < 4294967296) : SP 78 [] [.one (.ex (.float .f32 b))] [] (.v (.one (.ex (.float .f32 (b % 2147483648))))) := by
  refine spec_of_codeR (fn := Try.f78) tyOK mixes Try.func78 rfl rfl rfl rfl fun hg R0 hR => ?_
  refine c_seq fun NN1 nn1 => ?_
  refine c_region fun KK2 kk2 => ?_
  refine n_of (N' := KK2) kk2 ?_
  refine n_of (N' := NN1) nn1 ?_
  refine c_seq fun NN3 nn3 => ?_
  refine c_region fun KK4 kk4 => ?_
  refine ⟨rfl, _, _, s92e _, ?_⟩
  refine ⟨rfl, _, _, s91e _, ?_⟩
  refine n_of (N' := KK4) kk4 ?_
  refine n_of (N' := NN3) nn3 ?_
  refine c_ret ?_
  refine n_of (N' := R0) hR ?_
  exact ⟨[], rfl, rfl, congrArg (fun z => AV.v (.one (.ex (.float .f32 z)))) (andN_abs hb)⟩

theorem s78 (x : Nat) : SP 78 [] [f32 x] [] (fl32 (fabs x)) := by
  refine ⟨rfl, fun w σ us hs hr => ?_⟩
  match us, hr with
  | [u], ⟨⟨b, hu, hb⟩, _⟩ =>
    subst hu
    rcases (s78e b hb.2).2 w σ [.float .f32 b] hs ⟨rfl, trivial⟩ with ⟨h1, h2⟩ | ⟨v, w', hc, σ', hs', hv, hf⟩
    · refine .inl ⟨h1, h2.mono fun e w' => ?_⟩
      rintro ⟨v, he, σ', hs', hv, hf⟩
      exact ⟨v, he, σ', hs', ⟨_, hv, IsF.abs hb⟩, hf⟩
    · exact .inr ⟨v, w', hc, σ', hs', ⟨_, hv, IsF.abs hb⟩, hf⟩

theorem s75 (x : Nat) : SP 75 [] [f32 x] [] (fl32 (absv x)) := by
  refine spec_of_codeR (fn := Try.f75) tyOK mixes Try.func75 rfl rfl rfl rfl fun hg R0 hR => ?_
  refine c_seq fun NN1 nn1 => ?_
  refine c_region fun KK2 kk2 => ?_
  refine n_of (N' := KK2) kk2 ?_
  refine n_of (N' := NN1) nn1 ?_
  refine c_seq fun NN3 nn3 => ?_
  refine c_seq fun NN4 nn4 => ?_
  refine c_region fun KK5 kk5 => ?_
  refine n_of (N' := KK5) kk5 ?_
  refine n_of (N' := NN4) nn4 ?_
  refine c_cond rfl (fun h0 => ?_) (fun h0 => ?_)
  · skip
    refine c_seq fun NN6 nn6 => ?_
    refine c_region fun KK7 kk7 => ?_
    refine n_of (N' := KK7) kk7 ?_
    refine n_of (N' := NN6) nn6 ?_
    refine c_ret ?_
    refine n_of (N' := R0) hR ?_
    exact ⟨[], rfl, rfl, congrArg fl32 (by unfold absv; rw [h0]; rfl)⟩
  · skip
    refine c_skip ?_
    refine n_of (N' := NN3) nn3 ?_
    refine c_seq fun NN8 nn8 => ?_
    refine c_region fun KK9 kk9 => ?_
    refine n_of (N' := KK9) kk9 ?_
    refine n_of (N' := NN8) nn8 ?_
    refine c_ret ?_
    refine n_of (N' := R0) hR ?_
    exact ⟨[], rfl, rfl, congrArg fl32 (by unfold absv; rw [h0]; rfl)⟩

theorem s50 (o : Bool) (xs : List Nat) : SP 50 [ar o xs] [.one (.sl 0)] [ar o xs] (exb (xs.all finB)) := by
  refine spec_of_codeR (fn := Try.f50) tyOK mixes Try.func50 rfl rfl rfl ⟨.inl rfl, rfl⟩ fun hg R0 hR => ?_
  have hlen : xs.length ≤ maxLen := hg.1.1.1
  have hml : maxLen = 9223372036854775807 := by decide
  refine c_seq fun NN1 nn1 => ?_
  refine c_region fun KK2 kk2 => ?_
  refine n_of (N' := KK2) kk2 ?_
  refine n_of (N' := NN1) nn1 ?_
  refine c_seq fun NN3 nn3 => ?_
  refine c_seq fun NN4 nn4 => ?_
  refine c_region fun KK5 kk5 => ?_
  refine n_of (N' := KK5) kk5 ?_
  refine n_of (N' := NN4) nn4 ?_
  refine c_block fun XX6 xx6 => ?_
  refine loop_keep [] [0, 5] (ι := { i : Nat // i ≤ xs.length ∧ ∀ j, j < i → finB (xs.getD j 0) = true }) (fun i => [(6, exi .i64 i.1)]) (fun i => []) (fun i => xs.length - i.1) ⟨0, Nat.zero_le _, fun j hj => absurd hj (Nat.not_lt_zero j)⟩ trivial rfl ?_
  refine ⟨?_, ?_, ?_⟩
  · exact ⟨.inr rfl, trivial⟩
  · exact ⟨rfl, trivial⟩
  refine fun ⟨i, hi, hx⟩ NL7 nl7 => ?_
  refine c_norm rfl rfl ?_
  refine c_seq fun NN8 nn8 => ?_
  refine c_region fun KK9 kk9 => ?_
  refine n_of (N' := KK9) kk9 ?_
  refine n_of (N' := NN8) nn8 ?_
  refine c_seq fun NN10 nn10 => ?_
  refine c_cond rfl (fun h0 => ?_) (fun h0 => ?_)
  · skip
    have q0 := of_decide_eq_true h0
    (try dsimp only at q0)
    (try simp only [Dat.len] at q0)
    refine c_skip ?_
    refine n_of (N' := NN10) nn10 ?_
    refine c_seq fun NN11 nn11 => ?_
    refine c_block fun XX12 xx12 => ?_
    refine c_seq fun NN13 nn13 => ?_
    refine c_region fun KK14 kk14 => ?_
    refine n_of (N' := KK14) kk14 ?_
    refine n_of (N' := NN13) nn13 ?_
    refine c_seq fun NN15 nn15 => ?_
    refine c_region fun KK16 kk16 => ?_
    refine And.intro ?_ ?_
    · ((try dsimp only); (try simp only [Dat.len, Int.toNat_natCast]); omega)   -- 0 index
    refine And.intro ?_ ?_
    · ((try dsimp only); (try simp only [Dat.len, Int.toNat_natCast]); omega)   -- 1 load
    refine ⟨rfl, _, _, s64 _, ?_⟩
    refine n_of (N' := KK16) kk16 ?_
    refine n_of (N' := NN15) nn15 ?_
    refine c_cond rfl (fun h1 => ?_) (fun h1 => ?_)
    · skip
      refine c_seq fun NN17 nn17 => ?_
      refine c_region fun KK18 kk18 => ?_
      refine n_of (N' := KK18) kk18 ?_
      refine n_of (N' := NN17) nn17 ?_
      refine c_ret ?_
      refine n_of (N' := R0) hR ?_
      exact ⟨[], rfl, rfl, congrArg exb (all_not 0 (i := i) (by omega) (not_t h1)).symm⟩
    · skip
      refine c_skip ?_
      refine n_of (N' := NN11) nn11 ?_
      refine c_region fun KK19 kk19 => ?_
      refine n_of (N' := KK19) kk19 ?_
      refine n_of (N' := NL7) nl7 ?_
      refine ⟨⟨i + 1, by omega, fun j hj => (Nat.lt_or_eq_of_le (Nat.le_of_lt_succ hj)).elim (hx j) (fun e => by subst e; exact (not_f h1))⟩, ?_, [0], rfl, ?_, ?_⟩
      · (dsimp only; omega)
      · exact LEq.eq ⟨rfl, trivial⟩
      · exact ⟨.inr (congrArg (exi .i64) (wr64 (n := (i : Int) + 1) (by omega) (by omega))), .inr rfl, .inr rfl, trivial⟩
  · skip
    have q0 := of_decide_eq_false h0
    (try dsimp only at q0)
    (try simp only [Dat.len] at q0)
    refine c_exit ?_
    refine x_here xx6 ?_
    refine n_of (N' := NN3) nn3 ?_
    refine c_seq fun NN20 nn20 => ?_
    refine c_region fun KK21 kk21 => ?_
    refine n_of (N' := KK21) kk21 ?_
    refine n_of (N' := NN20) nn20 ?_
    refine c_ret ?_
    refine n_of (N' := R0) hR ?_
    exact ⟨[], rfl, rfl, congrArg exb (all_of 0 fun j hj => hx j (by omega)).symm⟩

end
end Go.AX
