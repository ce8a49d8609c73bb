/- What the functions of this program do, one contract a function, by that walk: each under what its own statement says. -/
import Derived.Test.YtfhgggjpdimaoaaSqE11
set_option linter.unusedVariables false
set_option linter.unusedSimpArgs false
namespace Go.AX
noncomputable section
open Go.RowKit Go.Proofs
set_option maxRecDepth 100000
set_option maxHeartbeats 4000000
open Go

/-! ## The rows made, and the whole elimination -/

abbrev envM (N x : Nat) : List (Nat × AV) := [(1, one (.sl 2)), (6, exi .i64 (N : Int)), (7, one (.sw 4 N (N + x)))]
theorem elim_ok {l0 l1 l3 : List Nat} {b : BB} {F : FF} {N x : Nat} (hN : N ≤ 16) {Nx : St → Prop} {X : Nat → St → Prop} {R : St → Prop}
    (hT : ∀ G g, elim F b N N = some (G, g) → ∀ e, LeEnvS e (envM N x) → Nx ⟨e, full l0 l1 (bld g N) l3 (mat G N) x⟩)
    (hF : ∀ k G g, elim F b N k = some (G, g) → k < N → pOK G k N = false → ∀ e, LeEnvS e envNo → R ⟨e, full l0 l1 (bld g N) l3 (mat G N) x⟩) :
    CodeOK Try.prog 208 2 cElim ⟨envM N x, full l0 l1 (bld b N) l3 (mat F N) x⟩ Nx X R := by
  refine k_seq fun N3 n3 => ?_
  refine k_code tyOK mixes ?_
  refine c_region fun K4 k4 => ?_
  refine n_of (N' := K4) k4 ?_
  refine n_of (N' := N3) n3 ?_
  refine k_block fun X5 x5 => ?_
  refine k_loop (ι := { S : Nat × FF × BB // S.1 ≤ N ∧ elim F b N S.1 = some (S.2.1, S.2.2) }) (fun i => ⟨envL N x i.1.1, full l0 l1 (bld i.1.2.2 N) l3 (mat i.1.2.1 N) x⟩) (fun i => N - i.1.1) ⟨(0, F, b), Nat.zero_le _, rfl⟩ (Imp.env ⟨.inr rfl, .inr rfl, .inr rfl, .inr rfl, .inr rfl, trivial⟩) ?_
  refine fun ⟨⟨k, G, g⟩, hk, hel⟩ N6 n6 => ?_
  (try dsimp only at hk hel)
  refine k_seq fun N7 n7 => ?_
  refine k_code tyOK mixes ?_
  refine c_region fun K8 k8 => ?_
  refine n_of (N' := K8) k8 ?_
  refine n_of (N' := N7) n7 ?_
  refine k_seq fun N9 n9 => ?_
  refine k_cond rfl (fun h0 => ?_) (fun h0 => ?_)
  · have q0 := of_decide_eq_true h0
    (try dsimp only at q0)
    have hk0 : k < N := by omega
    refine k_skip ?_
    refine n_of (N' := N9) n9 ?_
    refine k_seq fun N10 n10 => ?_
    refine k_block fun X11 x11 => ?_
    refine k_imp (s' := ⟨envL N x k, full l0 l1 (bld g N) l3 (mat G N) x⟩) (Imp.env ⟨.inr rfl, .inr rfl, .inr rfl, .inr rfl, .inr rfl, trivial⟩) ?_
    refine body_ok hN hk0 (fun hp e M l eM el he => ?_) (fun hp e he => ?_)
    · subst eM
      subst el
      refine n_of (N' := N10) n10 ?_
      refine k_imp (Imp.env he) ?_
      refine k_code tyOK mixes ?_
      refine c_region fun K12 k12 => ?_
      refine n_of (N' := K12) k12 ?_
      refine n_of (N' := N6) n6 ?_
      exact ⟨⟨(k + 1, (stp G g k N).1, (stp G g k N).2), hk0, elim_succ hel hp⟩, by (dsimp only; omega), Imp.env ⟨.inr rfl, .inr rfl, .inr rfl, .inr rfl, .inr (congrArg (exi .i64) (wrN (a := k) (b := 1) (by omega))), trivial⟩⟩
    · exact hF k G g hel hk0 hp e he
  · have q0 := of_decide_eq_false h0
    (try dsimp only at q0)
    have e : k = N := by omega
    subst e
    refine k_exit ?_
    refine x_here x5 ?_
    exact hT G g hel _ ⟨.inr rfl, .inr rfl, .inr rfl, trivial⟩
theorem sw_len {n N x : Nat} (h : n = N) : one (.sw 4 n (n + x)) = one (.sw 4 N (N + x)) := by rw [h]
theorem take_row {a : List Nat} {N i : Nat} (ha : a.length = N * N) (hi : i < N) : (a.drop (i * N)).take N = bld (fun j => a.getD (i * N + j) 0) N := by
  have h1 : i * N + N ≤ N * N := by
    calc i * N + N = (i + 1) * N := by rw [Nat.add_mul, Nat.one_mul]
      _ ≤ N * N := Nat.mul_le_mul_right _ hi
  refine ext_getD 0 (by rw [bld_len, List.length_take, List.length_drop]; omega) fun p hp => ?_
  have hp : p < N := by rw [List.length_take] at hp; omega
  rw [bld_at 0 _ hp]
  simp only [List.getD_eq_getElem?_getD, List.getElem?_take, List.getElem?_drop]
  rw [if_pos hp]
theorem rows_ok {a l1 l2 l3 : List Nat} {N : Nat} (hN0 : 0 < N) (hN : N ≤ 16) (ha : a.length = N * N) {Nx : St → Prop} {X : Nat → St → Prop} {R : St → Prop}
    (h : ∀ e M x, M = mat (fun i j => a.getD (i * N + j) 0) N → LeEnvS e (envM N x) → Nx ⟨e, full a l1 l2 l3 M x⟩) :
    CodeOK Try.prog 208 2 cRows ⟨[(0, one (.sl 0)), (1, one (.sl 2)), (6, exi .i64 (N : Int)), (7, one (.sw 4 0 0))], full a l1 l2 l3 [] 0⟩ Nx X R := by
  have hNN : N * N ≤ 16 * 16 := Nat.mul_le_mul hN hN
  have hml : maxLen = 9223372036854775807 := by decide
  refine k_seq fun N3 n3 => ?_
  refine k_code tyOK mixes ?_
  refine c_region fun K4 k4 => ?_
  refine n_of (N' := K4) k4 ?_
  refine n_of (N' := N3) n3 ?_
  refine k_block fun X5 x5 => ?_
  refine k_loop (ι := { S : List (List Nat) × Nat // S.1.length ≤ N ∧ S.1 = bld (fun i => bld (fun j => a.getD (i * N + j) 0) N) S.1.length ∧ S.1.length + S.2 ≤ maxLen })
    (fun i => ⟨[(0, one (.sl 0)), (1, one (.sl 2)), (6, exi .i64 (N : Int)), (7, one (.sw 4 i.1.1.length (i.1.1.length + i.1.2))), (44, exi .i64 (N : Int)), (45, exi .i64 (i.1.1.length : Int))], full a l1 l2 l3 i.1.1 i.1.2⟩) (fun i => N - i.1.1.length) ⟨([], 0), Nat.zero_le _, rfl, Nat.zero_le _⟩ (Imp.env ⟨.inr rfl, .inr rfl, .inr rfl, .inr rfl, .inr rfl, .inr rfl, trivial⟩) ?_
  refine fun ⟨⟨M, x⟩, hM, hMe, hx⟩ N6 n6 => ?_
  (try dsimp only at hM hMe hx)
  refine k_seq fun N7 n7 => ?_
  refine k_code tyOK mixes ?_
  refine c_region fun K8 k8 => ?_
  refine n_of (N' := K8) k8 ?_
  refine n_of (N' := N7) n7 ?_
  refine k_seq fun N9 n9 => ?_
  refine k_cond rfl (fun h0 => ?_) (fun h0 => ?_)
  · have q0 := of_decide_eq_true h0
    (try dsimp only at q0)
    have hi : M.length < N := by omega
    have h1 : M.length * N + N ≤ N * N := by
      calc M.length * N + N = (M.length + 1) * N := by rw [Nat.add_mul, Nat.one_mul]
        _ ≤ N * N := Nat.mul_le_mul_right _ hi
    refine k_skip ?_
    refine n_of (N' := N9) n9 ?_
    refine k_seq fun N10 n10 => ?_
    refine k_block fun X11 x11 => ?_
    refine k_seq fun N12 n12 => ?_
    refine k_code tyOK mixes ?_
    refine c_region fun K13 k13 => ?_
    refine n_of (N' := K13) k13 ?_
    refine n_of (N' := N12) n12 ?_
    refine k_imp (s' := ⟨[(0, one (.sl 0)), (1, one (.sl 2)), (6, exi .i64 (N : Int)), (7, one (.sw 4 M.length (M.length + x))), (44, exi .i64 (N : Int)), (45, exi .i64 (M.length : Int)), (8, exi .i64 (M.length : Int))], full a l1 l2 l3 M x⟩) (Imp.env ⟨.inr rfl, .inr rfl, .inr rfl, .inr rfl, .inr rfl, .inr rfl, .inr rfl, trivial⟩) ?_
    refine k_row (pre := [_, _, _, _, _, _, _, _, _]) rfl hx (by omega) hN0 (by omega) (by decide) (by decide) ?_
    refine vOps_q0 rfl rfl rfl rfl rfl ?_
    refine vOps_q0 rfl rfl rfl rfl rfl ?_
    refine vOps_q0 rfl rfl rfl rfl rfl ?_
    refine vOps_q0 rfl rfl rfl rfl rfl ?_
    refine vOps_q0 rfl rfl rfl rfl rfl ?_
    refine vOps_q0 rfl rfl rfl rfl rfl ?_
    refine vOps_q0 rfl rfl rfl rfl rfl ?_
    refine vOps_q0 rfl rfl rfl rfl rfl ?_
    refine vOps_q0 rfl rfl rfl rfl rfl ?_
    have w1 : IntKind.i64.wrap ((M.length : Int) * (N : Int)) = ((M.length * N : Nat) : Int) := by
      rw [show (M.length : Int) * (N : Int) = ((M.length * N : Nat) : Int) by simp, wr64 (by omega) (by omega)]
    have w2 : IntKind.i64.wrap (IntKind.i64.wrap ((M.length : Int) + 1) * (N : Int)) = ((M.length * N + N : Nat) : Int) := by
      rw [show (M.length : Int) + 1 = ((M.length + 1 : Nat) : Int) by simp, wr64 (n := ((M.length + 1 : Nat) : Int)) (by omega) (by omega)]
      rw [show ((M.length + 1 : Nat) : Int) * (N : Int) = ((M.length * N + N : Nat) : Int) by rw [← Int.natCast_mul, Nat.add_mul, Nat.one_mul], wr64 (by omega) (by omega)]
    refine ⟨M.length * N, rfl, rfl, rfl, congrArg (exi .i64) w1, congrArg (exi .i64) w2, by omega, fun x' hx' => ?_⟩
    refine n_of (N' := N10) n10 ?_
    refine k_code tyOK mixes ?_
    refine c_region fun K14 k14 => ?_
    refine n_of (N' := K14) k14 ?_
    refine n_of (N' := N6) n6 ?_
    have hl : (M ++ [(a.drop (M.length * N)).take N]).length = M.length + 1 := by simp
    refine ⟨⟨(M ++ [(a.drop (M.length * N)).take N], x'), by rw [hl]; exact hi, ?_, by rw [hl]; exact hx'⟩, by (dsimp only; rw [hl]; omega), Imp.env ⟨.inr rfl, .inr rfl, .inr rfl, .inr (sw_len hl.symm), .inr rfl, .inr (congrArg (exi .i64) ((wrN (a := M.length) (b := 1) (by omega)).trans (congrArg Int.ofNat hl.symm))), trivial⟩⟩
    rw [hl, bld, ← hMe, take_row ha hi]
  · have q0 := of_decide_eq_false h0
    (try dsimp only at q0)
    have e : M.length = N := by omega
    refine k_exit ?_
    refine x_here x5 ?_
    exact h _ _ _ (hMe.trans (by rw [e]; rfl)) ⟨.inr rfl, .inr rfl, .inr (sw_len e), trivial⟩
end
end Go.AX
