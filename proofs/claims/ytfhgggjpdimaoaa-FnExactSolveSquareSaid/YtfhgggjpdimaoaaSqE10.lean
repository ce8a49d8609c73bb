/- What the functions of this program do, one contract a function, by that walk: each under what its own statement says. -/
import Derived.Test.YtfhgggjpdimaoaaSqE9
set_option linter.unusedVariables false
set_option linter.unusedSimpArgs false
namespace Go.AX
noncomputable section
open Go.RowKit Go.Proofs
set_option maxRecDepth 100000
set_option maxHeartbeats 4000000
open Go

/-! ## Two rows change places -/

noncomputable def cR17 : Code := fstC (sndC (sndC (sndC cBody)))
abbrev envW (N x k p : Nat) : List (Nat × AV) := [(1, one (.sl 2)), (6, exi .i64 (N : Int)), (7, one (.sw 4 N (N + x))), (9, exi .i64 (k : Int)), (10, exi .i64 (p : Int)), (62, exi .i64 (N : Int)), (63, exi .i64 (k : Int))]
abbrev envK (N x k : Nat) : List (Nat × AV) := [(1, one (.sl 2)), (6, exi .i64 (N : Int)), (7, one (.sw 4 N (N + x))), (9, exi .i64 (k : Int)), (62, exi .i64 (N : Int)), (63, exi .i64 (k : Int))]
theorem m_store2 {m0 : Nat} {dst : Option Nat} {s : St} {T T' : TypeId} {p v : Operand} {e j j' : Nat} {C : List AC} {c : AC} {ti : TI} (hT : ty T = some ti) (hsz : ti.size = 1) (hp : ev s.env p = .v (.one (.pv e j'))) (hj' : j' = j) (hv : ev s.env v = .v (.one c)) (hc : c.solid = true) (hL : s.L[e]? = some (.var T' C)) (hj : j < C.length) :
    mOp ty m0 dst s (.store T p v) = some (none, { s with env := envPut s.env dst (one .any), L := s.L.set e (.var T' (C.set j c)) }) := by
  subst hj'
  exact m_store hT hsz hp hv hc hL hj
theorem mat_swap {G : FF} {N k p : Nat} (hk : k < N) (hp : p < N) (hkp : k ≠ p) : ((mat G N).set k ((mat G N).getD p [])).set p ((mat G N).getD k []) = mat (fun r c => G (swp k p r) c) N := by
  refine ext_getD [] (by simp [mat_len]) fun r hr => ?_
  have hr : r < N := by simpa [mat_len] using hr
  rw [swp_set hkp (by rw [mat_len]; exact hk) (by rw [mat_len]; exact hp), mat_row hr, mat_row (swp_lt hk hp hr)]
theorem vec_swap {g : BB} {N k p : Nat} (hk : k < N) (hp : p < N) : ((bld g N).set ((k : Nat) : Int).toNat ((bld g N).getD ((p : Nat) : Int).toNat 0)).set ((p : Nat) : Int).toNat ((bld g N).getD ((k : Nat) : Int).toNat 0) = bld (fun r => g (swp k p r)) N := by
  rw [Int.toNat_natCast, Int.toNat_natCast, bld_at 0 _ hk, bld_at 0 _ hp, vec_set, vec_set, upb_swp]
theorem r17_ok {l0 l1 l3 : List Nat} {g : BB} {G : FF} {N x k p : Nat} (hk : k < N) (hp : p < N) (hkp : k ≠ p) {Nx : St → Prop} {X : Nat → St → Prop} {R : St → Prop}
    (h : ∀ e M l, M = mat (fun r c => G (swp k p r) c) N → l = bld (fun r => g (swp k p r)) N → LeEnvS e (envK N x k) → Nx ⟨e, full l0 l1 l l3 M x⟩) :
    CodeOK Try.prog 208 2 cR17 ⟨envW N x k p, full l0 l1 (bld g N) l3 (mat G N) x⟩ Nx X R := by
  have hk' : k < (mat G N).length := by rw [mat_len]; exact hk
  have hp' : p < (mat G N).length := by rw [mat_len]; exact hp
  refine k_swap (i := k) (k := p) hkp hk' hp' (fun _ => rfl) (env' := envW N x k p) ⟨.inr rfl, .inr rfl, .inr rfl, .inr rfl, .inr rfl, .inr rfl, .inr rfl, trivial⟩ fun C hC1 hC2 hCl N15 n15 => ?_
  rw [mat_len] at hCl
  refine k_late tyOK mixes 24 [2, 3, 4, 5, 6, 7] 24 [0, 1, 2, 3, 4, 5, 6, 7, 8, 9, 10, 11, 12, 13, 14, 15, 16, 17, 18, 19, 20, 21, 22, 23] (by decide +kernel) (by decide +kernel) fun ol hol K16 k16 => ?_
  subst hol
  refine vHead_q0 rfl rfl rfl rfl rfl rfl ?_
  refine vHead_q0 rfl rfl rfl rfl rfl rfl ?_
  refine vHead_q0 rfl rfl rfl rfl rfl rfl ?_
  refine vHead_q0 rfl rfl rfl rfl rfl rfl ?_
  refine vHead_q0 rfl rfl rfl rfl rfl rfl ?_
  refine vHead_q0 rfl rfl rfl rfl rfl rfl ?_
  refine vHead_q0 rfl rfl rfl rfl rfl rfl ?_
  refine vHead_q0 rfl rfl rfl rfl rfl rfl ?_
  refine vHead_q0 rfl rfl rfl rfl rfl rfl ?_
  refine vHead_q0 rfl rfl rfl rfl rfl rfl ?_
  refine vHead_qp rfl rfl rfl rfl rfl (q_ix rfl rfl) ⟨by omega, by omega⟩ ?_
  refine vHead_q0 rfl rfl rfl rfl rfl (q_load (c := .sl 6) rfl rfl rfl rfl (by rw [Int.toNat_natCast, Nat.mul_one]; exact hC2)) ?_
  refine vHead_q0 rfl rfl rfl rfl rfl rfl ?_
  refine vHead_q0 rfl rfl rfl rfl rfl rfl ?_
  refine vHead_qp rfl rfl rfl rfl rfl (q_ix rfl rfl) ⟨by omega, by omega⟩ ?_
  refine vHead_q0 rfl rfl rfl rfl rfl (q_load (c := .sl 5) rfl rfl rfl rfl (by rw [Int.toNat_natCast, Nat.mul_one]; exact hC1)) ?_
  refine vHead_q0 rfl rfl rfl rfl rfl rfl ?_
  refine vHead_q0 rfl rfl rfl rfl rfl rfl ?_
  refine vHead_qp rfl rfl rfl rfl rfl rfl (by (try dsimp only); (try simp only [Dat.len, bld_len, Int.toNat_natCast, List.length_set]); omega) ?_
  refine vHead_qp rfl rfl rfl rfl rfl rfl (by (try dsimp only); (try simp only [Dat.len, bld_len, Int.toNat_natCast, List.length_set]); omega) ?_
  refine vHead_q0 rfl rfl rfl rfl rfl rfl ?_
  refine vHead_q0 rfl rfl rfl rfl rfl rfl ?_
  refine vHead_qp rfl rfl rfl rfl rfl rfl (by (try dsimp only); (try simp only [Dat.len, bld_len, Int.toNat_natCast, List.length_set]); omega) ?_
  refine vHead_qp rfl rfl rfl rfl rfl rfl (by (try dsimp only); (try simp only [Dat.len, bld_len, Int.toNat_natCast, List.length_set]); omega) ?_
  refine vOps_qp rfl rfl rfl rfl (q_ix rfl rfl) ⟨by omega, by omega⟩ ?_
  refine vOps_m rfl rfl rfl rfl rfl (m_store2 (j := k) (c := .sl 6) rfl rfl rfl (by rw [Int.toNat_natCast, Nat.mul_one]) rfl rfl rfl (by (try simp only [List.length_set]); omega)) ?_
  refine vOps_qp rfl rfl rfl rfl (q_ix rfl rfl) ⟨by omega, by omega⟩ ?_
  refine vOps_m rfl rfl rfl rfl rfl (m_store2 (j := p) (c := .sl 5) rfl rfl rfl (by rw [Int.toNat_natCast, Nat.mul_one]) rfl rfl rfl (by (try simp only [List.length_set]); omega)) ?_
  refine vOps_qp rfl rfl rfl rfl rfl (by (try dsimp only); (try simp only [Dat.len, bld_len, Int.toNat_natCast, List.length_set]); omega) ?_
  refine vOps_m rfl rfl rfl rfl rfl rfl (And.intro (by (try dsimp only); (try simp only [Dat.len, bld_len, Int.toNat_natCast, List.length_set]); omega) ?_)
  refine vOps_qp rfl rfl rfl rfl rfl (by (try dsimp only); (try simp only [Dat.len, bld_len, Int.toNat_natCast, List.length_set]); omega) ?_
  refine vOps_m rfl rfl rfl rfl rfl rfl (And.intro (by (try dsimp only); (try simp only [Dat.len, bld_len, Int.toNat_natCast, List.length_set]); omega) ?_)
  refine n_of (N' := K16) k16 ?_
  refine n_of (N' := N15) n15 ?_
  refine ⟨_, _, _, _, envK N x k, rfl, ?_, ?_⟩
  · intro rest
    exact ⟨.inr rfl, .inr rfl, .inr rfl, .inr rfl, .inr rfl, .inr rfl, trivial⟩
  exact h _ _ _ (mat_swap hk hp hkp) (vec_swap hk hp) ⟨.inr rfl, .inr rfl, .inr rfl, .inr rfl, .inr rfl, .inr rfl, trivial⟩
theorem swp_self (k r : Nat) : swp k k r = r := by
  unfold swp
  by_cases h : r = k
  · subst h; simp
  · simp [h]
theorem mat_self {G : FF} {N k : Nat} : mat G N = mat (fun r c => G (swp k k r) c) N := by simp only [swp_self]
theorem r17_self {l0 l1 l3 : List Nat} {g : BB} {G : FF} {N x k : Nat} (hk : k < N) {Nx : St → Prop} {X : Nat → St → Prop} {R : St → Prop}
    (h : ∀ e M l, M = mat (fun r c => G (swp k k r) c) N → l = bld (fun r => g (swp k k r)) N → LeEnvS e (envK N x k) → Nx ⟨e, full l0 l1 l l3 M x⟩) :
    CodeOK Try.prog 208 2 cR17 ⟨envW N x k k, full l0 l1 (bld g N) l3 (mat G N) x⟩ Nx X R := by
  have hk' : k < (mat G N).length := by rw [mat_len]; exact hk
  refine k_borrow1 (i := k) hk' (env' := envW N x k k) ⟨.inr rfl, .inr rfl, .inr rfl, .inr rfl, .inr rfl, .inr rfl, .inr rfl, trivial⟩ fun C hC1 hCl N15 n15 => ?_
  rw [mat_len] at hCl
  rw [mat_row hk]
  refine k_late tyOK mixes 24 [2, 3, 4, 5, 6, 7] 24 [0, 1, 2, 3, 4, 5, 6, 7, 8, 9, 10, 11, 12, 13, 14, 15, 16, 17, 18, 19, 20, 21, 22, 23] (by decide +kernel) (by decide +kernel) fun ol hol K16 k16 => ?_
  subst hol
  refine vHead_q0 rfl rfl rfl rfl rfl rfl ?_
  refine vHead_q0 rfl rfl rfl rfl rfl rfl ?_
  refine vHead_q0 rfl rfl rfl rfl rfl rfl ?_
  refine vHead_q0 rfl rfl rfl rfl rfl rfl ?_
  refine vHead_q0 rfl rfl rfl rfl rfl rfl ?_
  refine vHead_q0 rfl rfl rfl rfl rfl rfl ?_
  refine vHead_q0 rfl rfl rfl rfl rfl rfl ?_
  refine vHead_q0 rfl rfl rfl rfl rfl rfl ?_
  refine vHead_q0 rfl rfl rfl rfl rfl rfl ?_
  refine vHead_q0 rfl rfl rfl rfl rfl rfl ?_
  refine vHead_qp rfl rfl rfl rfl rfl (q_ix rfl rfl) ⟨by omega, by omega⟩ ?_
  refine vHead_q0 rfl rfl rfl rfl rfl (q_load (c := .sl 5) rfl rfl rfl rfl (by rw [Int.toNat_natCast, Nat.mul_one]; exact hC1)) ?_
  refine vHead_q0 rfl rfl rfl rfl rfl rfl ?_
  refine vHead_q0 rfl rfl rfl rfl rfl rfl ?_
  refine vHead_qp rfl rfl rfl rfl rfl (q_ix rfl rfl) ⟨by omega, by omega⟩ ?_
  refine vHead_q0 rfl rfl rfl rfl rfl (q_load (c := .sl 5) rfl rfl rfl rfl (by rw [Int.toNat_natCast, Nat.mul_one]; exact hC1)) ?_
  refine vHead_q0 rfl rfl rfl rfl rfl rfl ?_
  refine vHead_q0 rfl rfl rfl rfl rfl rfl ?_
  refine vHead_qp rfl rfl rfl rfl rfl rfl (by (try dsimp only); (try simp only [Dat.len, bld_len, Int.toNat_natCast, List.length_set]); omega) ?_
  refine vHead_qp rfl rfl rfl rfl rfl rfl (by (try dsimp only); (try simp only [Dat.len, bld_len, Int.toNat_natCast, List.length_set]); omega) ?_
  refine vHead_q0 rfl rfl rfl rfl rfl rfl ?_
  refine vHead_q0 rfl rfl rfl rfl rfl rfl ?_
  refine vHead_qp rfl rfl rfl rfl rfl rfl (by (try dsimp only); (try simp only [Dat.len, bld_len, Int.toNat_natCast, List.length_set]); omega) ?_
  refine vHead_qp rfl rfl rfl rfl rfl rfl (by (try dsimp only); (try simp only [Dat.len, bld_len, Int.toNat_natCast, List.length_set]); omega) ?_
  refine vOps_qp rfl rfl rfl rfl (q_ix rfl rfl) ⟨by omega, by omega⟩ ?_
  refine vOps_m rfl rfl rfl rfl rfl (m_store2 (j := k) (c := .sl 5) rfl rfl rfl (by rw [Int.toNat_natCast, Nat.mul_one]) rfl rfl rfl (by (try simp only [List.length_set]); omega)) ?_
  refine vOps_qp rfl rfl rfl rfl (q_ix rfl rfl) ⟨by omega, by omega⟩ ?_
  refine vOps_m rfl rfl rfl rfl rfl (m_store2 (j := k) (c := .sl 5) rfl rfl rfl (by rw [Int.toNat_natCast, Nat.mul_one]) rfl rfl rfl (by (try simp only [List.length_set]); omega)) ?_
  refine vOps_qp rfl rfl rfl rfl rfl (by (try dsimp only); (try simp only [Dat.len, bld_len, Int.toNat_natCast, List.length_set]); omega) ?_
  refine vOps_m rfl rfl rfl rfl rfl rfl (And.intro (by (try dsimp only); (try simp only [Dat.len, bld_len, Int.toNat_natCast, List.length_set]); omega) ?_)
  refine vOps_qp rfl rfl rfl rfl rfl (by (try dsimp only); (try simp only [Dat.len, bld_len, Int.toNat_natCast, List.length_set]); omega) ?_
  refine vOps_m rfl rfl rfl rfl rfl rfl (And.intro (by (try dsimp only); (try simp only [Dat.len, bld_len, Int.toNat_natCast, List.length_set]); omega) ?_)
  refine n_of (N' := K16) k16 ?_
  refine n_of (N' := N15) n15 ?_
  have eC : (C.set k (.sl 5)).set k (.sl 5) = C := by rw [set_same hC1, set_same hC1]
  refine ⟨_, _, _, _, _, congrArg (fun C' => [rowE l0, rowE l1, rowE _, rowE l3, Ent.var 35 C', rowE (bld (G k) N)]) eC, ?_⟩
  exact h _ _ _ ((mat_one hk).trans (mat_self (k := k))) (vec_swap hk hk) ⟨.inr rfl, .inr rfl, .inr rfl, .inr rfl, .inr rfl, .inr rfl, trivial⟩
/-- The program's change of rows, whatever the row. -/
theorem r17_any {l0 l1 l3 : List Nat} {g : BB} {G : FF} {N x k p : Nat} (hk : k < N) (hp : p < N) {Nx : St → Prop} {X : Nat → St → Prop} {R : St → Prop}
    (h : ∀ e M l, M = mat (fun r c => G (swp k p r) c) N → l = bld (fun r => g (swp k p r)) N → LeEnvS e (envK N x k) → Nx ⟨e, full l0 l1 l l3 M x⟩) :
    CodeOK Try.prog 208 2 cR17 ⟨envW N x k p, full l0 l1 (bld g N) l3 (mat G N) x⟩ Nx X R := by
  by_cases hkp : k = p
  · subst hkp; exact r17_self hk h
  · exact r17_ok hk hp hkp h
end
end Go.AX
