/- What the functions of this program do, one contract a function, by that walk: each under what its own statement says. -/
import Derived.Test.YtfhgggjpdimaoaaSqE8
import Derived.Test.YtfhgggjpdimaoaaSqAyF
set_option linter.unusedVariables false
set_option linter.unusedSimpArgs false
namespace Go.AX
noncomputable section
open Go.RowKit Go.Proofs
set_option maxRecDepth 100000
set_option maxHeartbeats 4000000
open Go

/-! ## The program's solver: its regions that look at rows -/

noncomputable def fstC : Code → Code | .seq x _ => x | c => c
noncomputable def sndC : Code → Code | .seq _ y => y | c => c
noncomputable def inC : Code → Code | .block _ c => c | .loop c => c | c => c
noncomputable def c20 : Code := Try.f20.body.getD .skip
noncomputable def cRows : Code := fstC (sndC (sndC (sndC (sndC (sndC c20)))))
noncomputable def cElim : Code := fstC (sndC (sndC (sndC (sndC (sndC (sndC c20))))))
noncomputable def cBack : Code := sndC (sndC (sndC (sndC (sndC (sndC (sndC c20))))))

section
variable {P : Program} {n m0 : Nat}
theorem vHead_q0 {ol : List Oper} {i : Nat} {cl : List Nat} {o : Oper} {s : St} {K : St → Prop} {α : AV} (ho : ol[i]? = some o) (hw : wants s.env ol o = some true) (hd : okDst n o.dst = true) (hc : callLike o.op = false) (hg : isGuard ol i = false) (hq : qOp ty s.env s.L o.op = some (none, α)) (h : vHead P ty n ol cl { env := envPut s.env o.dst α, L := s.L } K) : vHead P ty n ol (i :: cl) s K := vHead_q ho hw hd hc hg hq h
theorem vHead_qp {ol : List Oper} {i : Nat} {cl : List Nat} {o : Oper} {s : St} {K : St → Prop} {p : Prop} {α : AV} (ho : ol[i]? = some o) (hw : wants s.env ol o = some true) (hd : okDst n o.dst = true) (hc : callLike o.op = false) (hg : isGuard ol i = false) (hq : qOp ty s.env s.L o.op = some (some p, α)) (hp : p) (h : vHead P ty n ol cl { env := envPut s.env o.dst α, L := s.L } K) : vHead P ty n ol (i :: cl) s K := vHead_q ho hw hd hc hg hq ⟨hp, h⟩
end

noncomputable def cBody : Code := inC (fstC (sndC (sndC (inC (inC (sndC cElim))))))
noncomputable def cRow : Code := inC (fstC (sndC (inC (inC (sndC (sndC (sndC (sndC (sndC cBody)))))))))

noncomputable def cR25 : Code := inC (fstC (sndC (inC (inC (sndC (fstC (sndC cRow)))))))

abbrev envB (N x k r j f : Nat) : List (Nat × AV) := [(1, one (.sl 2)), (6, exi .i64 (N : Int)), (7, one (.sw 4 N (N + x))), (9, exi .i64 (k : Int)), (11, exi .i64 (r : Int)), (12, fl32 f), (13, exi .i64 (j : Int)), (62, exi .i64 (N : Int)), (63, exi .i64 (k : Int))]
theorem q_ix {env : List (Nat × AV)} {L : List Ent} {e N c : Nat} {i : Int} {p q : Operand} (hp : ev env p = one (.sw e N c)) (hq : ev env q = exi .i64 i) : qOp ty env L (.indexAddr 74 p q) = some (some (0 ≤ i ∧ i < (N : Int)), one (.pv e (i.toNat * 1))) := by
  simp only [qOp, hp, hq]; rfl
theorem mat_step {G : FF} {N k r j f : Nat} (hk : k < N) (hr : r < N) (hj : j < N) (hrk : r ≠ k) : ((mat G N).set r ((bld (G r) N).set ((j : Nat) : Int).toNat (fop .sub .f32 ((bld (G r) N).getD ((j : Nat) : Int).toNat 0) (fop .mul .f32 f ((bld (G k) N).getD ((j : Nat) : Int).toNat 0))))).set k (bld (G k) N) =
    mat (upd G r j (fop .sub .f32 (G r j) (fop .mul .f32 f (G k j)))) N := by
  rw [Int.toNat_natCast, bld_at 0 _ hj, bld_at 0 _ hj, ← mat_row (F := G) hr, mat_upd hr]
  have e : bld (G k) N = (mat (upd G r j (fop .sub .f32 (G r j) (fop .mul .f32 f (G k j)))) N).getD k [] := by
    rw [mat_row hk]
    refine bld_congr fun c hc => ?_
    unfold upd; rw [if_neg (fun h => hrk h.1.symm)]
  rw [e, mat_keep hk]
theorem r25_ok {l0 l1 l2 l3 : List Nat} {G : FF} {N x k r j f : Nat} (hk : k < N) (hr : r < N) (hj : j < N) (hrk : r ≠ k) {Nx : St → Prop} {X : Nat → St → Prop} {R : St → Prop}
    (h : ∀ e M, M = mat (upd G r j (fop .sub .f32 (G r j) (fop .mul .f32 f (G k j)))) N → LeEnvS e (envB N x k r j f) → Nx ⟨e, full l0 l1 l2 l3 M x⟩) :
    CodeOK Try.prog 208 2 cR25 ⟨envB N x k r j f, full l0 l1 l2 l3 (mat G N) x⟩ Nx X R := by
  have hr' : r < (mat G N).length := by rw [mat_len]; exact hr
  have hk' : k < (mat G N).length := by rw [mat_len]; exact hk
  refine k_borrow2 (i := r) (k := k) hrk hr' hk' (env' := envB N x k r j f) ⟨.inr rfl, .inr rfl, .inr rfl, .inr rfl, .inr rfl, .inr rfl, .inr rfl, .inr rfl, .inr rfl, trivial⟩ fun C hC1 hC2 hCl N15 n15 => ?_
  rw [mat_row hr, mat_row hk]
  refine k_code tyOK mixes ?_
  refine c_draw 17 [0, 1, 2, 3, 4, 5, 6, 7, 8, 9, 10, 11, 12, 13, 14, 15, 16] (by decide +kernel) fun K16 k16 => ?_
  refine vHead_q0 rfl rfl rfl rfl rfl rfl ?_
  refine vHead_q0 rfl rfl rfl rfl rfl rfl ?_
  refine vHead_qp rfl rfl rfl rfl rfl (q_ix rfl rfl) ⟨by omega, by omega⟩ ?_
  refine vHead_q0 rfl rfl rfl rfl rfl (q_load (c := .sl 5) rfl rfl rfl rfl (by rw [Int.toNat_natCast, Nat.mul_one]; exact hC1)) ?_
  refine vHead_q0 rfl rfl rfl rfl rfl rfl ?_
  refine vHead_qp rfl rfl rfl rfl rfl rfl (by (try dsimp only); (try simp only [Dat.len, bld_len, Int.toNat_natCast, List.length_set]); omega) ?_
  refine vHead_qp rfl rfl rfl rfl rfl rfl (by (try dsimp only); (try simp only [Dat.len, bld_len, Int.toNat_natCast, List.length_set]); omega) ?_
  refine vHead_q0 rfl rfl rfl rfl rfl rfl ?_
  refine vHead_q0 rfl rfl rfl rfl rfl rfl ?_
  refine vHead_q0 rfl rfl rfl rfl rfl rfl ?_
  refine vHead_qp rfl rfl rfl rfl rfl (q_ix rfl rfl) ⟨by omega, by omega⟩ ?_
  refine vHead_q0 rfl rfl rfl rfl rfl (q_load (c := .sl 6) rfl rfl rfl rfl (by rw [Int.toNat_natCast, Nat.mul_one]; exact hC2)) ?_
  refine vHead_q0 rfl rfl rfl rfl rfl rfl ?_
  refine vHead_qp rfl rfl rfl rfl rfl rfl (by (try dsimp only); (try simp only [Dat.len, bld_len, Int.toNat_natCast, List.length_set]); omega) ?_
  refine vHead_qp rfl rfl rfl rfl rfl rfl (by (try dsimp only); (try simp only [Dat.len, bld_len, Int.toNat_natCast, List.length_set]); omega) ?_
  refine vHead_q0 rfl rfl rfl rfl rfl rfl ?_
  refine vHead_q0 rfl rfl rfl rfl rfl rfl ?_
  refine vOps_qp rfl rfl rfl rfl rfl (by (try dsimp only); (try simp only [Dat.len, bld_len, Int.toNat_natCast, List.length_set]); omega) ?_
  refine vOps_m rfl rfl rfl rfl rfl rfl (And.intro (by (try dsimp only); (try simp only [Dat.len, bld_len, Int.toNat_natCast, List.length_set]); omega) ?_)
  refine n_of (N' := K16) k16 ?_
  refine n_of (N' := N15) n15 ?_
  refine ⟨_, _, _, _, _, _, rfl, ?_⟩
  exact h _ _ (mat_step hk hr hj hrk) ⟨.inr rfl, .inr rfl, .inr rfl, .inr rfl, .inr rfl, .inr rfl, .inr rfl, .inr rfl, .inr rfl, trivial⟩
noncomputable def cR21 : Code := fstC cRow
noncomputable def cR26 : Code := sndC (sndC cRow)
abbrev envA (N x k r : Nat) : List (Nat × AV) := [(1, one (.sl 2)), (6, exi .i64 (N : Int)), (7, one (.sw 4 N (N + x))), (9, exi .i64 (k : Int)), (11, exi .i64 (r : Int)), (62, exi .i64 (N : Int)), (63, exi .i64 (k : Int))]
abbrev envF (N x k r f : Nat) : List (Nat × AV) := [(1, one (.sl 2)), (6, exi .i64 (N : Int)), (7, one (.sw 4 N (N + x))), (9, exi .i64 (k : Int)), (11, exi .i64 (r : Int)), (12, fl32 f), (62, exi .i64 (N : Int)), (63, exi .i64 (k : Int))]
theorem mat_both {G : FF} {N k r : Nat} (hk : k < N) (hr : r < N) : ((mat G N).set r (bld (G r) N)).set k (bld (G k) N) = mat G N := by
  have e1 := mat_keep (F := G) hr
  have e2 := mat_keep (F := G) hk
  rw [mat_row hr] at e1
  rw [mat_row hk] at e2
  rw [e1, e2]
theorem quo_at {G : FF} {N k r : Nat} (hk : k < N) : fop .quo .f32 ((bld (G r) N).getD ((k : Nat) : Int).toNat 0) ((bld (G k) N).getD ((k : Nat) : Int).toNat 0) = fop .quo .f32 (G r k) (G k k) := by
  rw [Int.toNat_natCast, bld_at 0 _ hk, bld_at 0 _ hk]
theorem r21_ok {l0 l1 l2 l3 : List Nat} {G : FF} {N x k r : Nat} (hk : k < N) (hr : r < N) (hrk : r ≠ k) {Nx : St → Prop} {X : Nat → St → Prop} {R : St → Prop}
    (h : ∀ e M f, M = mat G N → f = fop .quo .f32 (G r k) (G k k) → LeEnvS e (envF N x k r f) → Nx ⟨e, full l0 l1 l2 l3 M x⟩) :
    CodeOK Try.prog 208 2 cR21 ⟨envA N x k r, full l0 l1 l2 l3 (mat G N) x⟩ Nx X R := by
  have hr' : r < (mat G N).length := by rw [mat_len]; exact hr
  have hk' : k < (mat G N).length := by rw [mat_len]; exact hk
  refine k_borrow2 (i := r) (k := k) hrk hr' hk' (env' := envA N x k r) ⟨.inr rfl, .inr rfl, .inr rfl, .inr rfl, .inr rfl, .inr rfl, .inr rfl, trivial⟩ fun C hC1 hC2 hCl N15 n15 => ?_
  rw [mat_row hr, mat_row hk]
  refine k_code tyOK mixes ?_
  refine c_draw 15 [0, 1, 2, 3, 4, 5, 6, 7, 8, 9, 10, 11, 12, 13, 14] (by decide +kernel) fun K16 k16 => ?_
  refine vHead_q0 rfl rfl rfl rfl rfl rfl ?_
  refine vHead_q0 rfl rfl rfl rfl rfl rfl ?_
  refine vHead_qp rfl rfl rfl rfl rfl (q_ix rfl rfl) ⟨by omega, by omega⟩ ?_
  refine vHead_q0 rfl rfl rfl rfl rfl (q_load (c := .sl 5) rfl rfl rfl rfl (by rw [Int.toNat_natCast, Nat.mul_one]; exact hC1)) ?_
  refine vHead_q0 rfl rfl rfl rfl rfl rfl ?_
  refine vHead_qp rfl rfl rfl rfl rfl rfl (by (try dsimp only); (try simp only [Dat.len, bld_len, Int.toNat_natCast, List.length_set]); omega) ?_
  refine vHead_qp rfl rfl rfl rfl rfl rfl (by (try dsimp only); (try simp only [Dat.len, bld_len, Int.toNat_natCast, List.length_set]); omega) ?_
  refine vHead_q0 rfl rfl rfl rfl rfl rfl ?_
  refine vHead_q0 rfl rfl rfl rfl rfl rfl ?_
  refine vHead_qp rfl rfl rfl rfl rfl (q_ix rfl rfl) ⟨by omega, by omega⟩ ?_
  refine vHead_q0 rfl rfl rfl rfl rfl (q_load (c := .sl 6) rfl rfl rfl rfl (by rw [Int.toNat_natCast, Nat.mul_one]; exact hC2)) ?_
  refine vHead_q0 rfl rfl rfl rfl rfl rfl ?_
  refine vHead_qp rfl rfl rfl rfl rfl rfl (by (try dsimp only); (try simp only [Dat.len, bld_len, Int.toNat_natCast, List.length_set]); omega) ?_
  refine vHead_qp rfl rfl rfl rfl rfl rfl (by (try dsimp only); (try simp only [Dat.len, bld_len, Int.toNat_natCast, List.length_set]); omega) ?_
  refine vHead_q0 rfl rfl rfl rfl rfl rfl ?_
  refine vOps_q0 rfl rfl rfl rfl rfl ?_
  refine n_of (N' := K16) k16 ?_
  refine n_of (N' := N15) n15 ?_
  refine ⟨_, _, _, _, _, _, rfl, ?_⟩
  exact h _ _ _ (mat_both hk hr) (quo_at hk) ⟨.inr rfl, .inr rfl, .inr rfl, .inr rfl, .inr rfl, .inr rfl, .inr rfl, .inr rfl, trivial⟩
theorem vec_step {g : BB} {N k r f : Nat} (hk : k < N) (hr : r < N) : (bld g N).set ((r : Nat) : Int).toNat (fop .sub .f32 ((bld g N).getD ((r : Nat) : Int).toNat 0) (fop .mul .f32 f ((bld g N).getD ((k : Nat) : Int).toNat 0))) = bld (upb g r (fop .sub .f32 (g r) (fop .mul .f32 f (g k)))) N := by
  rw [Int.toNat_natCast, Int.toNat_natCast, bld_at 0 _ hr, bld_at 0 _ hk, vec_set]
theorem r26_ok {l0 l1 l3 : List Nat} {g : BB} {M : List (List Nat)} {N x k r f : Nat} (hk : k < N) (hr : r < N) {Nx : St → Prop} {X : Nat → St → Prop} {R : St → Prop}
    (h : ∀ e l, l = bld (upb g r (fop .sub .f32 (g r) (fop .mul .f32 f (g k)))) N → LeEnvS e (envF N x k r f) → Nx ⟨e, full l0 l1 l l3 M x⟩) :
    CodeOK Try.prog 208 2 cR26 ⟨envF N x k r f, full l0 l1 (bld g N) l3 M x⟩ Nx X R := by
  refine k_code tyOK mixes ?_
  refine c_draw 11 [0, 1, 2, 3, 4, 5, 6, 7, 8, 9, 10] (by decide +kernel) fun K16 k16 => ?_
  refine vHead_q0 rfl rfl rfl rfl rfl rfl ?_
  refine vHead_q0 rfl rfl rfl rfl rfl rfl ?_
  refine vHead_qp rfl rfl rfl rfl rfl rfl (by (try dsimp only); (try simp only [Dat.len, bld_len, Int.toNat_natCast, List.length_set]); omega) ?_
  refine vHead_qp rfl rfl rfl rfl rfl rfl (by (try dsimp only); (try simp only [Dat.len, bld_len, Int.toNat_natCast, List.length_set]); omega) ?_
  refine vHead_q0 rfl rfl rfl rfl rfl rfl ?_
  refine vHead_q0 rfl rfl rfl rfl rfl rfl ?_
  refine vHead_q0 rfl rfl rfl rfl rfl rfl ?_
  refine vHead_qp rfl rfl rfl rfl rfl rfl (by (try dsimp only); (try simp only [Dat.len, bld_len, Int.toNat_natCast, List.length_set]); omega) ?_
  refine vHead_qp rfl rfl rfl rfl rfl rfl (by (try dsimp only); (try simp only [Dat.len, bld_len, Int.toNat_natCast, List.length_set]); omega) ?_
  refine vHead_q0 rfl rfl rfl rfl rfl rfl ?_
  refine vHead_q0 rfl rfl rfl rfl rfl rfl ?_
  refine vOps_qp rfl rfl rfl rfl rfl (by (try dsimp only); (try simp only [Dat.len, bld_len, Int.toNat_natCast, List.length_set]); omega) ?_
  refine vOps_m rfl rfl rfl rfl rfl rfl (And.intro (by (try dsimp only); (try simp only [Dat.len, bld_len, Int.toNat_natCast, List.length_set]); omega) ?_)
  refine n_of (N' := K16) k16 ?_
  exact h _ _ (vec_step hk hr) ⟨.inr rfl, .inr rfl, .inr rfl, .inr rfl, .inr rfl, .inr rfl, .inr rfl, .inr rfl, trivial⟩
noncomputable def cBk : Code := inC (fstC (sndC (inC (inC (sndC (fstC (sndC cBack)))))))
noncomputable def cR32 : Code := fstC cBk
noncomputable def cR37 : Code := sndC (sndC cBk)
noncomputable def cR36 : Code := inC (fstC (sndC (inC (inC (sndC (fstC (sndC cBk)))))))
abbrev envP (N x : Nat) : List (Nat × AV) := [(1, one (.sl 2)), (6, exi .i64 (N : Int)), (7, one (.sw 4 N (N + x))), (14, one (.sl 3))]
abbrev envQ (N x i v : Nat) : List (Nat × AV) := [(1, one (.sl 2)), (6, exi .i64 (N : Int)), (7, one (.sw 4 N (N + x))), (14, one (.sl 3)), (15, exi .i64 (i : Int)), (16, fl32 v)]
abbrev envS (N x i v j : Nat) : List (Nat × AV) := [(1, one (.sl 2)), (6, exi .i64 (N : Int)), (7, one (.sw 4 N (N + x))), (14, one (.sl 3)), (15, exi .i64 (i : Int)), (16, fl32 v), (17, exi .i64 (j : Int))]
theorem mat_one {G : FF} {N i : Nat} (hi : i < N) : (mat G N).set i (bld (G i) N) = mat G N := by
  have e1 := mat_keep (F := G) hi
  rwa [mat_row hi] at e1
theorem sum_at {G : FF} {y : BB} {N i j v : Nat} (hj : j < N) : fop .sub .f32 v (fop .mul .f32 ((bld (G i) N).getD ((j : Nat) : Int).toNat 0) ((bld y N).getD ((j : Nat) : Int).toNat 0)) = fop .sub .f32 v (fop .mul .f32 (G i j) (y j)) := by
  rw [Int.toNat_natCast, bld_at 0 _ hj, bld_at 0 _ hj]
theorem r36_ok {l0 l1 l2 : List Nat} {G : FF} {y : BB} {N x i v j : Nat} (hi : i < N) (hj : j < N) {Nx : St → Prop} {X : Nat → St → Prop} {R : St → Prop}
    (h : ∀ e M v', M = mat G N → v' = fop .sub .f32 v (fop .mul .f32 (G i j) (y j)) → LeEnvS e (envS N x i v' j) → Nx ⟨e, full l0 l1 l2 (bld y N) M x⟩) :
    CodeOK Try.prog 208 2 cR36 ⟨envS N x i v j, full l0 l1 l2 (bld y N) (mat G N) x⟩ Nx X R := by
  have hi' : i < (mat G N).length := by rw [mat_len]; exact hi
  refine k_borrow1 (i := i) hi' (env' := envS N x i v j) ⟨.inr rfl, .inr rfl, .inr rfl, .inr rfl, .inr rfl, .inr rfl, .inr rfl, trivial⟩ fun C hC1 hCl N15 n15 => ?_
  rw [mat_row hi]
  refine k_code tyOK mixes ?_
  refine c_draw 14 [0, 1, 2, 3, 4, 5, 6, 7, 8, 9, 10, 11, 12, 13] (by decide +kernel) fun K16 k16 => ?_
  refine vHead_q0 rfl rfl rfl rfl rfl rfl ?_
  refine vHead_q0 rfl rfl rfl rfl rfl rfl ?_
  refine vHead_q0 rfl rfl rfl rfl rfl rfl ?_
  refine vHead_qp rfl rfl rfl rfl rfl (q_ix rfl rfl) ⟨by omega, by omega⟩ ?_
  refine vHead_q0 rfl rfl rfl rfl rfl (q_load (c := .sl 5) rfl rfl rfl rfl (by rw [Int.toNat_natCast, Nat.mul_one]; exact hC1)) ?_
  refine vHead_q0 rfl rfl rfl rfl rfl rfl ?_
  refine vHead_qp rfl rfl rfl rfl rfl rfl (by (try dsimp only); (try simp only [Dat.len, bld_len, Int.toNat_natCast, List.length_set]); omega) ?_
  refine vHead_qp rfl rfl rfl rfl rfl rfl (by (try dsimp only); (try simp only [Dat.len, bld_len, Int.toNat_natCast, List.length_set]); omega) ?_
  refine vHead_q0 rfl rfl rfl rfl rfl rfl ?_
  refine vHead_q0 rfl rfl rfl rfl rfl rfl ?_
  refine vHead_qp rfl rfl rfl rfl rfl rfl (by (try dsimp only); (try simp only [Dat.len, bld_len, Int.toNat_natCast, List.length_set]); omega) ?_
  refine vHead_qp rfl rfl rfl rfl rfl rfl (by (try dsimp only); (try simp only [Dat.len, bld_len, Int.toNat_natCast, List.length_set]); omega) ?_
  refine vHead_q0 rfl rfl rfl rfl rfl rfl ?_
  refine vHead_q0 rfl rfl rfl rfl rfl rfl ?_
  refine vOps_q0 rfl rfl rfl rfl rfl ?_
  refine n_of (N' := K16) k16 ?_
  refine n_of (N' := N15) n15 ?_
  refine ⟨_, _, _, _, _, rfl, ?_⟩
  exact h _ _ _ (mat_one hi) (sum_at hj) ⟨.inr rfl, .inr rfl, .inr rfl, .inr rfl, .inr rfl, .inr rfl, .inr rfl, trivial⟩
theorem put_at {G : FF} {y : BB} {N i v : Nat} (hi : i < N) : (bld y N).set ((i : Nat) : Int).toNat (fop .quo .f32 v ((bld (G i) N).getD ((i : Nat) : Int).toNat 0)) = bld (upb y i (fop .quo .f32 v (G i i))) N := by
  rw [Int.toNat_natCast, bld_at 0 _ hi, vec_set]
theorem r37_ok {l0 l1 l2 : List Nat} {G : FF} {y : BB} {N x i v : Nat} (hi : i < N) {Nx : St → Prop} {X : Nat → St → Prop} {R : St → Prop}
    (h : ∀ e M l, M = mat G N → l = bld (upb y i (fop .quo .f32 v (G i i))) N → LeEnvS e (envQ N x i v) → Nx ⟨e, full l0 l1 l2 l M x⟩) :
    CodeOK Try.prog 208 2 cR37 ⟨envQ N x i v, full l0 l1 l2 (bld y N) (mat G N) x⟩ Nx X R := by
  have hi' : i < (mat G N).length := by rw [mat_len]; exact hi
  refine k_borrow1 (i := i) hi' (env' := envQ N x i v) ⟨.inr rfl, .inr rfl, .inr rfl, .inr rfl, .inr rfl, .inr rfl, trivial⟩ fun C hC1 hCl N15 n15 => ?_
  rw [mat_row hi]
  refine k_code tyOK mixes ?_
  refine c_region fun K16 k16 => ?_
  refine vOps_q0 rfl rfl rfl rfl rfl ?_
  refine vOps_q0 rfl rfl rfl rfl rfl ?_
  refine vOps_q0 rfl rfl rfl rfl rfl ?_
  refine vOps_q0 rfl rfl rfl rfl rfl ?_
  refine vOps_q0 rfl rfl rfl rfl rfl ?_
  refine vOps_qp rfl rfl rfl rfl (q_ix rfl rfl) ⟨by omega, by omega⟩ ?_
  refine vOps_q0 rfl rfl rfl rfl (q_load (c := .sl 5) rfl rfl rfl rfl (by rw [Int.toNat_natCast, Nat.mul_one]; exact hC1)) ?_
  refine vOps_q0 rfl rfl rfl rfl rfl ?_
  refine vOps_qp rfl rfl rfl rfl rfl (by (try dsimp only); (try simp only [Dat.len, bld_len, Int.toNat_natCast, List.length_set]); omega) ?_
  refine vOps_qp rfl rfl rfl rfl rfl (by (try dsimp only); (try simp only [Dat.len, bld_len, Int.toNat_natCast, List.length_set]); omega) ?_
  refine vOps_q0 rfl rfl rfl rfl rfl ?_
  refine vOps_qp rfl rfl rfl rfl rfl (by (try dsimp only); (try simp only [Dat.len, bld_len, Int.toNat_natCast, List.length_set]); omega) ?_
  refine vOps_m rfl rfl rfl rfl rfl rfl (And.intro (by (try dsimp only); (try simp only [Dat.len, bld_len, Int.toNat_natCast, List.length_set]); omega) ?_)
  refine n_of (N' := K16) k16 ?_
  refine n_of (N' := N15) n15 ?_
  refine ⟨_, _, _, _, _, rfl, ?_⟩
  exact h _ _ _ (mat_one hi) (put_at hi) ⟨.inr rfl, .inr rfl, .inr rfl, .inr rfl, .inr rfl, .inr rfl, trivial⟩
theorem r32_ok {l0 l1 l3 : List Nat} {g : BB} {M : List (List Nat)} {N x i : Nat} (hi : i < N) {Nx : St → Prop} {X : Nat → St → Prop} {R : St → Prop}
    (h : ∀ e v, v = g i → LeEnvS e (envQ N x i v) → Nx ⟨e, full l0 l1 (bld g N) l3 M x⟩) :
    CodeOK Try.prog 208 2 cR32 ⟨(15, exi .i64 (i : Int)) :: envP N x, full l0 l1 (bld g N) l3 M x⟩ Nx X R := by
  refine k_code tyOK mixes ?_
  refine c_region fun K16 k16 => ?_
  refine vOps_q0 rfl rfl rfl rfl rfl ?_
  refine vOps_q0 rfl rfl rfl rfl rfl ?_
  refine vOps_qp rfl rfl rfl rfl rfl (by (try dsimp only); (try simp only [Dat.len, bld_len, Int.toNat_natCast, List.length_set]); omega) ?_
  refine vOps_qp rfl rfl rfl rfl rfl (by (try dsimp only); (try simp only [Dat.len, bld_len, Int.toNat_natCast, List.length_set]); omega) ?_
  refine vOps_q0 rfl rfl rfl rfl rfl ?_
  refine n_of (N' := K16) k16 ?_
  exact h _ _ (show (bld g N).getD ((i : Nat) : Int).toNat 0 = g i by rw [Int.toNat_natCast, bld_at 0 _ hi]) ⟨.inr rfl, .inr rfl, .inr rfl, .inr rfl, .inr rfl, .inr rfl, trivial⟩
end
end Go.AX
