/- What the functions of this program do, one contract a function, by that walk: each under what its own statement says. -/
import Derived.Test.YtfhgggjpdimaoaaSqE6
import Derived.Test.YtfhgggjpdimaoaaSqE2
set_option linter.unusedVariables false
set_option linter.unusedSimpArgs false
namespace Go.AX
noncomputable section
open Go.RowKit Go.Proofs
set_option maxRecDepth 100000
set_option maxHeartbeats 1000000
open Go

section
variable {P : Program} {ty : TyT}
theorem spec_of_ok2 (hty : TyOK P ty) {f : FuncId} {fn : Func} {c : Code} {L : List Ent} {args : List A1} {xs : List A1} (hf : P.funcs[f]? = some fn) (hb : fn.body = some c)
    (hname : (fn.name == "runtime.NumGoroutine") = false) (hnt : Nat.ble args.length fn.ntmps = true) (hk : Keeps L L)
    (h : good L args → ∀ R', (R' = fun s => s.L = L ∧ resAll ty s fn.results.toList = some xs) → CodeOK P fn.ntmps L.length c ⟨argEnv 0 args, L⟩ R' (fun _ _ => False) R') : Spec P f L args L (tupOf xs) := by
  refine ⟨hk, fun w σ us hs hr => .inl ⟨?_, ?_⟩⟩
  · simp only [callFunc, Sem.run_bind, run_program, Result.andThen_ok, hf, hname, hb, Bool.false_eq_true, if_false, Option.isNone_some]
    rfl
  · refine calls_of_wp hf hb ?_
    have hlen := hr.len
    have hnt := Nat.le_of_ble_eq_true hnt
    have hA : At w σ L fn.ntmps ⟨argEnv 0 args, L⟩ σ { tmps := us.toArray ++ Array.replicate (fn.ntmps - us.toArray.size) undef, defers := [] } w := by
      refine ⟨hs, Fr.refl _ _ _, fun t => ?_, rfl, by simp; omega⟩
      have := argEnv_ok (i := 0) hr t
      simp only [Nat.zero_le, if_true, Nat.sub_zero] at this
      have e : (us.toArray ++ Array.replicate (fn.ntmps - us.toArray.size) undef).getD t undef = us.getD t undef := by
        rw [Array.getD_eq_getD_getElem?, List.getD_eq_getElem?_getD, Array.getElem?_append]
        split
        · simp
        · rename_i hge
          simp at hge
          rw [List.getElem?_eq_none hge, Array.getElem?_replicate]
          split <;> rfl
      rw [e]; exact this
    have fin : ∀ s' σ' a' w', (s'.L = L ∧ resAll ty s' fn.results.toList = some xs) → At w σ L fn.ntmps s' σ' a' w' →
        a'.defers = [] ∧ ∃ v, (results fn a'.tmps).run P w' = .ok v w' ∧ ∃ σ', SatL σ' L w' ∧ RelV σ' (tupOf xs) v ∧ Fr w σ L w' σ' L := by
      rintro s' σ' a' w' ⟨h1, h2⟩ hA'
      obtain ⟨v, g1, g2⟩ := results_run hty hA'.sat hA'.env h2
      have hs' := hA'.sat
      have hf' := hA'.fr
      rw [h1] at hs' hf'
      exact ⟨hA'.nodef, v, g1, σ', hs', g2, hf'⟩
    refine h (good_sat hs hr) _ rfl w σ L _ hs.len ?_ ?_ ?_ σ _ w hA
    · intro s' σ' a' w' h' hA'
      obtain ⟨p1, v, p2, p3⟩ := fin s' σ' a' w' h' hA'
      exact ⟨p1, v, p2, v, rfl, p3⟩
    · intro id s' σ' a' w' h' _; exact h'.elim
    · intro s' σ' a' w' h' hA'
      obtain ⟨p1, v, p2, p3⟩ := fin s' σ' a' w' h' hA'
      exact ⟨p1, v, p2, v, rfl, p3⟩
end
theorem vOps_q2 {n m0 i : Nat} {ol l r : List Oper} {o : Oper} {s : St} {K : St → Prop} {φ : Option Prop} {α : AV} (hl : l = o :: r) (hw : wants s.env ol o = some true) (hd : okDst n o.dst = true) (hg : isGuard ol i = false) (hq : qOp ty s.env s.L o.op = some (φ, α)) (h : both φ (vOps Try.prog ty n m0 ol (i + 1) r { env := envPut s.env o.dst α, L := s.L } K)) : vOps Try.prog ty n m0 ol i l s K := by
  subst hl; exact vOps_q hw hd hg hq h
theorem vOps_q0 {n m0 i : Nat} {ol l r : List Oper} {o : Oper} {s : St} {K : St → Prop} {α : AV} (hl : l = o :: r) (hw : wants s.env ol o = some true) (hd : okDst n o.dst = true) (hg : isGuard ol i = false) (hq : qOp ty s.env s.L o.op = some (none, α)) (h : vOps Try.prog ty n m0 ol (i + 1) r { env := envPut s.env o.dst α, L := s.L } K) : vOps Try.prog ty n m0 ol i l s K := vOps_q2 hl hw hd hg hq h
theorem vOps_qp {n m0 i : Nat} {ol l r : List Oper} {o : Oper} {s : St} {K : St → Prop} {p : Prop} {α : AV} (hl : l = o :: r) (hw : wants s.env ol o = some true) (hd : okDst n o.dst = true) (hg : isGuard ol i = false) (hq : qOp ty s.env s.L o.op = some (some p, α)) (hp : p) (h : vOps Try.prog ty n m0 ol (i + 1) r { env := envPut s.env o.dst α, L := s.L } K) : vOps Try.prog ty n m0 ol i l s K := vOps_q2 hl hw hd hg hq ⟨hp, h⟩
theorem keeps_rows : ∀ M : List (List Nat), Keeps (M.map rowE) (M.map rowE)
  | [] => rfl
  | m :: M => keeps_rows M
theorem keeps_full (l0 l1 l2 l3 : List Nat) (M : List (List Nat)) (x : Nat) : Keeps (full l0 l1 l2 l3 M x) (full l0 l1 l2 l3 M x) := keeps_rows M
/-- The program's search for a pivot, t rows from k on. -/
def pvI (c : Nat → Nat) (k : Nat) : Nat → Int × Nat
  | 0 => (-1, cn .f32 0)
  | t + 1 => bif fcmp .gtr .f32 (c (k + t)) (pvI c k t).2 then (((k + t : Nat) : Int), c (k + t)) else pvI c k t
def colM (M : List (List Nat)) (k : Nat) : Nat → Nat := fun i => fabs ((M.getD i []).getD k 0)

theorem pvI_T {c : Nat → Nat} {k t : Nat} (h : fcmp .gtr .f32 (c (k + t)) (pvI c k t).2 = true) : pvI c k (t + 1) = (((k + t : Nat) : Int), c (k + t)) := by simp only [pvI, h, cond_true]
theorem pvI_F {c : Nat → Nat} {k t : Nat} (h : fcmp .gtr .f32 (c (k + t)) (pvI c k t).2 = false) : pvI c k (t + 1) = pvI c k t := by simp only [pvI, h, cond_false]
theorem s54 (l0 l1 l2 l3 : List Nat) (M : List (List Nat)) (x C k : Nat) (hk : k < M.length) (hM : M.length ≤ 16) (hr : ∀ i, i < M.length → (M.getD i []).length = M.length) :
    SP 54 (full l0 l1 l2 l3 M x) [.one (.sw 4 M.length C), i64 k] (full l0 l1 l2 l3 M x) (exi .i64 (pvI (colM M k) k (M.length - k)).1) := by
  refine spec_of_ok2 (xs := [.one (.ex (.int .i64 (pvI (colM M k) k (M.length - k)).1))]) tyOK (fn := Try.f54) Try.func54 rfl rfl rfl (keeps_full _ _ _ _ _ _) fun hg R0 hR => ?_
  refine k_seq fun N1 n1 => ?_
  refine k_code tyOK mixes ?_
  refine c_region fun K2 k2 => ?_
  refine n_of (N' := K2) k2 ?_
  refine n_of (N' := N1) n1 ?_
  refine k_seq fun N3 n3 => ?_
  refine k_code tyOK mixes ?_
  refine c_region fun K4 k4 => ?_
  refine n_of (N' := K4) k4 ?_
  refine n_of (N' := N3) n3 ?_
  refine k_seq fun N5 n5 => ?_
  refine k_seq fun N6 n6 => ?_
  refine k_code tyOK mixes ?_
  refine c_region fun K7 k7 => ?_
  refine n_of (N' := K7) k7 ?_
  refine n_of (N' := N6) n6 ?_
  refine k_block fun X7 x7 => ?_
  refine k_loop (ι := { t : Nat // k + t ≤ M.length }) (fun i => ⟨[(0, one (.sw 4 M.length C)), (1, exi .i64 (k : Int)), (5, exi .i64 (pvI (colM M k) k i.1).1), (6, fl32 (pvI (colM M k) k i.1).2), (7, exi .i64 ((k + i.1 : Nat) : Int))], full l0 l1 l2 l3 M x⟩) (fun i => M.length - i.1) ⟨0, by omega⟩ (Imp.env ⟨.inr rfl, .inr rfl, .inr rfl, .inr rfl, .inr rfl, trivial⟩) ?_
  refine fun ⟨t, ht⟩ N8 n8 => ?_
  refine k_seq fun N9 n9 => ?_
  refine k_seq fun N10 n10 => ?_
  refine k_code tyOK mixes ?_
  refine c_region fun K11 k11 => ?_
  refine vOps_q0 rfl rfl rfl rfl rfl ?_
  refine vOps_q0 rfl rfl rfl rfl rfl ?_
  refine vOps_q0 rfl rfl rfl rfl rfl ?_
  refine vOps_q0 rfl rfl rfl rfl rfl ?_
  refine n_of (N' := K11) k11 ?_
  refine n_of (N' := N10) n10 ?_
  refine k_cond rfl (fun h0 => ?_) (fun h0 => ?_)
  · have q0 := of_decide_eq_true h0
    (try dsimp only at q0)
    have hkt : k + t < M.length := by omega
    refine k_skip ?_
    refine n_of (N' := N9) n9 ?_
    refine k_seq fun N12 n12 => ?_
    refine k_block fun X13 x13 => ?_
    refine k_seq fun N14 n14 => ?_
    refine k_borrow1 (i := k + t) hkt (env' := [(0, one (.sw 4 M.length C)), (1, exi .i64 (k : Int)), (5, exi .i64 (pvI (colM M k) k t).1), (6, fl32 (pvI (colM M k) k t).2), (7, exi .i64 ((k + t : Nat) : Int))]) ⟨.inr rfl, .inr rfl, .inr rfl, .inr rfl, .inr rfl, trivial⟩ fun C' hC hCl N15 n15 => ?_
    refine k_code tyOK mixes ?_
    refine c_region fun K16 k16 => ?_
    refine vOps_q0 rfl rfl rfl rfl rfl ?_
    refine vOps_q0 rfl rfl rfl rfl rfl ?_
    refine vOps_q rfl rfl rfl rfl ⟨by omega, ?_⟩
    refine vOps_q0 rfl rfl rfl rfl (q_load (c := .sl 5) rfl rfl rfl rfl (by show C'[((k + t : Nat) : Int).toNat * 1]? = _; rw [Int.toNat_natCast, Nat.mul_one]; exact hC)) ?_
    refine And.intro ?_ ?_
    · have := hr (k + t) hkt
      simp only [Dat.len]; omega
    refine And.intro ?_ ?_
    · have := hr (k + t) hkt
      simp only [Dat.len, Int.toNat_natCast]; omega
    refine ⟨rfl, _, _, s78 _, ?_⟩
    refine (norm_iff _ _ _).2 ?_
    refine vOps_q0 rfl rfl rfl rfl rfl ?_
    refine n_of (N' := K16) k16 ?_
    refine n_of (N' := N15) n15 ?_
    have e : M.set (k + t) (M.getD (k + t) []) = M := set_same (by rw [List.getD_eq_getElem?_getD, List.getElem?_eq_getElem hkt]; rfl)
    refine ⟨l0, l1, l2, l3, M.getD (k + t) [], rfl, ?_⟩
    rw [e]
    refine n_of (N' := N14) n14 ?_
    refine k_seq fun N17 n17 => ?_
    refine k_code tyOK mixes ?_
    refine c_region fun K18 k18 => ?_
    refine n_of (N' := K18) k18 ?_
    refine n_of (N' := N17) n17 ?_
    refine k_cond rfl (fun h1 => ?_) (fun h1 => ?_)
    · refine k_code tyOK mixes ?_
      refine c_region fun K19 k19 => ?_
      refine n_of (N' := K19) k19 ?_
      refine n_of (N' := N12) n12 ?_
      refine k_code tyOK mixes ?_
      refine c_region fun K20 k20 => ?_
      refine n_of (N' := K20) k20 ?_
      refine n_of (N' := N8) n8 ?_
      have e1 := pvI_T (c := colM M k) (k := k) (t := t) h1
      exact ⟨⟨t + 1, by omega⟩, by (dsimp only; omega), Imp.env ⟨.inr rfl, .inr rfl, .inr (congrArg (fun p : Int × Nat => exi .i64 p.1) e1.symm), .inr (congrArg (fun p : Int × Nat => fl32 p.2) e1.symm), .inr (congrArg (exi .i64) (wrN (a := k + t) (b := 1) (by omega))), trivial⟩⟩
    · refine k_skip ?_
      refine n_of (N' := N12) n12 ?_
      refine k_code tyOK mixes ?_
      refine c_region fun K20 k20 => ?_
      refine n_of (N' := K20) k20 ?_
      refine n_of (N' := N8) n8 ?_
      have e1 := pvI_F (c := colM M k) (k := k) (t := t) h1
      exact ⟨⟨t + 1, by omega⟩, by (dsimp only; omega), Imp.env ⟨.inr rfl, .inr rfl, .inr (congrArg (fun p : Int × Nat => exi .i64 p.1) e1.symm), .inr (congrArg (fun p : Int × Nat => fl32 p.2) e1.symm), .inr (congrArg (exi .i64) (wrN (a := k + t) (b := 1) (by omega))), trivial⟩⟩
  · have q0 := of_decide_eq_false h0
    (try dsimp only at q0)
    have e : t = M.length - k := by omega
    subst e
    refine k_exit ?_
    refine x_here x7 ?_
    refine n_of (N' := N5) n5 ?_
    refine k_seq fun N21 n21 => ?_
    refine k_code tyOK mixes ?_
    refine c_region fun K22 k22 => ?_
    refine n_of (N' := K22) k22 ?_
    refine n_of (N' := N21) n21 ?_
    refine k_ret ?_
    refine n_of (N' := R0) hR ?_
    exact ⟨rfl, rfl⟩
end
end Go.AX
