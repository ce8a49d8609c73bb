/- A symbolic walk over the code of one function, and that it tells no more than the model does: no condition. -/
import Derived.Test.YtfhgggjpdimaoaaSqAxW
set_option linter.unusedVariables false
set_option linter.unusedSimpArgs false
namespace Go.AX
noncomputable section
open Go.RowKit

/-! ## Code that is shown to go through, by whatever rule -/

def CodeOK (P : Program) (n m0 : Nat) (c : Code) (s : St) (N : St → Prop) (X : Nat → St → Prop) (R : St → Prop) : Prop :=
  ∀ (w0 : World) (σ0 : List Value) (L0 : List Ent) (Q : Exit → Act → World → Prop), σ0.length = m0 →
    (∀ s' σ a w, N s' → At w0 σ0 L0 n s' σ a w → Q .normal a w) → (∀ id s' σ a w, X id s' → At w0 σ0 L0 n s' σ a w → Q (.exit id) a w) →
    (∀ s' σ a w, R s' → At w0 σ0 L0 n s' σ a w → Q .ret a w) → ∀ σ a w, At w0 σ0 L0 n s σ a w → c.wp P Q a w

/-- One state tells less than the other. -/
def Imp (n m0 : Nat) (s s' : St) : Prop :=
  ∀ (w0 : World) (σ0 : List Value) (L0 : List Ent), σ0.length = m0 → ∀ σ a w, At w0 σ0 L0 n s σ a w → ∃ σ', At w0 σ0 L0 n s' σ' a w

section
variable {P : Program} {ty : TyT} {n m0 : Nat} {id : Nat} {ops : Array Oper} {x y c : Code} {s s' s2 : St} {N : St → Prop} {X : Nat → St → Prop} {R : St → Prop}

theorem Imp.refl (s : St) : Imp n m0 s s := fun _ _ _ _ σ _ _ h => ⟨σ, h⟩
theorem Imp.trans (h : Imp n m0 s s') (k : Imp n m0 s' s2) : Imp n m0 s s2 := fun w0 σ0 L0 hl σ a w hA => by
  obtain ⟨σ', h'⟩ := h w0 σ0 L0 hl σ a w hA
  exact k w0 σ0 L0 hl σ' a w h'
theorem Imp.env {e e' : List (Nat × AV)} {L : List Ent} (h : LeEnvS e e') : Imp n m0 ⟨e, L⟩ ⟨e', L⟩ := fun w0 σ0 L0 hl σ a w hA => ⟨σ, hA.sat, hA.fr, LeEnvS_get hA.env h, hA.nodef, hA.size⟩
theorem Imp.le (h : Le m0 s s') : Imp n m0 s s' := fun w0 σ0 L0 hl σ a w hA => by subst hl; exact h.sound hA

theorem k_code (hty : TyOK P ty) (hmix : P.follows .mixedOrders = true) (h : vCode P ty n m0 c s N X R) : CodeOK P n m0 c s N X R :=
  fun w0 σ0 L0 Q hl hN hX hR σ a w hA => vCode_sound hty hmix c hN hX hR (by rw [hl]; exact h) hA
theorem k_imp (h : Imp n m0 s s') (k : CodeOK P n m0 c s' N X R) : CodeOK P n m0 c s N X R := fun w0 σ0 L0 Q hl hN hX hR σ a w hA => by
  obtain ⟨σ', h'⟩ := h w0 σ0 L0 hl σ a w hA
  exact k w0 σ0 L0 Q hl hN hX hR σ' a w h'
theorem k_seq (h : ∀ N', N' = (fun s' => CodeOK P n m0 y s' N X R) → CodeOK P n m0 x s N' X R) : CodeOK P n m0 (.seq x y) s N X R := fun w0 σ0 L0 Q hl hN hX hR σ a w hA => by
  refine wp_seq (h _ rfl w0 σ0 L0 _ hl ?_ ?_ ?_ σ a w hA)
  · intro s' σ' a' w' h' hA'
    exact h' w0 σ0 L0 Q hl hN hX hR σ' a' w' hA'
  · exact hX
  · exact hR
theorem k_skip (h : N s) : CodeOK P n m0 .skip s N X R := fun w0 σ0 L0 Q hl hN hX hR σ a w hA => wp_skip (hN s σ a w h hA)
theorem k_ret (h : R s) : CodeOK P n m0 .ret s N X R := fun w0 σ0 L0 Q hl hN hX hR σ a w hA => wp_ret (hR s σ a w h hA)
theorem k_exit (h : X id s) : CodeOK P n m0 (.exit id) s N X R := fun w0 σ0 L0 Q hl hN hX hR σ a w hA => wp_exit (hX id s σ a w h hA)
theorem k_cond {t : Operand} {β : Bool} (hc : ev s.env t = exb β) (hT : β = true → CodeOK P n m0 x s N X R) (hF : β = false → CodeOK P n m0 y s N X R) : CodeOK P n m0 (.cond t x y) s N X R := fun w0 σ0 L0 Q hl hN hX hR σ a w hA => by
  have h1 := hA.env.ev t
  rw [hc] at h1
  exact wp_cond_split (show a.eval t = .bool β from h1) (fun e => hT e w0 σ0 L0 Q hl hN hX hR σ a w hA) (fun e => hF e w0 σ0 L0 Q hl hN hX hR σ a w hA)
theorem k_block (h : ∀ X', X' = (fun id' s' => bif Nat.beq id' id then N s' else X id' s') → CodeOK P n m0 c s N X' R) : CodeOK P n m0 (.block id c) s N X R := fun w0 σ0 L0 Q hl hN hX hR σ a w hA => by
  refine wp_block (h _ rfl w0 σ0 L0 _ hl ?_ ?_ ?_ σ a w hA)
  · exact hN
  · intro id' s' σ' a' w' h' hA'
    simp only [Exit.inBlock]
    cases hb : Nat.beq id' id
    · simp only [hb, cond_false] at h'
      rw [if_neg (fun e => by subst e; rw [Nat.beq_refl] at hb; cases hb)]
      exact hX id' s' σ' a' w' h' hA'
    · simp only [hb, cond_true] at h'
      rw [if_pos (Nat.eq_of_beq_eq_true hb)]
      exact hN s' σ' a' w' h' hA'
  · exact hR
theorem k_loop {ι : Type} (I : ι → St) (μ : ι → Nat) (i0 : ι) (h0 : Imp n m0 s (I i0)) (h : ∀ i N', (N' = fun s' => ∃ j, μ j < μ i ∧ Imp n m0 s' (I j)) → CodeOK P n m0 c (I i) N' X R) : CodeOK P n m0 (.loop c) s N X R := fun w0 σ0 L0 Q hl hN hX hR σ a w hA => by
  refine wp_loop_ix (fun i a w => ∃ σ, At w0 σ0 L0 n (I i) σ a w) μ i0 (h0 w0 σ0 L0 hl σ a w hA) fun i a w ⟨σ, hA⟩ => ?_
  refine h i _ rfl w0 σ0 L0 _ hl ?_ ?_ ?_ σ a w hA
  · rintro s' σ' a' w' ⟨j, hj, hi⟩ hA'
    exact ⟨j, hj, hi w0 σ0 L0 hl σ' a' w' hA'⟩
  · exact hX
  · exact hR

theorem spec_of_ok (hty : TyOK P ty) {f : FuncId} {fn : Func} {c : Code} {L : List Ent} {args : List A1} {L' : List Ent} {ret : AV} (hf : P.funcs[f]? = some fn) (hb : fn.body = some c)
    (hname : (fn.name == "runtime.NumGoroutine") = false) (hnt : Nat.ble args.length fn.ntmps = true) (hk : Keeps L L')
    (h : good L args → ∀ R', (R' = fun s => ∃ s', Imp fn.ntmps L.length s s' ∧ vRet ty L.length fn.results.toList L' ret s') → CodeOK P fn.ntmps L.length c ⟨argEnv 0 args, L⟩ R' (fun _ _ => False) R') : Spec P f L args L' ret := by
  refine ⟨hk, fun w σ us hs hr => .inl ⟨?_, ?_⟩⟩
  · simp only [callFunc, Sem.run_bind, run_program, Result.andThen_ok, hf, hname, hb, Bool.false_eq_true, if_false, Option.isNone_some]
    rfl
  · refine calls_of_wp hf hb ?_
    have hlen := hr.len
    have hnt := Nat.le_of_ble_eq_true hnt
    have hA : At w σ L fn.ntmps ⟨argEnv 0 args, L⟩ σ { tmps := us.toArray ++ Array.replicate (fn.ntmps - us.toArray.size) undef, defers := [] } w := by
      refine ⟨hs, Fr.refl _ _ _, fun t => ?_, rfl, by simp; omega⟩
      have := argEnv_ok (i := 0) hr t
      simp only [Nat.zero_le, if_true, Nat.sub_zero] at this
      have e : (us.toArray ++ Array.replicate (fn.ntmps - us.toArray.size) undef).getD t undef = us.getD t undef := by
        rw [Array.getD_eq_getD_getElem?, List.getD_eq_getElem?_getD, Array.getElem?_append]
        split
        · simp
        · rename_i hge
          simp at hge
          rw [List.getElem?_eq_none hge, Array.getElem?_replicate]
          split <;> rfl
      rw [e]; exact this
    have fin : ∀ s' σ' a' w', (∃ s'', Imp fn.ntmps L.length s' s'' ∧ vRet ty L.length fn.results.toList L' ret s'') → At w σ L fn.ntmps s' σ' a' w' →
        a'.defers = [] ∧ ∃ v, (results fn a'.tmps).run P w' = .ok v w' ∧ ∃ σ', SatL σ' L' w' ∧ RelV σ' ret v ∧ Fr w σ L w' σ' L' := by
      rintro s' σ' a' w' ⟨s'', hi, hv⟩ hA'
      obtain ⟨σ'', hA''⟩ := hi w σ L hs.len σ' a' w' hA'
      rw [← hs.len] at hv
      exact vRet_sound hty hv hA''
    refine h (good_sat hs hr) _ rfl w σ L _ hs.len ?_ ?_ ?_ σ _ w hA
    · intro s' σ' a' w' h' hA'
      obtain ⟨p1, v, p2, p3⟩ := fin s' σ' a' w' h' hA'
      exact ⟨p1, v, p2, v, rfl, p3⟩
    · intro id s' σ' a' w' h' _; exact h'.elim
    · intro s' σ' a' w' h' hA'
      obtain ⟨p1, v, p2, p3⟩ := fin s' σ' a' w' h' hA'
      exact ⟨p1, v, p2, v, rfl, p3⟩

/-! ### One operation at a time -/

variable {ol : List Oper} {o : Oper} {i : Nat} {r : List Oper} {cl : List Nat} {K : St → Prop} {φ : Option Prop} {α : AV}

theorem both_norm {b : Bool} {s : St} (h : both φ (K s)) : both φ (norm b s K) := by
  cases φ with
  | none => exact (norm_iff _ _ _).2 h
  | some p => exact ⟨h.1, (norm_iff _ _ _).2 h.2⟩
theorem vOps_q (hw : wants s.env ol o = some true) (hd : okDst n o.dst = true) (hg : isGuard ol i = false) (hq : qOp ty s.env s.L o.op = some (φ, α)) (h : both φ (vOps P ty n m0 ol (i + 1) r { env := envPut s.env o.dst α, L := s.L } K)) : vOps P ty n m0 ol i (o :: r) s K := by
  simp only [vOps, hw, vOp, hd, hq, cond_true, hg, cond_false]
  exact both_norm (K := fun s' => vOps P ty n m0 ol (i + 1) r s' K) h
theorem vOps_m (hw : wants s.env ol o = some true) (hd : okDst n o.dst = true) (hg : isGuard ol i = false) (hq : qOp ty s.env s.L o.op = none) (hq2 : gOp ty s.env s.L o.op = none) (hm : mOp ty m0 o.dst s o.op = some (φ, s')) (h : both φ (vOps P ty n m0 ol (i + 1) r s' K)) : vOps P ty n m0 ol i (o :: r) s K := by
  simp only [vOps, hw, vOp, hd, hq, hq2, hm, cond_true, hg, cond_false]
  exact both_norm (K := fun s' => vOps P ty n m0 ol (i + 1) r s' K) h
theorem vHead_q (ho : ol[i]? = some o) (hw : wants s.env ol o = some true) (hd : okDst n o.dst = true) (hc : callLike o.op = false) (hg : isGuard ol i = false) (hq : qOp ty s.env s.L o.op = some (φ, α)) (h : both φ (vHead P ty n ol cl { env := envPut s.env o.dst α, L := s.L } K)) : vHead P ty n ol (i :: cl) s K := by
  simp only [vHead, ho, hw, vStep, hd, hc, hq, cond_true, cond_false, hg]
  exact both_norm (K := fun s' => vHead P ty n ol cl s' K) h
theorem q_load {env : List (Nat × AV)} {L : List Ent} {T T' : TypeId} {p : Operand} {e j : Nat} {C : List AC} {c : AC} {ti : TI} (hT : ty T = some ti) (hst : ti.k.isSt = false) (hp : ev env p = .v (.one (.pv e j))) (hL : L[e]? = some (.var T' C)) (hc : C[j]? = some c) :
    qOp ty env L (.load T p) = some (none, one c) := by
  simp only [qOp, hp, qLoad, hL, hT, hst, cond_false, hc]
theorem m_store {dst : Option Nat} {s : St} {T T' : TypeId} {p v : Operand} {e j : Nat} {C : List AC} {c : AC} {ti : TI} (hT : ty T = some ti) (hsz : ti.size = 1) (hp : ev s.env p = .v (.one (.pv e j))) (hv : ev s.env v = .v (.one c)) (hc : c.solid = true) (hL : s.L[e]? = some (.var T' C)) (hj : j < C.length) :
    mOp ty m0 dst s (.store T p v) = some (none, { s with env := envPut s.env dst (one .any), L := s.L.set e (.var T' (C.set j c)) }) := by
  have h1 : Nat.ble (j + 1) C.length = true := Nat.ble_eq_true_of_le hj
  have h2 : C.take j ++ [c] ++ C.drop (j + 1) = C.set j c := by rw [List.set_eq_take_append_cons_drop, if_pos hj]; simp
  simp only [mOp, hp, hv, hL, hT, A1.cells, List.length_cons, List.length_nil, hsz, h1, A1.solid, hc, List.all_cons, List.all_nil, Bool.and_true, Nat.zero_add, Nat.beq_refl, cond_true, h2]
end
end
end Go.AX
