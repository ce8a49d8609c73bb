/- A symbolic walk over the code of one function, and that it tells no more than the model does: no condition. -/
import Derived.Test.YtfhgggjpdimaoaaSqAxK
set_option linter.unusedVariables false
set_option linter.unusedSimpArgs false
namespace Go.AX
noncomputable section
open Go.RowKit

/-! ## Loops that say only what changes -/

def envsFo : List (Nat × AV) → (List (Nat × AV) → Prop) → Prop
  | [], K => K []
  | (t, α) :: r, K => α.fo fun α => envsFo r fun r => K ((t, α) :: r)
theorem envsFo_iff : ∀ (e : List (Nat × AV)) (K : List (Nat × AV) → Prop), envsFo e K ↔ K e
  | [], K => Iff.rfl
  | (t, α) :: r, K => by simp only [envsFo, AV.fo_iff]; exact envsFo_iff r _
def pick (env : List (Nat × AV)) : List Nat → List (Nat × AV)
  | [] => []
  | t :: ts => (t, envGet env t) :: pick env ts
def setL : List Ent → List (Nat × Ent) → List Ent
  | L, [] => L
  | L, (k, E) :: r => setL (L.set k E) r
def LEq : List Ent → List Ent → Prop
  | [], [] => True
  | E :: r, F :: r' => E = F ∧ LEq r r'
  | _, _ => False
theorem LEq.eq : ∀ {L L' : List Ent}, LEq L L' → L = L'
  | [], [], _ => rfl
  | E :: r, F :: r', ⟨h1, h2⟩ => by rw [h1, LEq.eq h2]
  | [], _ :: _, h => h.elim
  | _ :: _, [], h => h.elim
theorem LeEnvS_pick {env : List (Nat × AV)} : ∀ ts, LeEnvS env (pick env ts)
  | [] => trivial
  | t :: ts => ⟨.inr rfl, LeEnvS_pick ts⟩
theorem LeEnvS_app {env : List (Nat × AV)} : ∀ {a b : List (Nat × AV)}, LeEnvS env a → LeEnvS env b → LeEnvS env (a ++ b)
  | [], b, _, h => h
  | (t, α) :: a, b, ⟨h1, h2⟩, h => ⟨h1, LeEnvS_app h2 h⟩

section
variable {P : Program} {ty : TyT} {n m0 : Nat}

/-! ### One step of code: what comes after it goes by a name -/

variable {id : Nat} {ops : Array Oper} {x y c : Code} {s : St} {N : St → Prop} {X : Nat → St → Prop} {R : St → Prop}

theorem c_seq (h : ∀ N', N' = (fun s' => vCode P ty n m0 y s' N X R) → vCode P ty n m0 x s N' X R) : vCode P ty n m0 (.seq x y) s N X R := by
  simp only [vCode]; exact h _ rfl
theorem c_skip (h : N s) : vCode P ty n m0 .skip s N X R := by simp only [vCode]; exact h
theorem c_ret (h : R s) : vCode P ty n m0 .ret s N X R := by simp only [vCode]; exact h
theorem c_exit (h : X id s) : vCode P ty n m0 (.exit id) s N X R := by simp only [vCode]; exact h
theorem c_region (h : ∀ K, K = N → vOps P ty n m0 ops.toList 0 ops.toList s K) : vCode P ty n m0 (.region id ops false) s N X R := by
  simp only [vCode]; exact h _ rfl
theorem c_draw (nh : Nat) (l : List Nat) (hok : okDraw ops.toList nh l = true) (h : ∀ K, K = N → vHead P ty n ops.toList l s fun s' => vOps P ty n m0 ops.toList nh (ops.toList.drop nh) s' K) : vCode P ty n m0 (.region id ops true) s N X R := by
  simp only [vCode]; exact .inl ⟨nh, l, hok, h _ rfl⟩
theorem c_draw2 (nh p d : Nat) (l : List Nat) (hok : okDraw2 ops.toList nh p d l = true) (h : ∀ K, K = N → vHead P ty n ops.toList l s fun s' => madeVar P ty n ops.toList p d s' fun s' => vOps P ty n m0 ops.toList nh (ops.toList.drop nh) s' K) : vCode P ty n m0 (.region id ops true) s N X R := by
  simp only [vCode]; exact .inr (.inl ⟨nh, p, d, l, hok, h _ rfl⟩)
theorem c_draw3 (nh p d qs tv : Nat) (l : List Nat) (hok : okDraw3 ops.toList nh p d qs tv l = true) (h : ∀ K, K = N → vHead P ty n ops.toList l s fun s' => keptVar P ty n ops.toList p d tv s' fun s' => vOps P ty n m0 ops.toList nh (ops.toList.drop nh) s' K) : vCode P ty n m0 (.region id ops true) s N X R := by
  simp only [vCode]; exact .inr (.inr (.inl ⟨nh, p, d, qs, tv, l, hok, h _ rfl⟩))
theorem c_drawE (ts : List Nat) (h : vOps P ty n m0 ops.toList 0 ops.toList s fun s1 => envsFo (pick s1.env ts) fun e => lFo s1.L fun L => vAny P ty n m0 ops.toList ops.toList.length (List.replicate ops.toList.length false) s (Eqv ⟨e, L⟩) ∧ N ⟨e, L⟩) : vCode P ty n m0 (.region id ops true) s N X R := by
  obtain ⟨s1, h⟩ := vOps_some _ _ _ h
  simp only [envsFo_iff, lFo_iff] at h
  simp only [vCode]; exact .inr (.inr (.inr (.inl ⟨_, h.1, h.2⟩)))
theorem c_own (h : ∀ K, K = N → RegionOK P n m0 id ops s K) : vCode P ty n m0 (.region id ops true) s N X R := by
  simp only [vCode]; exact .inr (.inr (.inr (.inr (h _ rfl))))
theorem c_cond {t : Operand} {β : Bool} (hc : ev s.env t = exb β) (hT : β = true → vCode P ty n m0 x s N X R) (hF : β = false → vCode P ty n m0 y s N X R) : vCode P ty n m0 (.cond t x y) s N X R := by
  simp only [vCode, hc]; exact ⟨hT, hF⟩
theorem c_block (h : ∀ X', X' = (fun id' s' => bif Nat.beq id' id then N s' else X id' s') → vCode P ty n m0 c s N X' R) : vCode P ty n m0 (.block id c) s N X R := by
  simp only [vCode]; exact h _ rfl
theorem n_of {N' : St → Prop} (h : N' = N) (k : N s) : N' s := h ▸ k
theorem x_here {X' : Nat → St → Prop} (h : X' = fun id' s' => bif Nat.beq id' id then N s' else X id' s') (k : N s) : X' id s := by
  rw [h]; simp; exact k
theorem x_out {X' : Nat → St → Prop} {id2 : Nat} (h : X' = fun id' s' => bif Nat.beq id' id then N s' else X id' s') (hb : Nat.beq id2 id = false) (k : X id2 s) : X' id2 s := by
  rw [h]; simp only [hb]; exact k

theorem c_norm {e e1 : List (Nat × AV)} {L L1 : List Ent} (he : envsFo e fun e => e = e1) (hL : lFo L fun L => L = L1) (h : vCode P ty n m0 c ⟨e1, L1⟩ N X R) : vCode P ty n m0 c ⟨e, L⟩ N X R := by
  rw [envsFo_iff] at he; rw [lFo_iff] at hL; rw [he, hL]; exact h

def vLoop (P : Program) (ty : TyT) (n m0 : Nat) (c : Code) (s1 : St) (ts : List Nat) {ι : Type} (ov : ι → List (Nat × AV)) (dv : ι → List (Nat × Ent)) (μ : ι → Nat) (i0 : ι) (X : Nat → St → Prop) (R : St → Prop) : Prop :=
  envsFo (pick s1.env ts) fun e => lFo s1.L fun L => LeEnvS s1.env (ov i0) ∧ LEq L (setL L (dv i0)) ∧
    ∀ i N, (N = fun s' => ∃ j, μ j < μ i ∧ Le m0 s' ⟨ov j ++ e, setL L (dv j)⟩) → vCode P ty n m0 c ⟨ov i ++ e, setL L (dv i)⟩ N X R

theorem loop_keep {s1 : St} (ps : List NilAt) (ts : List Nat) {ι : Type} (ov : ι → List (Nat × AV)) (dv : ι → List (Nat × Ent)) (μ : ι → Nat) (i0 : ι)
    (h1 : nilsOK ps) (h2 : nilsAt ps s = some s1) (h : vLoop P ty n m0 c s1 ts ov dv μ i0 X R) : vCode P ty n m0 (.loop c) s N X R := by
  unfold vLoop at h
  simp only [envsFo_iff, lFo_iff] at h
  obtain ⟨h3, h4, h5⟩ := h
  simp only [vCode]
  exact ⟨ι, fun i => ⟨ov i ++ pick s1.env ts, setL s1.L (dv i)⟩, μ, i0, .inr (.inr ⟨ps, s1, h1, h2, h4.eq, LeEnvS_app h3 (LeEnvS_pick ts)⟩), fun i => h5 i _ rfl⟩

theorem spec_of_codeR (hty : TyOK P ty) (hmix : P.follows .mixedOrders = true) {f : FuncId} {fn : Func} {c : Code} {L : List Ent} {args : List A1} {L' : List Ent} {ret : AV} (hf : P.funcs[f]? = some fn) (hb : fn.body = some c)
    (hname : (fn.name == "runtime.NumGoroutine") = false) (hnt : Nat.ble args.length fn.ntmps = true) (hk : KeepsS L L')
    (h : good L args → ∀ R', R' = vRet ty L.length fn.results.toList L' ret → vCode P ty fn.ntmps L.length c ⟨argEnv 0 args, L⟩ R' (fun _ _ => False) R') : Spec P f L args L' ret :=
  spec_of_code hty hmix hf hb hname hnt hk fun hg => h hg _ rfl
theorem ne_of_beqF {α : Type} [BEq α] [LawfulBEq α] {a b : α} (h : (a == b) = false) : a ≠ b := by
  intro e; subst e; simp at h
theorem ne_of_bneT {α : Type} [BEq α] [LawfulBEq α] {a b : α} (h : (a != b) = true) : a ≠ b := by
  intro e; subst e; simp [bne] at h
theorem eq_of_bneF {α : Type} [BEq α] [LawfulBEq α] {a b : α} (h : (a != b) = false) : a = b := by
  simpa [bne] using h
end
end
end Go.AX
