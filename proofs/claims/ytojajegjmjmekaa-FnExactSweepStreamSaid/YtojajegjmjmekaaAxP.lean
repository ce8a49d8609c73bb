/- A symbolic walk over the code of one function, and that it tells no more than the model does: no condition. -/
import Derived.Test.YtojajegjmjmekaaAxO
set_option linter.unusedVariables false
set_option linter.unusedSimpArgs false
namespace Go.AX
noncomputable section
open Go.RowKit

/-! ## Small regions: every order -/

/-- The same entries; of the temporaries no more. -/
def LeEnvS (env : List (Nat × AV)) : List (Nat × AV) → Prop
  | [] => True
  | (t, α) :: r => (α = one .any ∨ envGet env t = α) ∧ LeEnvS env r
theorem LeEnvS_get {env : List (Nat × AV)} {σ : List Value} {a : Act} (h : ∀ t, RelV σ (envGet env t) (a.tmps.getD t undef)) : ∀ {e : List (Nat × AV)}, LeEnvS env e → ∀ t, RelV σ (envGet e t) (a.tmps.getD t undef)
  | [], _, t => trivial
  | (t', α) :: r, ⟨h1, h2⟩, t => by
    simp only [envGet]
    cases hb : Nat.beq t' t
    · exact LeEnvS_get h h2 t
    · have := Nat.eq_of_beq_eq_true hb; subst this
      rcases h1 with rfl | h1
      · exact trivial
      · rw [cond_true, ← h1]; exact h t'


def allR (p : Nat → Prop) : List Nat → Prop
  | [] => False
  | [i] => p i
  | i :: r => p i ∧ allR p r
theorem allR_get {p : Nat → Prop} : ∀ {r : List Nat}, allR p r → ∀ i, i ∈ r → p i
  | [], h, _, _ => h.elim
  | [j], h, i, hi => by simp at hi; subst hi; exact h
  | j :: k :: r, ⟨h1, h2⟩, i, hi => by
    cases hi with
    | head => exact h1
    | tail _ hi => exact allR_get h2 i hi
theorem allR_ne {p : Nat → Prop} {r : List Nat} (h : allR p r) : r ≠ [] := by
  intro e; subst e; exact h

def vAny (P : Program) (ty : TyT) (n m0 : Nat) (ops : List Oper) : Nat → List Bool → St → (St → Prop) → Prop
  | 0, l, s, K => Region.ready .any ops.toArray l.toArray = [] ∧ K s
  | f + 1, l, s, K => ∃ r : List Nat, Region.ready .any ops.toArray l.toArray = r ∧ allR (fun i => match ops[i]? with
      | some o => bif o.guard.isNone then vOp P ty n m0 o s fun s' => norm (chg o.op) s' fun s' => vAny P ty n m0 ops f (l.set i true) s' K else False
      | none => False) r

section
variable {P : Program} {ty : TyT} {w0 : World} {σ0 : List Value} {L0 : List Ent} {n : Nat}

theorem vAny_go (hty : TyOK P ty) {ops : List Oper} {K : St → Prop} {Q : Exit → Act → World → Prop} (hK : ∀ s' σ' a' w', K s' → At w0 σ0 L0 n s' σ' a' w' → Q .normal a' w') :
    ∀ (f : Nat) (l : List Bool) (s : St) (σ : List Value) (a : Act) (w : World), vAny P ty n σ0.length ops f l s K → At w0 σ0 L0 n s σ a w → wpAny P .any ops.toArray Q f l.toArray a w
  | 0, l, s, σ, a, w, h, hA => ⟨h.1, hK s σ a w h.2 hA⟩
  | f + 1, l, s, σ, a, w, h, hA => by
    obtain ⟨r, hr, hall⟩ := h
    refine ⟨fun h0 => absurd (hr.symm.trans h0) (allR_ne hall), fun i hi => ?_⟩
    rw [hr] at hi
    have hp := allR_get hall i hi
    unfold wpOp
    simp only [List.getElem?_toArray]
    split at hp
    · rename_i o ho
      simp only [ho]
      cases hg : o.guard.isNone
      · rw [hg] at hp; exact hp.elim
      · rw [hg] at hp
        simp only [cond_true] at hp
        have hg' : o.guard = none := by simpa using hg
        have hw : Region.wanted o (yielded ops.toArray a.tmps) = true := by unfold Region.wanted; rw [hg']
        rw [hw]
        simp only [if_true]
        left
        refine vOp_sound hty hp hA fun s' σ' a' w' hk hA' => ?_
        rw [norm_iff] at hk
        have := vAny_go hty hK f (l.set i true) s' σ' a' w' hk hA'
        simpa using this
    · exact hp.elim

/-- The same entries, the temporaries that go on being looked at. -/
def Eqv (s1 s' : St) : Prop := s'.L = s1.L ∧ LeEnvS s'.env s1.env

theorem vAny_sound (hty : TyOK P ty) (hmix : P.follows .mixedOrders = true) {id : Nat} {ops : List Oper} {s s1 : St} {K : St → Prop} (h : vAny P ty n σ0.length ops ops.length (List.replicate ops.length false) s (Eqv s1)) (h1 : K s1) {Q : Exit → Act → World → Prop}
    (hK : ∀ s' σ' a' w', K s' → At w0 σ0 L0 n s' σ' a' w' → Q .normal a' w') {σ : List Value} {a : Act} {w : World} (hA : At w0 σ0 L0 n s σ a w) : (Code.region id ops.toArray true).wp P Q a w := by
  refine wp_region_any hmix ?_
  rw [drew_eq]
  have := vAny_go (Q := Q) hty (K := Eqv s1) (fun s' σ' a' w' ⟨e1, e2⟩ hA' => hK s1 σ' a' w' h1 ⟨by rw [← e1]; exact hA'.sat, by rw [← e1]; exact hA'.fr, LeEnvS_get hA'.env e2, hA'.nodef, hA'.size⟩) _ _ s σ a (w.drewN 1) h (hA.ext (Ext.drewN w 1))
  simpa using this
end
end
end Go.AX
