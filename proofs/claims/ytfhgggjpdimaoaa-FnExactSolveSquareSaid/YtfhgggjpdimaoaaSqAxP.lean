/- A symbolic walk over the code of one function, and that it tells no more than the model does: no condition. -/
import Derived.Test.YtfhgggjpdimaoaaSqAxO
set_option linter.unusedVariables false
set_option linter.unusedSimpArgs false
namespace Go.AX
noncomputable section
open Go.RowKit

/-! ## Small regions: every order -/

/-- The same entries; of the temporaries no more. -/
def LeEnvS (env : List (Nat × AV)) : List (Nat × AV) → Prop
  | [] => True
  | (t, α) :: r => (α = one .any ∨ envGet env t = α) ∧ LeEnvS env r
theorem LeEnvS_get {env : List (Nat × AV)} {σ : List Value} {a : Act} (h : ∀ t, RelV σ (envGet env t) (a.tmps.getD t undef)) : ∀ {e : List (Nat × AV)}, LeEnvS env e → ∀ t, RelV σ (envGet e t) (a.tmps.getD t undef)
  | [], _, t => trivial
  | (t', α) :: r, ⟨h1, h2⟩, t => by
    simp only [envGet]
    cases hb : Nat.beq t' t
    · exact LeEnvS_get h h2 t
    · have := Nat.eq_of_beq_eq_true hb; subst this
      rcases h1 with rfl | h1
      · exact trivial
      · rw [cond_true, ← h1]; exact h t'


def allR (p : Nat → Prop) : List Nat → Prop
  | [] => True
  | i :: r => p i ∧ allR p r
theorem allR_get {p : Nat → Prop} : ∀ {r : List Nat}, allR p r → ∀ i, i ∈ r → p i
  | [], h, i, hi => by cases hi
  | j :: r, ⟨h1, h2⟩, i, hi => by
    cases hi with
    | head => exact h1
    | tail _ hi => exact allR_get h2 i hi

def anyStep (P : Program) (ty : TyT) (n m0 : Nat) (ops : List Oper) (s : St) (i : Nat) (K : St → Prop) : Prop :=
  match ops[i]? with
  | some o => bif o.guard.isNone then vOp P ty n m0 o s fun s' => norm (chg o.op) s' K else False
  | none => False

def vAny (P : Program) (ty : TyT) (n m0 : Nat) (ops : List Oper) : Nat → List Bool → St → (St → Prop) → Prop
  | 0, l, s, K => Region.ready .any ops.toArray l.toArray = [] ∧ K s
  | f + 1, l, s, K => ∃ r : List Nat, (Region.ready .any ops.toArray l.toArray = r ∧ r.isEmpty = false) ∧ allR (fun i => anyStep P ty n m0 ops s i fun s' => vAny P ty n m0 ops f (l.set i true) s' K) r

section
variable {P : Program} {ty : TyT} {w0 : World} {σ0 : List Value} {L0 : List Ent} {n : Nat}

theorem vAny_go (hty : TyOK P ty) {ops : List Oper} {K : St → Prop} {Q : Exit → Act → World → Prop} (hK : ∀ s' σ' a' w', K s' → At w0 σ0 L0 n s' σ' a' w' → Q .normal a' w') :
    ∀ (f : Nat) (l : List Bool) (s : St) (σ : List Value) (a : Act) (w : World), vAny P ty n σ0.length ops f l s K → At w0 σ0 L0 n s σ a w → wpAny P .any ops.toArray Q f l.toArray a w
  | 0, l, s, σ, a, w, h, hA => ⟨h.1, hK s σ a w h.2 hA⟩
  | f + 1, l, s, σ, a, w, h, hA => by
    obtain ⟨r, ⟨hr, hne⟩, hall⟩ := h
    refine ⟨fun h0 => (by rw [hr] at h0; subst h0; cases hne), fun i hi => ?_⟩
    rw [hr] at hi
    have hp := allR_get hall i hi
    unfold anyStep at hp
    unfold wpOp
    simp only [List.getElem?_toArray]
    split at hp
    · rename_i o ho
      simp only [ho]
      cases hg : o.guard.isNone
      · rw [hg] at hp; exact hp.elim
      · rw [hg] at hp
        simp only [cond_true] at hp
        have hg' : o.guard = none := by simpa using hg
        have hw : Region.wanted o (yielded ops.toArray a.tmps) = true := by unfold Region.wanted; rw [hg']
        rw [hw]
        simp only [if_true]
        left
        refine vOp_sound hty hp hA fun s' σ' a' w' hk hA' => ?_
        rw [norm_iff] at hk
        have := vAny_go hty hK f (l.set i true) s' σ' a' w' hk hA'
        simpa using this
    · exact hp.elim

/-- The same entries, the temporaries that go on being looked at. -/
def Eqv (s1 s' : St) : Prop := s'.L = s1.L ∧ LeEnvS s'.env s1.env

theorem vAny_sound (hty : TyOK P ty) (hmix : P.follows .mixedOrders = true) {id : Nat} {ops : List Oper} {s s1 : St} {K : St → Prop} (h : vAny P ty n σ0.length ops ops.length (List.replicate ops.length false) s (Eqv s1)) (h1 : K s1) {Q : Exit → Act → World → Prop}
    (hK : ∀ s' σ' a' w', K s' → At w0 σ0 L0 n s' σ' a' w' → Q .normal a' w') {σ : List Value} {a : Act} {w : World} (hA : At w0 σ0 L0 n s σ a w) : (Code.region id ops.toArray true).wp P Q a w := by
  refine wp_region_any hmix ?_
  rw [drew_eq]
  have := vAny_go (Q := Q) hty (K := Eqv s1) (fun s' σ' a' w' ⟨e1, e2⟩ hA' => hK s1 σ' a' w' h1 ⟨by rw [← e1]; exact hA'.sat, by rw [← e1]; exact hA'.fr, LeEnvS_get hA'.env e2, hA'.nodef, hA'.size⟩) _ _ s σ a (w.drewN 1) h (hA.ext (Ext.drewN w 1))
  simpa using this
theorem vOp_some {n m0 : Nat} {o : Oper} {s : St} {K : St → Prop} (h : vOp P ty n m0 o s K) : ∃ s', K s' := by
  unfold vOp at h
  cases hd : okDst n o.dst
  · simp [hd] at h
  · simp only [hd, cond_true] at h
    split at h
    · exact ⟨_, (both_split h).2⟩
    · split at h
      · exact ⟨_, (both_split h).2⟩
      · split at h
        · exact ⟨_, (both_split h).2⟩
        · split at h
          · unfold vCallA at h
            simp only [natsFo_iff, lFo_iff, asFo_iff] at h
            obtain ⟨_, _, _, _, hK⟩ := h
            exact ⟨_, hK⟩
          · exact h.elim
theorem settle_some {dst : Option Nat} {s : St} {K : St → Prop} (h : settle dst s K) : ∃ s', K s' := by
  unfold settle at h
  split at h
  · exact ⟨_, h⟩
  · split at h
    · rename_i β _
      cases β with
      | true => exact ⟨_, h.1 rfl⟩
      | false => exact ⟨_, h.2 rfl⟩
    · exact ⟨_, h⟩
theorem vOps_some {n m0 : Nat} {ops : List Oper} {K : St → Prop} : ∀ (r : List Oper) (i : Nat) (s : St), vOps P ty n m0 ops i r s K → ∃ s', K s'
  | [], i, s, h => ⟨s, h⟩
  | o :: r, i, s, h => by
    simp only [vOps] at h
    split at h
    · obtain ⟨s', hk⟩ := vOp_some h
      rw [norm_iff] at hk
      cases hg : isGuard ops i
      · simp only [hg, cond_false] at hk; exact vOps_some r (i + 1) s' hk
      · simp only [hg, cond_true] at hk
        obtain ⟨s'', hk'⟩ := settle_some hk
        exact vOps_some r (i + 1) s'' hk'
    · cases hd : okDst n o.dst
      · simp [hd] at h
      · simp only [hd, cond_true] at h
        exact vOps_some r (i + 1) _ h
    · exact h.elim
end
end
end Go.AX
