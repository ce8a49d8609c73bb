/- A symbolic walk over the code of one function, and that it tells no more than the model does: no condition. -/
import Derived.Test.YtojajegjmjmekaaAxJ
set_option linter.unusedVariables false
set_option linter.unusedSimpArgs false
namespace Go.AX
open Go.RowKit

/-! ## Code, loops, functions -/

def okPi0 : List Nat → List Ent → Bool
  | [], _ => true
  | p :: r, L => Nat.blt p L.length && !(mem p r) && okPi0 r L

theorem mem_false : ∀ {r : List Nat} {p : Nat}, mem p r = false → p ∉ r
  | [], _, _, h => by cases h
  | i :: r, p, hm, h => by
    simp only [mem, Bool.or_eq_false_iff] at hm
    cases h with
    | head => rw [Nat.beq_refl] at hm; cases hm.1
    | tail _ h => exact mem_false hm.2 h

theorem okPi0_spec : ∀ {π : List Nat} {L : List Ent}, okPi0 π L = true → (∀ (i p : Nat), π[i]? = some p → ∃ E, L[p]? = some E) ∧ (∀ (i j p : Nat), π[i]? = some p → π[j]? = some p → i = j)
  | [], L, _ => ⟨fun i p h => by simp at h, fun i j p h => by simp at h⟩
  | q :: r, L, h => by
    simp only [okPi0, Bool.and_eq_true, Bool.not_eq_true'] at h
    obtain ⟨⟨h1, h2⟩, h3⟩ := h
    obtain ⟨i1, i2⟩ := okPi0_spec h3
    have hlt : q < L.length := Nat.lt_of_succ_le (Nat.le_of_ble_eq_true h1)
    have hnc : ∀ (j : Nat), r[j]? ≠ some q := fun j hj => mem_false h2 (List.mem_of_getElem? hj)
    refine ⟨fun i p hi => ?_, fun i j p hi hj => ?_⟩
    · cases i with
      | zero => simp at hi; subst hi; exact ⟨_, List.getElem?_eq_getElem hlt⟩
      | succ i => exact i1 i p (by simpa using hi)
    · cases i with
      | zero =>
        cases j with
        | zero => rfl
        | succ j => simp at hi; subst hi; exact absurd (by simpa using hj) (hnc j)
      | succ i =>
        cases j with
        | zero => simp at hj; subst hj; exact absurd (by simpa using hi) (hnc i)
        | succ j => rw [i2 i j p (by simpa using hi) (by simpa using hj)]

/-- Some of the entries, under other numbers. -/
theorem sel_sat {π : List Nat} {σ : List Value} {L : List Ent} {w : World} (hs : SatL σ L w) (hok : okPi0 π L = true) : SatL (subσ π σ) (subL π L) w ∧ ∀ b, Own (subσ π σ) (subL π L) b → Own σ L b := by
  obtain ⟨h1, h2⟩ := okPi0_spec hok
  have gL : ∀ {i : Nat} {E : Ent}, (subL π L)[i]? = some E → ∃ p E0, π[i]? = some p ∧ L[p]? = some E0 ∧ E = E0.res π := by
    intro i E hi
    simp only [subL, List.getElem?_map] at hi
    cases hp : π[i]? with
    | none => simp [hp] at hi
    | some p =>
      obtain ⟨E0, hE0⟩ := h1 i p hp
      simp [hp, hE0] at hi
      exact ⟨p, E0, rfl, hE0, hi.symm⟩
  have gσ : ∀ {i p : Nat} {v : Value}, π[i]? = some p → (subσ π σ)[i]? = some v → σ[p]? = some v := by
    intro i p v hp hi
    obtain ⟨E0, hE0⟩ := h1 i p hp
    obtain ⟨v0, hv0⟩ := hs.some_val hE0
    rw [subσ_get hp hv0] at hi
    rw [hv0]; exact hi
  refine ⟨⟨by simp [subσ, subL], fun i E v hi hv => ?_, fun i j Ei Ej vi vj b hij hi hvi hj hvj ho => ?_⟩, ?_⟩
  · obtain ⟨p, E0, hp, hE0, rfl⟩ := gL hi
    exact res_ent (hs.ok p E0 v hE0 (gσ hp hv))
  · obtain ⟨p, E0, hp, hE0, rfl⟩ := gL hi
    obtain ⟨q, F0, hq, hF0, rfl⟩ := gL hj
    rw [(res_ownB π E0 vi).1] at ho
    rw [(res_ownB π F0 vj).2]
    refine hs.sep p q E0 F0 vi vj b (fun e => ?_) hE0 (gσ hp hvi) hF0 (gσ hq hvj) ho
    subst e
    exact hij (h2 i j p hp hq)
  · rintro b ⟨i, E, v, hi, hv, ho⟩
    obtain ⟨p, E0, hp, hE0, rfl⟩ := gL hi
    rw [(res_ownB π E0 v).1] at ho
    exact ⟨p, E0, v, hE0, gσ hp hv, ho⟩

theorem res_relV {π : List Nat} {σ : List Value} {x : AV} {u : Value} (h : RelV σ x u) : RelV (subσ π σ) (match x with | .v x => .v (x.res π) | .tup xs => .tup (xs.map (A1.res π))) u := by
  cases x with
  | v x => exact res_relA h
  | tup xs => obtain ⟨us, h1, h2⟩ := h; exact ⟨us, h1, res_relAs h2⟩
def AV.res (π : List Nat) : AV → AV
  | .v x => .v (x.res π)
  | .tup xs => .tup (xs.map (A1.res π))
theorem res_relV' {π : List Nat} {σ : List Value} {x : AV} {u : Value} (h : RelV σ x u) : RelV (subσ π σ) (x.res π) u := by
  cases x with
  | v x => exact res_relA h
  | tup xs => obtain ⟨us, h1, h2⟩ := h; exact ⟨us, h1, res_relAs h2⟩

/-- The first m entries keep their numbers. -/
def keeps0 : Nat → Nat → List Nat → Bool
  | 0, _, _ => true
  | _ + 1, _, [] => false
  | m + 1, i, p :: r => Nat.beq p i && keeps0 m (i + 1) r
theorem keeps0_get : ∀ {m i : Nat} {π : List Nat}, keeps0 m i π = true → ∀ j, j < m → π[j]? = some (i + j)
  | 0, _, _, _, j, h => by omega
  | _ + 1, _, [], h, _, _ => by simp [keeps0] at h
  | m + 1, i, p :: r, h, j, hj => by
    simp only [keeps0, Bool.and_eq_true] at h
    cases j with
    | zero => simp [Nat.eq_of_beq_eq_true h.1]
    | succ j =>
      have := keeps0_get h.2 j (by omega)
      simp [this]; omega

def LeEnv (ρ : List Nat) (env : List (Nat × AV)) : List (Nat × AV) → Prop
  | [] => True
  | (t, α) :: r => (α = one .any ∨ (envGet env t).res ρ = α) ∧ LeEnv ρ env r

theorem LeEnv_get {ρ : List Nat} {env : List (Nat × AV)} {σ : List Value} {a : Act} (h : ∀ t, RelV σ (envGet env t) (a.tmps.getD t undef)) : ∀ {e : List (Nat × AV)}, LeEnv ρ env e → ∀ t, RelV (subσ ρ σ) (envGet e t) (a.tmps.getD t undef)
  | [], _, t => trivial
  | (t', α) :: r, ⟨h1, h2⟩, t => by
    simp only [envGet]
    cases hb : Nat.beq t' t
    · exact LeEnv_get h h2 t
    · have := Nat.eq_of_beq_eq_true hb; subst this
      rcases h1 with rfl | h1
      · exact trivial
      · rw [cond_true, ← h1]; exact res_relV' (h t')

/-- What is told of a state is told of it so, too. -/
def Le (m0 : Nat) (s s' : St) : Prop :=
  ∃ ρ : List Nat, (okPi0 ρ s.L && keeps0 m0 0 ρ) = true ∧ lFo (subL ρ s.L) (fun L => L = s'.L) ∧ LeEnv ρ s.env s'.env

section
variable {P : Program} {ty : TyT} {w0 : World} {σ0 : List Value} {L0 : List Ent} {n : Nat}

theorem pre_sel {ρ : List Nat} {σ : List Value} {L : List Ent} {w : World} (hs : SatL σ L w) (h : keeps0 σ0.length 0 ρ = true) (hp : Pre σ0 σ) : Pre σ0 (subσ ρ σ) := by
  intro i v hi
  have hlt := (List.getElem?_eq_some_iff.1 hi).1
  have := keeps0_get h i hlt
  rw [Nat.zero_add] at this
  exact subσ_get this (hp i v hi)

theorem Le.sound {s s' : St} (h : Le σ0.length s s') {σ : List Value} {a : Act} {w : World} (hA : At w0 σ0 L0 n s σ a w) : ∃ σ', At w0 σ0 L0 n s' σ' a w := by
  obtain ⟨ρ, h1, h2, h3⟩ := h
  simp only [Bool.and_eq_true] at h1
  rw [lFo_iff] at h2
  obtain ⟨p1, p2⟩ := sel_sat hA.sat h1.1
  rw [h2] at p1 p2
  have hf := hA.fr
  exact ⟨subσ ρ σ, p1, ⟨hf.os, hf.tape, hf.output, hf.size, hf.blk, fun b hb => hf.own b (p2 b hb), pre_sel hA.sat h1.2 hf.pre⟩, LeEnv_get hA.env h3, hA.nodef, hA.size⟩

def vCode (P : Program) (ty : TyT) (n m0 : Nat) : Code → St → (St → Prop) → (Nat → St → Prop) → (St → Prop) → Prop
  | .skip, s, N, _, _ => N s
  | .region _ ops draw, s, N, _, _ => bif draw then ∃ nh c, vDraw P ty n m0 ops.toList nh c s N else vOps P ty n m0 ops.toList 0 ops.toList s N
  | .seq x y, s, N, X, R => vCode P ty n m0 x s (fun s' => vCode P ty n m0 y s' N X R) X R
  | .cond c x y, s, N, X, R => match ev s.env c with
    | .v (.one (.ex (.bool β))) => (β = true → vCode P ty n m0 x s N X R) ∧ (β = false → vCode P ty n m0 y s N X R)
    | _ => False
  | .block id c, s, N, X, R => vCode P ty n m0 c s N (fun id' s' => bif Nat.beq id' id then N s' else X id' s') R
  | .loop c, s, N, X, R => ∃ (ι : Type) (I : ι → St) (μ : ι → Nat) (i0 : ι), Le m0 s (I i0) ∧ ∀ i, vCode P ty n m0 c (I i) (fun s' => ∃ j, μ j < μ i ∧ Le m0 s' (I j)) X R
  | .exit id, s, _, X, _ => X id s
  | .ret, s, _, _, R => R s
  | _, _, _, _, _ => False

theorem wp_loop_ix {c : Code} {Q : Exit → Act → World → Prop} {a : Act} {w : World} {ι : Type} (I : ι → Act → World → Prop) (μ : ι → Nat) (i0 : ι) (h₀ : I i0 a w)
    (round : ∀ i a w, I i a w → c.wp P (Exit.then (fun a' w' => ∃ j, μ j < μ i ∧ I j a' w') Q) a w) : (Code.loop c).wp P Q a w := by
  intro b k cs
  have key : ∀ n i a w, μ i = n → I i a w → ∃ e a' w', Q e a' w' ∧ Arrives P (lone (b.at a (.code c :: .inLoop c :: k)) cs w) b k cs e a' w' := by
    intro n
    induction n using Nat.strongRecOn with
    | _ n ih =>
      intro i a w hn hI
      obtain ⟨e, a₁, w₁, hq, harr⟩ := round i a w hI b (.inLoop c :: k) cs
      cases e with
      | normal =>
        obtain ⟨j, hlt, hI₁⟩ := hq
        obtain ⟨e₂, a₂, w₂, hq₂, harr₂⟩ := ih (μ j) (hn ▸ hlt) j a₁ w₁ rfl hI₁
        exact ⟨e₂, a₂, w₂, hq₂, .of_steps (Steps.trans harr (.one step_inLoop)) harr₂⟩
      | exit id => exact ⟨_, a₁, w₁, hq, .pass (x := .inLoop c) rfl (fun _ _ => .inl (by simp)) harr⟩
      | goto l => exact ⟨_, a₁, w₁, hq, .pass (x := .inLoop c) rfl (fun _ _ => .inl (by simp)) harr⟩
      | ret => exact ⟨_, a₁, w₁, hq, .pass (x := .inLoop c) rfl (fun _ _ => .inl (by simp)) harr⟩
      | panic ch => exact ⟨_, a₁, w₁, hq, .pass (x := .inLoop c) rfl (fun _ _ => .inl (by simp)) harr⟩
      | outgrown => exact ⟨_, a₁, w₁, hq, .pass (x := .inLoop c) rfl (fun _ _ => .inl (by simp)) harr⟩
  obtain ⟨e, a', w', hq, harr⟩ := key _ i0 a w rfl h₀
  exact ⟨e, a', w', hq, .of_steps (.one step_loop) harr⟩

theorem vCode_sound (hty : TyOK P ty) (hmix : P.follows .mixedOrders = true) : ∀ (c : Code) {Q : Exit → Act → World → Prop} {N : St → Prop} {X : Nat → St → Prop} {R : St → Prop}
    (hN : ∀ s σ a w, N s → At w0 σ0 L0 n s σ a w → Q .normal a w) (hX : ∀ id s σ a w, X id s → At w0 σ0 L0 n s σ a w → Q (.exit id) a w) (hR : ∀ s σ a w, R s → At w0 σ0 L0 n s σ a w → Q .ret a w)
    {s : St} {σ : List Value} {a : Act} {w : World}, vCode P ty n σ0.length c s N X R → At w0 σ0 L0 n s σ a w → c.wp P Q a w
  | .skip, Q, N, X, R, hN, hX, hR, s, σ, a, w, h, hA => wp_skip (hN s σ a w h hA)
  | .region id ops draw, Q, N, X, R, hN, hX, hR, s, σ, a, w, h, hA => by
    simp only [vCode] at h
    cases draw with
    | false => exact wp_region_list (by have := vOps_sound hty hN _ _ s σ a w h hA; simpa using this)
    | true =>
      obtain ⟨nh, c, h⟩ := h
      have := vDraw_sound hty hmix (id := id) h hN hA
      simpa using this
  | .seq x y, Q, N, X, R, hN, hX, hR, s, σ, a, w, h, hA => by
    simp only [vCode] at h
    refine wp_seq (vCode_sound hty hmix x (N := fun s' => vCode P ty n σ0.length y s' N X R) (X := X) (R := R) ?_ ?_ ?_ h hA)
    · intro s' σ' a' w' h' hA'
      exact vCode_sound hty hmix y hN hX hR h' hA'
    · exact hX
    · exact hR
  | .cond c x y, Q, N, X, R, hN, hX, hR, s, σ, a, w, h, hA => by
    simp only [vCode] at h
    split at h
    · rename_i β hc
      have h1 := hA.env.ev c
      rw [hc] at h1
      have h1 : a.eval c = .bool β := h1
      exact wp_cond_split h1 (fun e => vCode_sound hty hmix x hN hX hR (h.1 e) hA) (fun e => vCode_sound hty hmix y hN hX hR (h.2 e) hA)
    · exact h.elim
  | .block id c, Q, N, X, R, hN, hX, hR, s, σ, a, w, h, hA => by
    simp only [vCode] at h
    refine wp_block (vCode_sound hty hmix c (N := N) (R := R) ?_ ?_ ?_ h hA)
    · exact hN
    · intro id' s' σ' a' w' h' hA'
      simp only [Exit.inBlock]
      cases hb : Nat.beq id' id
      · rw [hb] at h'
        rw [if_neg (fun e => by subst e; rw [Nat.beq_refl] at hb; cases hb)]
        exact hX id' s' σ' a' w' h' hA'
      · rw [hb] at h'
        rw [if_pos (Nat.eq_of_beq_eq_true hb)]
        exact hN s' σ' a' w' h' hA'
    · exact hR
  | .loop c, Q, N, X, R, hN, hX, hR, s, σ, a, w, h, hA => by
    simp only [vCode] at h
    obtain ⟨ι, I, μ, i0, hle, hb⟩ := h
    refine wp_loop_ix (fun i a w => ∃ σ, At w0 σ0 L0 n (I i) σ a w) μ i0 (hle.sound hA) fun i a w ⟨σ, hA⟩ => ?_
    refine vCode_sound hty hmix c (X := X) (R := R) ?_ ?_ ?_ (hb i) hA
    · rintro s' σ' a' w' ⟨j, hj, hle'⟩ hA'
      exact ⟨j, hj, hle'.sound hA'⟩
    · exact hX
    · exact hR
  | .exit id, Q, N, X, R, hN, hX, hR, s, σ, a, w, h, hA => wp_exit (hX id s σ a w h hA)
  | .ret, Q, N, X, R, hN, hX, hR, s, σ, a, w, h, hA => wp_ret (hR s σ a w h hA)
  | .rangeFunc .., _, _, _, _, _, _, _, _, _, _, _, h, _ => h.elim
  | .scope _, _, _, _, _, _, _, _, _, _, _, _, h, _ => h.elim
  | .label _, _, _, _, _, _, _, _, _, _, _, _, h, _ => h.elim
  | .goto _, _, _, _, _, _, _, _, _, _, _, _, h, _ => h.elim
  | .refuse _, _, _, _, _, _, _, _, _, _, _, _, h, _ => h.elim

/-! ### The end of a function -/

def resA1 (ty : TyT) (s : St) : ResultVar → Option A1
  | .tmp t => match envGet s.env t with
    | .v x => some x
    | _ => none
  | .cell t T => match envGet s.env t with
    | .v (.one (.pv k j)) => match ty T, s.L[k]? with
      | some ti, some (.var _ cs) =>
        bif ti.k.isSt then (bif Nat.ble (j + ti.size) cs.length then some (.agg ((cs.drop j).take ti.size)) else none)
        else match cs[j]? with
          | some c => some (.one c)
          | none => none
      | _, _ => none
    | _ => none
def resAll (ty : TyT) (s : St) : List ResultVar → Option (List A1)
  | [] => some []
  | r :: rs => match resA1 ty s r, resAll ty s rs with
    | some x, some xs => some (x :: xs)
    | _, _ => none
def tupOf : List A1 → AV
  | [x] => .v x
  | xs => .tup xs

/-- The nil slice, as an entry of its own. -/
def AC.nilC (k : Nat) : AC → AC
  | .ex (.slice none 0 0) => .sl k
  | c => c
def A1.nilC (k : Nat) : A1 → A1
  | .one c => .one (c.nilC k)
  | .agg cs => .agg (cs.map (AC.nilC k))
def AV.nilC (k : Nat) : AV → AV
  | .v x => .v (x.nilC k)
  | .tup xs => .tup (xs.map (A1.nilC k))

def rangeFrom : Nat → Nat → List Nat
  | 0, _ => []
  | m + 1, i => i :: rangeFrom m (i + 1)

/-- nz: the nil slices of the result are told as a new array of no elements. -/
def vRet (ty : TyT) (m0 : Nat) (rs : List ResultVar) (L' : List Ent) (ret : AV) (s : St) : Prop :=
  match resAll ty s rs with
  | none => False
  | some xs => AV.fo (tupOf xs) fun α => ∃ nz : Option (TypeId × Dat),
    match nz with
    | none => natsFo (clo s.L 60 (rangeFrom m0 0) α.refs) fun ρ => lFo (subL ρ s.L) fun L1 => (α.res ρ).fo fun α1 => (okPi0 ρ s.L && keeps0 m0 0 ρ) = true ∧ L1 = L' ∧ α1 = ret
    | some (T, D) => D.len = 0 ∧ natsFo (clo (s.L ++ [.arr true T D]) 60 (rangeFrom m0 0) (α.nilC s.L.length).refs) fun ρ => lFo (subL ρ (s.L ++ [.arr true T D])) fun L1 => ((α.nilC s.L.length).res ρ).fo fun α1 =>
        (okPi0 ρ (s.L ++ [.arr true T D]) && keeps0 m0 0 ρ) = true ∧ L1 = L' ∧ α1 = ret

theorem nilC_relC {σ : List Value} {c : AC} {v : Value} (h : RelC σ c v) : RelC (σ ++ [.slice none 0 0]) (c.nilC σ.length) v := by
  unfold AC.nilC
  split
  · have h : v = .slice none 0 0 := h
    subst h
    exact ⟨by simp, rfl⟩
  · exact RelC.pre (Pre.app _ _) h
theorem nilC_relCs {σ : List Value} : ∀ {cs : List AC} {us : List Value}, RelCs σ cs us → RelCs (σ ++ [.slice none 0 0]) (cs.map (AC.nilC σ.length)) us
  | [], [], _ => trivial
  | _ :: _, _ :: _, ⟨h1, h2⟩ => ⟨nilC_relC h1, nilC_relCs h2⟩
  | [], _ :: _, h => h.elim
  | _ :: _, [], h => h.elim
theorem nilC_relA {σ : List Value} {x : A1} {v : Value} (h : RelA σ x v) : RelA (σ ++ [.slice none 0 0]) (x.nilC σ.length) v := by
  cases x with
  | one c => exact nilC_relC h
  | agg cs => obtain ⟨us, h1, h2⟩ := h; exact ⟨us, h1, nilC_relCs h2⟩
theorem nilC_relAs {σ : List Value} : ∀ {cs : List A1} {us : List Value}, RelAs σ cs us → RelAs (σ ++ [.slice none 0 0]) (cs.map (A1.nilC σ.length)) us
  | [], [], _ => trivial
  | _ :: _, _ :: _, ⟨h1, h2⟩ => ⟨nilC_relA h1, nilC_relAs h2⟩
  | [], _ :: _, h => h.elim
  | _ :: _, [], h => h.elim
theorem nilC_relV {σ : List Value} {x : AV} {v : Value} (h : RelV σ x v) : RelV (σ ++ [.slice none 0 0]) (x.nilC σ.length) v := by
  cases x with
  | v x => exact nilC_relA h
  | tup xs => obtain ⟨us, h1, h2⟩ := h; exact ⟨us, h1, nilC_relAs h2⟩

def resM (tmps : Array Value) : ResultVar → Sem Value
  | .tmp t => pure (tmps.getD t undef)
  | .cell t T => do loadVar T (← asAddr (tmps.getD t undef))

theorem resA1_sound (hty : TyOK P ty) {s : St} {r : ResultVar} {x : A1} (h : resA1 ty s r = some x) {σ : List Value} {a : Act} {w : World} (hs : SatL σ s.L w) (he : EnvOK σ s.env a) :
    ∃ v, (resM a.tmps r).run P w = .ok v w ∧ RelA σ x v := by
  cases r with
  | tmp t =>
    simp only [resA1] at h
    split at h
    · rename_i y hy
      cases h
      have := he t
      rw [hy] at this
      exact ⟨_, rfl, this⟩
    · cases h
  | cell t T =>
    simp only [resA1] at h
    split at h
    · rename_i k j hk
      have hv := he t
      rw [hk] at hv
      split at h
      · rename_i ti T' cs hT hL
        obtain ⟨g, hg, hv⟩ := hv
        obtain ⟨g', us, h1, h2, h3, h4⟩ := var_cells (hs.ok _ _ _ hL hg)
        have : g = g' := by simp [at0] at h1; exact h1
        subst this
        cases hst : ti.k.isSt
        · simp only [hst, cond_false] at h
          split at h
          · rename_i c hc
            cases h
            obtain ⟨u, hu, hr⟩ := h3.get hc
            refine ⟨u, ?_, hr⟩
            simp only [resM]
            rw [hv]
            simp only [asAddr, Sem.run_bind, Sem.run_pure, Result.andThen_ok]
            exact run_loadVar_one hty hT hst _ _ w (h4 _ _ hu)
          · cases h
        · simp only [hst, cond_true] at h
          cases hle : Nat.ble (j + ti.size) cs.length
          · simp [hle] at h
          · simp only [hle, cond_true] at h
            cases h
            have hle' : j + ti.size ≤ cs.length := Nat.le_of_ble_eq_true hle
            refine ⟨.agg ((us.drop j).take ti.size).toArray, ?_, ⟨_, rfl, (h3.drop j).take ti.size⟩⟩
            simp only [resM]
            rw [hv]
            simp only [asAddr, Sem.run_bind, Sem.run_pure, Result.andThen_ok]
            refine run_loadVar_agg hty hT hst _ _ ?_ w ?_
            · have := h3.len; simp; omega
            · intro i v hi
              rw [add_lit']
              apply h4
              rw [List.getElem?_take] at hi
              split at hi
              · rw [List.getElem?_drop] at hi; exact hi
              · cases hi
      · cases h
    · cases h

theorem resAll_sound (hty : TyOK P ty) {s : St} {σ : List Value} {a : Act} {w : World} (hs : SatL σ s.L w) (he : EnvOK σ s.env a) : ∀ {rs : List ResultVar} {xs : List A1}, resAll ty s rs = some xs →
    ∃ vs : List Value, (rs.mapM (resM a.tmps)).run P w = .ok vs w ∧ RelAs σ xs vs
  | [], xs, h => by
    simp [resAll] at h; subst h
    exact ⟨[], rfl, trivial⟩
  | r :: rs, xs, h => by
    simp only [resAll] at h
    split at h
    · rename_i y ys hy hys
      cases h
      obtain ⟨v, h1, h2⟩ := resA1_sound hty hy hs he
      obtain ⟨vs, h3, h4⟩ := resAll_sound hty hs he hys
      refine ⟨v :: vs, ?_, h2, h4⟩
      rw [List.mapM_cons, Sem.run_bind, h1, Result.andThen_ok, Sem.run_bind, h3]
      rfl
    · cases h

theorem results_run (hty : TyOK P ty) {fn : Func} {s : St} {σ : List Value} {a : Act} {w : World} (hs : SatL σ s.L w) (he : EnvOK σ s.env a) {xs : List A1} (h : resAll ty s fn.results.toList = some xs) :
    ∃ v, (results fn a.tmps).run P w = .ok v w ∧ RelV σ (tupOf xs) v := by
  obtain ⟨vs, h1, h2⟩ := resAll_sound hty hs he h
  refine ⟨if h : vs.toArray.size = 1 then vs.toArray[0] else .tuple vs.toArray, ?_, ?_⟩
  · have e : results fn a.tmps = (do let vs ← fn.results.mapM (resM a.tmps); pure (if h : vs.size = 1 then vs[0] else .tuple vs)) := by
      unfold results
      congr 1
    rw [e, Array.mapM_eq_mapM_toList]
    simp only [bind_map_left, Sem.run_bind, h1, Result.andThen_ok, Sem.run_pure]
  · match xs, vs, h2 with
    | [], [], _ => exact ⟨[], rfl, trivial⟩
    | [x], [v], ⟨h2, _⟩ => exact h2
    | x :: y :: xs, v :: u :: vs, h2 => exact ⟨_, rfl, h2⟩

theorem getD_list_map {l : List Nat} {f : Nat → Nat} : True := trivial

theorem vRet_sound (hty : TyOK P ty) {fn : Func} {L' : List Ent} {ret : AV} {s : St} (h : vRet ty σ0.length fn.results.toList L' ret s) {σ : List Value} {a : Act} {w : World} (hA : At w0 σ0 L0 n s σ a w) :
    a.defers = [] ∧ ∃ v, (results fn a.tmps).run P w = .ok v w ∧ ∃ σ', SatL σ' L' w ∧ RelV σ' ret v ∧ Fr w0 σ0 L0 w σ' L' := by
  refine ⟨hA.nodef, ?_⟩
  unfold vRet at h
  split at h
  · exact h.elim
  · rename_i xs hxs
    obtain ⟨v, h1, h2⟩ := results_run hty hA.sat hA.env hxs
    refine ⟨v, h1, ?_⟩
    rw [AV.fo_iff] at h
    have hf := hA.fr
    obtain ⟨nz, h⟩ := h
    cases nz with
    | none =>
      simp only [natsFo_iff, lFo_iff, AV.fo_iff, Bool.and_eq_true] at h
      obtain ⟨⟨h3, h4⟩, h5, h6⟩ := h
      obtain ⟨p1, p2⟩ := sel_sat hA.sat h3
      rw [h5] at p1 p2
      refine ⟨_, p1, by rw [← h6]; exact res_relV' h2, ⟨hf.os, hf.tape, hf.output, hf.size, hf.blk, fun b hb => hf.own b (p2 b hb), pre_sel hA.sat h4 hf.pre⟩⟩
    | some p =>
      obtain ⟨T, D⟩ := p
      simp only [natsFo_iff, lFo_iff, AV.fo_iff, Bool.and_eq_true] at h
      obtain ⟨h0, ⟨h3, h4⟩, h5, h6⟩ := h
      obtain ⟨q1, q2⟩ := hA.sat.snoc (Ext.refl w) (E := .arr true T D) (v := .slice none 0 0) ⟨[], ⟨by simp [h0], .inl ⟨rfl, h0⟩⟩, fun i j hi => by omega⟩ (fun b hb => by cases hb)
      obtain ⟨p1, p2⟩ := sel_sat q1 h3
      rw [h5] at p1 p2
      have hf := hf.trans q2
      refine ⟨_, p1, ?_, ⟨hf.os, hf.tape, hf.output, hf.size, hf.blk, fun b hb => hf.own b (p2 b hb), pre_sel q1 h4 hf.pre⟩⟩
      rw [← h6, ← hA.sat.len]
      exact res_relV' (nilC_relV h2)

def argEnv : Nat → List A1 → List (Nat × AV)
  | _, [] => []
  | i, x :: xs => (i, .v x) :: argEnv (i + 1) xs

theorem argEnv_ok {σ : List Value} : ∀ {i : Nat} {args : List A1} {us : List Value}, RelAs σ args us → ∀ t, RelV σ (envGet (argEnv i args) t) (if i ≤ t then us.getD (t - i) undef else undef)
  | i, [], [], _, t => trivial
  | i, x :: xs, u :: us, ⟨h1, h2⟩, t => by
    simp only [argEnv, envGet]
    cases hb : Nat.beq i t
    · have hne : i ≠ t := fun e => by subst e; rw [Nat.beq_refl] at hb; cases hb
      have h := argEnv_ok (i := i + 1) h2 t
      by_cases hle : i ≤ t
      · rw [if_pos hle]
        rw [if_pos (by omega)] at h
        rw [show t - i = (t - (i + 1)) + 1 by omega]
        exact h
      · rw [if_neg hle]
        rw [if_neg (by omega)] at h
        exact h
    · have := Nat.eq_of_beq_eq_true hb; subst this
      simp only [Nat.le_refl, if_true, Nat.sub_self]
      exact h1
  | i, [], _ :: _, h, _ => h.elim
  | i, _ :: _, [], h, _ => h.elim

/-- Enough for 'Keeps'. -/
def KeepsS : List Ent → List Ent → Prop
  | [], L => L.all (fun E => match E with | .arr false _ _ => false | _ => true) = true
  | E :: r, E' :: r' => (E = E' ∨ (match E with | .arr false _ _ => false | _ => true) = true) ∧ KeepsS r r'
  | _ :: _, [] => False
theorem keeps_of : ∀ {L L' : List Ent}, KeepsS L L' → Keeps L L'
  | [], L', h => h
  | E :: r, E' :: r', ⟨h1, h2⟩ => by
    have := keeps_of h2
    cases E with
    | dead => exact this
    | var T cs => exact this
    | arr own T D =>
      cases own with
      | true => exact this
      | false =>
        rcases h1 with h1 | h1
        · exact ⟨h1.symm, this⟩
        · cases h1
  | _ :: _, [], h => h.elim

/-- A float's bits up to those of a NaN. -/
def CF (k : FloatKind) (x : Nat) : Prop := ∃ b, IsF k x b
def cellCF : AC → Prop
  | .fl k x => CF k x
  | .cx k x y => CF k x ∧ CF k y
  | _ => True
def entCF : Ent → Prop
  | .arr _ _ D => D.len ≤ maxLen ∧ ∀ i j, i < D.len → j < D.sz → cellCF (D.cell i j)
  | .var _ cs => ∀ c ∈ cs, cellCF c
  | .dead => True
def argCF : A1 → Prop
  | .one c => cellCF c
  | .agg cs => ∀ c ∈ cs, cellCF c

theorem cellCF_of {σ : List Value} {c : AC} {v : Value} (h : RelC σ c v) : cellCF c := by
  cases c with
  | fl k x => obtain ⟨b, _, h⟩ := h; exact ⟨b, h⟩
  | cx k x y => obtain ⟨a, b, _, h1, h2⟩ := h; exact ⟨⟨a, h1⟩, ⟨b, h2⟩⟩
  | _ => trivial
theorem cellsCF_of {σ : List Value} : ∀ {cs : List AC} {us : List Value}, RelCs σ cs us → ∀ c ∈ cs, cellCF c
  | [], _, _, c, h => by cases h
  | c0 :: cs, u :: us, ⟨h1, h2⟩, c, h => by
    cases h with
    | head => exact cellCF_of h1
    | tail _ h => exact cellsCF_of h2 c h
  | _ :: _, [], h, _, _ => h.elim
theorem entCF_of {σ : List Value} {w : World} {E : Ent} {v : Value} (h : EntOK σ w E v) : entCF E := by
  cases E with
  | dead => trivial
  | var T cs => obtain ⟨g, us, _, _, h3⟩ := h; exact cellsCF_of h3
  | arr own T D =>
    obtain ⟨A, n, c, e1, e2, e3, _, h⟩ := h.reads
    refine ⟨by rw [← e2]; exact e3, fun i j hi hj => ?_⟩
    obtain ⟨_, u, _, _, h⟩ := h i j hi hj
    exact cellCF_of h
theorem argsCF_of {σ : List Value} : ∀ {xs : List A1} {us : List Value}, RelAs σ xs us → ∀ x ∈ xs, argCF x
  | [], _, _, c, h => by cases h
  | x0 :: cs, u :: us, ⟨h1, h2⟩, c, h => by
    cases h with
    | head => cases x0 with
      | one c => exact cellCF_of h1
      | agg cs => obtain ⟨us, _, h1⟩ := h1; exact cellsCF_of h1
    | tail _ h => exact argsCF_of h2 c h
  | _ :: _, [], h, _, _ => h.elim

/-- What every start of a call is known to keep to. -/
def goodA : List A1 → Prop
  | [] => True
  | x :: xs => argCF x ∧ goodA xs
def goodL : List Ent → Prop
  | [] => True
  | E :: r => entCF E ∧ goodL r
def good (L : List Ent) (args : List A1) : Prop := goodL L ∧ goodA args
theorem good_args : ∀ {args : List A1}, (∀ x ∈ args, argCF x) → goodA args
  | [], _ => trivial
  | x :: xs, h => ⟨h x (.head _), good_args fun y hy => h y (.tail _ hy)⟩
theorem good_ents : ∀ {L : List Ent}, (∀ E ∈ L, entCF E) → goodL L
  | [], _ => trivial
  | E :: r, h => ⟨h E (.head _), good_ents fun F hF => h F (.tail _ hF)⟩
theorem good_sat {σ : List Value} {L : List Ent} {w : World} {args : List A1} {us : List Value} (hs : SatL σ L w) (hr : RelAs σ args us) : good L args := by
  refine ⟨good_ents fun E hE => ?_, good_args (argsCF_of hr)⟩
  obtain ⟨i, hi⟩ := List.getElem?_of_mem hE
  obtain ⟨v, hv⟩ := hs.some_val hi
  exact entCF_of (hs.ok i E v hi hv)

theorem spec_of_code (hty : TyOK P ty) (hmix : P.follows .mixedOrders = true) {f : FuncId} {fn : Func} {c : Code} {L : List Ent} {args : List A1} {L' : List Ent} {ret : AV} (hf : P.funcs[f]? = some fn) (hb : fn.body = some c)
    (hname : (fn.name == "runtime.NumGoroutine") = false) (hnt : Nat.ble args.length fn.ntmps = true) (hk : KeepsS L L')
    (h : good L args → vCode P ty fn.ntmps L.length c ⟨argEnv 0 args, L⟩ (vRet ty L.length fn.results.toList L' ret) (fun _ _ => False) (vRet ty L.length fn.results.toList L' ret)) : Spec P f L args L' ret := by
  refine ⟨keeps_of hk, fun w σ us hs hr => .inl ⟨?_, ?_⟩⟩
  · simp only [callFunc, Sem.run_bind, run_program, Result.andThen_ok, hf, hname, hb, Bool.false_eq_true, if_false, Option.isNone_some]
    rfl
  · refine calls_of_wp hf hb ?_
    have hlen := hr.len
    have hnt := Nat.le_of_ble_eq_true hnt
    have hA : At w σ L fn.ntmps ⟨argEnv 0 args, L⟩ σ { tmps := us.toArray ++ Array.replicate (fn.ntmps - us.toArray.size) undef, defers := [] } w := by
      refine ⟨hs, Fr.refl _ _ _, fun t => ?_, rfl, by simp; omega⟩
      have := argEnv_ok (i := 0) hr t
      simp only [Nat.zero_le, if_true, Nat.sub_zero] at this
      have e : (us.toArray ++ Array.replicate (fn.ntmps - us.toArray.size) undef).getD t undef = us.getD t undef := by
        rw [Array.getD_eq_getD_getElem?, List.getD_eq_getElem?_getD, Array.getElem?_append]
        split
        · simp
        · rename_i hge
          simp at hge
          rw [List.getElem?_eq_none hge, Array.getElem?_replicate]
          split <;> rfl
      rw [e]; exact this
    have h := h (good_sat hs hr)
    rw [← hs.len] at h
    refine vCode_sound hty hmix c (N := vRet ty σ.length fn.results.toList L' ret) (X := fun _ _ => False) (R := vRet ty σ.length fn.results.toList L' ret) ?_ ?_ ?_ h hA
    · intro s' σ' a' w' h' hA'
      obtain ⟨p1, v, p2, p3⟩ := vRet_sound hty h' hA'
      exact ⟨p1, v, p2, v, rfl, p3⟩
    · intro id s' σ' a' w' h' _; exact h'.elim
    · intro s' σ' a' w' h' hA'
      obtain ⟨p1, v, p2, p3⟩ := vRet_sound hty h' hA'
      exact ⟨p1, v, p2, v, rfl, p3⟩

end
end Go.AX
