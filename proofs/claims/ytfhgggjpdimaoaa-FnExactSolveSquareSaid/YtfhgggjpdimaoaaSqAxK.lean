/- A symbolic walk over the code of one function, and that it tells no more than the model does: no condition. -/
import Derived.Test.YtfhgggjpdimaoaaSqAxP
set_option linter.unusedVariables false
set_option linter.unusedSimpArgs false
namespace Go.AX
noncomputable section
open Go.RowKit

/-! ## Code, loops, functions -/

def okPi0 : List Nat → List Ent → Bool
  | [], _ => true
  | p :: r, L => Nat.blt p L.length && !(mem p r) && okPi0 r L

theorem mem_false : ∀ {r : List Nat} {p : Nat}, mem p r = false → p ∉ r
  | [], _, _, h => by cases h
  | i :: r, p, hm, h => by
    simp only [mem, Bool.or_eq_false_iff] at hm
    cases h with
    | head => rw [Nat.beq_refl] at hm; cases hm.1
    | tail _ h => exact mem_false hm.2 h

theorem okPi0_spec : ∀ {π : List Nat} {L : List Ent}, okPi0 π L = true → (∀ (i p : Nat), π[i]? = some p → ∃ E, L[p]? = some E) ∧ (∀ (i j p : Nat), π[i]? = some p → π[j]? = some p → i = j)
  | [], L, _ => ⟨fun i p h => by simp at h, fun i j p h => by simp at h⟩
  | q :: r, L, h => by
    simp only [okPi0, Bool.and_eq_true, Bool.not_eq_true'] at h
    obtain ⟨⟨h1, h2⟩, h3⟩ := h
    obtain ⟨i1, i2⟩ := okPi0_spec h3
    have hlt : q < L.length := Nat.lt_of_succ_le (Nat.le_of_ble_eq_true h1)
    have hnc : ∀ (j : Nat), r[j]? ≠ some q := fun j hj => mem_false h2 (List.mem_of_getElem? hj)
    refine ⟨fun i p hi => ?_, fun i j p hi hj => ?_⟩
    · cases i with
      | zero => simp at hi; subst hi; exact ⟨_, List.getElem?_eq_getElem hlt⟩
      | succ i => exact i1 i p (by simpa using hi)
    · cases i with
      | zero =>
        cases j with
        | zero => rfl
        | succ j => simp at hi; subst hi; exact absurd (by simpa using hj) (hnc j)
      | succ i =>
        cases j with
        | zero => simp at hj; subst hj; exact absurd (by simpa using hi) (hnc i)
        | succ j => rw [i2 i j p (by simpa using hi) (by simpa using hj)]

/-- Some of the entries, under other numbers. -/
theorem sel_sat {π : List Nat} {σ : List Value} {L : List Ent} {w : World} (hs : SatL σ L w) (hok : okPi0 π L = true) : SatL (subσ π σ) (subL π L) w ∧ ∀ b, Own (subσ π σ) (subL π L) b → Own σ L b := by
  obtain ⟨h1, h2⟩ := okPi0_spec hok
  have gL : ∀ {i : Nat} {E : Ent}, (subL π L)[i]? = some E → ∃ p E0, π[i]? = some p ∧ L[p]? = some E0 ∧ E = E0.res π := by
    intro i E hi
    simp only [subL, List.getElem?_map] at hi
    cases hp : π[i]? with
    | none => simp [hp] at hi
    | some p =>
      obtain ⟨E0, hE0⟩ := h1 i p hp
      simp [hp, hE0] at hi
      exact ⟨p, E0, rfl, hE0, hi.symm⟩
  have gσ : ∀ {i p : Nat} {v : Value}, π[i]? = some p → (subσ π σ)[i]? = some v → σ[p]? = some v := by
    intro i p v hp hi
    obtain ⟨E0, hE0⟩ := h1 i p hp
    obtain ⟨v0, hv0⟩ := hs.some_val hE0
    rw [subσ_get hp hv0] at hi
    rw [hv0]; exact hi
  refine ⟨⟨by simp [subσ, subL], fun i E v hi hv => ?_, fun i j Ei Ej vi vj b hij hi hvi hj hvj ho => ?_⟩, ?_⟩
  · obtain ⟨p, E0, hp, hE0, rfl⟩ := gL hi
    exact res_ent (hs.ok p E0 v hE0 (gσ hp hv))
  · obtain ⟨p, E0, hp, hE0, rfl⟩ := gL hi
    obtain ⟨q, F0, hq, hF0, rfl⟩ := gL hj
    rw [(res_ownB π E0 vi).1] at ho
    rw [(res_ownB π F0 vj).2]
    refine hs.sep p q E0 F0 vi vj b (fun e => ?_) hE0 (gσ hp hvi) hF0 (gσ hq hvj) ho
    subst e
    exact hij (h2 i j p hp hq)
  · rintro b ⟨i, E, v, hi, hv, ho⟩
    obtain ⟨p, E0, hp, hE0, rfl⟩ := gL hi
    rw [(res_ownB π E0 v).1] at ho
    exact ⟨p, E0, v, hE0, gσ hp hv, ho⟩

theorem res_relV {π : List Nat} {σ : List Value} {x : AV} {u : Value} (h : RelV σ x u) : RelV (subσ π σ) (match x with | .v x => .v (x.res π) | .tup xs => .tup (xs.map (A1.res π))) u := by
  cases x with
  | v x => exact res_relA h
  | tup xs => obtain ⟨us, h1, h2⟩ := h; exact ⟨us, h1, res_relAs h2⟩
def AV.res (π : List Nat) : AV → AV
  | .v x => .v (x.res π)
  | .tup xs => .tup (xs.map (A1.res π))
theorem res_relV' {π : List Nat} {σ : List Value} {x : AV} {u : Value} (h : RelV σ x u) : RelV (subσ π σ) (x.res π) u := by
  cases x with
  | v x => exact res_relA h
  | tup xs => obtain ⟨us, h1, h2⟩ := h; exact ⟨us, h1, res_relAs h2⟩

/-- The first m entries keep their numbers. -/
def keeps0 : Nat → Nat → List Nat → Bool
  | 0, _, _ => true
  | _ + 1, _, [] => false
  | m + 1, i, p :: r => Nat.beq p i && keeps0 m (i + 1) r
theorem keeps0_get : ∀ {m i : Nat} {π : List Nat}, keeps0 m i π = true → ∀ j, j < m → π[j]? = some (i + j)
  | 0, _, _, _, j, h => by omega
  | _ + 1, _, [], h, _, _ => by simp [keeps0] at h
  | m + 1, i, p :: r, h, j, hj => by
    simp only [keeps0, Bool.and_eq_true] at h
    cases j with
    | zero => simp [Nat.eq_of_beq_eq_true h.1]
    | succ j =>
      have := keeps0_get h.2 j (by omega)
      simp [this]; omega

def LeEnv (ρ : List Nat) (env : List (Nat × AV)) : List (Nat × AV) → Prop
  | [] => True
  | (t, α) :: r => (α = one .any ∨ (envGet env t).res ρ = α) ∧ LeEnv ρ env r

theorem LeEnv_get {ρ : List Nat} {env : List (Nat × AV)} {σ : List Value} {a : Act} (h : ∀ t, RelV σ (envGet env t) (a.tmps.getD t undef)) : ∀ {e : List (Nat × AV)}, LeEnv ρ env e → ∀ t, RelV (subσ ρ σ) (envGet e t) (a.tmps.getD t undef)
  | [], _, t => trivial
  | (t', α) :: r, ⟨h1, h2⟩, t => by
    simp only [envGet]
    cases hb : Nat.beq t' t
    · exact LeEnv_get h h2 t
    · have := Nat.eq_of_beq_eq_true hb; subst this
      rcases h1 with rfl | h1
      · exact trivial
      · rw [cond_true, ← h1]; exact res_relV' (h t')

/-- What is told of a state is told of it so, too. -/
def Le (m0 : Nat) (s s' : St) : Prop :=
  ∃ ρ : List Nat, (okPi0 ρ s.L && keeps0 m0 0 ρ) = true ∧ lFo (subL ρ s.L) (fun L => L = s'.L) ∧ LeEnv ρ s.env s'.env

section
variable {P : Program} {ty : TyT} {w0 : World} {σ0 : List Value} {L0 : List Ent} {n : Nat}

theorem pre_sel {ρ : List Nat} {σ : List Value} {L : List Ent} {w : World} (hs : SatL σ L w) (h : keeps0 σ0.length 0 ρ = true) (hp : Pre σ0 σ) : Pre σ0 (subσ ρ σ) := by
  intro i v hi
  have hlt := (List.getElem?_eq_some_iff.1 hi).1
  have := keeps0_get h i hlt
  rw [Nat.zero_add] at this
  exact subσ_get this (hp i v hi)

theorem Le.sound {s s' : St} (h : Le σ0.length s s') {σ : List Value} {a : Act} {w : World} (hA : At w0 σ0 L0 n s σ a w) : ∃ σ', At w0 σ0 L0 n s' σ' a w := by
  obtain ⟨ρ, h1, h2, h3⟩ := h
  simp only [Bool.and_eq_true] at h1
  rw [lFo_iff] at h2
  obtain ⟨p1, p2⟩ := sel_sat hA.sat h1.1
  rw [h2] at p1 p2
  have hf := hA.fr
  exact ⟨subσ ρ σ, p1, ⟨hf.os, hf.tape, hf.output, hf.size, hf.blk, fun b hb => hf.own b (p2 b hb), pre_sel hA.sat h1.2 hf.pre⟩, LeEnv_get hA.env h3, hA.nodef, hA.size⟩

/-- The nil slice, as an entry of its own. -/
def AC.nilC (k : Nat) : AC → AC
  | .ex (.slice none 0 0) => .sl k
  | c => c
def A1.nilC (k : Nat) : A1 → A1
  | .one c => .one (c.nilC k)
  | .agg cs => .agg (cs.map (AC.nilC k))
def AV.nilC (k : Nat) : AV → AV
  | .v x => .v (x.nilC k)
  | .tup xs => .tup (xs.map (A1.nilC k))

theorem nilC_relC {σ : List Value} {c : AC} {v : Value} (h : RelC σ c v) : RelC (σ ++ [.slice none 0 0]) (c.nilC σ.length) v := by
  unfold AC.nilC
  split
  · have h : v = .slice none 0 0 := h
    subst h
    exact ⟨by simp, rfl⟩
  · exact RelC.pre (Pre.app _ _) h
theorem nilC_relCs {σ : List Value} : ∀ {cs : List AC} {us : List Value}, RelCs σ cs us → RelCs (σ ++ [.slice none 0 0]) (cs.map (AC.nilC σ.length)) us
  | [], [], _ => trivial
  | _ :: _, _ :: _, ⟨h1, h2⟩ => ⟨nilC_relC h1, nilC_relCs h2⟩
  | [], _ :: _, h => h.elim
  | _ :: _, [], h => h.elim
theorem nilC_relA {σ : List Value} {x : A1} {v : Value} (h : RelA σ x v) : RelA (σ ++ [.slice none 0 0]) (x.nilC σ.length) v := by
  cases x with
  | one c => exact nilC_relC h
  | agg cs => obtain ⟨us, h1, h2⟩ := h; exact ⟨us, h1, nilC_relCs h2⟩
theorem nilC_relAs {σ : List Value} : ∀ {cs : List A1} {us : List Value}, RelAs σ cs us → RelAs (σ ++ [.slice none 0 0]) (cs.map (A1.nilC σ.length)) us
  | [], [], _ => trivial
  | _ :: _, _ :: _, ⟨h1, h2⟩ => ⟨nilC_relA h1, nilC_relAs h2⟩
  | [], _ :: _, h => h.elim
  | _ :: _, [], h => h.elim
theorem nilC_relV {σ : List Value} {x : AV} {v : Value} (h : RelV σ x v) : RelV (σ ++ [.slice none 0 0]) (x.nilC σ.length) v := by
  cases x with
  | v x => exact nilC_relA h
  | tup xs => obtain ⟨us, h1, h2⟩ := h; exact ⟨us, h1, nilC_relAs h2⟩

def Ent.nilC (k : Nat) : Ent → Ent
  | .var T cs => .var T (cs.map (AC.nilC k))
  | E => E
def envNil (k : Nat) : List (Nat × AV) → List (Nat × AV)
  | [] => []
  | (t, α) :: r => (t, α.nilC k) :: envNil k r
/-- Every nil slice told as a new array of no elements. -/
def nilSt (T : TypeId) (D : Dat) (s : St) : St := ⟨envNil s.L.length s.env, s.L.map (Ent.nilC s.L.length) ++ [.arr true T D]⟩
theorem envNil_get {k : Nat} : ∀ {e : List (Nat × AV)} {t : Nat}, envGet (envNil k e) t = (envGet e t).nilC k
  | [], t => rfl
  | (t', α) :: r, t => by
    simp only [envNil, envGet]
    cases Nat.beq t' t
    · exact envNil_get
    · rfl
theorem nilEnt_ownB (k : Nat) (E : Ent) (v : Value) : ownB (E.nilC k) v = ownB E v ∧ blkB (E.nilC k) v = blkB E v := by
  cases E with
  | dead => exact ⟨rfl, rfl⟩
  | var T cs => exact ⟨rfl, rfl⟩
  | arr own T D => exact ⟨rfl, rfl⟩
theorem nilEnt_ok {σ : List Value} {w : World} {E : Ent} {v : Value} (h : EntOK σ w E v) : EntOK (σ ++ [.slice none 0 0]) w (E.nilC σ.length) v := by
  cases E with
  | dead => trivial
  | var T cs => obtain ⟨g, us, h1, h2, h3⟩ := h; exact ⟨g, us, h1, h2, nilC_relCs h3⟩
  | arr own T D => cases own <;> exact h
theorem nilSt_sound {T : TypeId} {D : Dat} (hD : D.len = 0) {s : St} {σ : List Value} {a : Act} {w : World} (hA : At w0 σ0 L0 n s σ a w) : ∃ σ', At w0 σ0 L0 n (nilSt T D s) σ' a w := by
  obtain ⟨q1, q2⟩ := hA.sat.snoc (Ext.refl w) (E := .arr true T D) (v := .slice none 0 0) ⟨[], ⟨by simp [hD], .inl ⟨rfl, hD⟩⟩, fun i j hi => by omega⟩ (fun b hb => by cases hb)
  have hf := hA.fr.trans q2
  have hlen := hA.sat.len
  have get : ∀ {i : Nat} {E : Ent}, (nilSt T D s).L[i]? = some E → ∃ E0, (s.L ++ [.arr true T D])[i]? = some E0 ∧ (E = E0.nilC σ.length ∨ (E = E0)) ∧ (i < s.L.length → E = E0.nilC σ.length) ∧ (¬ i < s.L.length → E = E0 ∧ E0 = .arr true T D) := by
    intro i E hi
    simp only [nilSt] at hi
    by_cases h : i < s.L.length
    · rw [List.getElem?_append_left (by simpa using h), List.getElem?_map] at hi
      cases h0 : s.L[i]? with
      | none => simp [h0] at hi
      | some E0 =>
        simp only [h0, Option.map_some, Option.some.injEq] at hi
        refine ⟨E0, by rw [List.getElem?_append_left h]; exact h0, .inl (by rw [← hi, hlen]), fun _ => by rw [← hi, hlen], fun h' => absurd h h'⟩
    · rw [List.getElem?_append_right (by simpa using h)] at hi
      have hi' : [Ent.arr true T D][i - s.L.length]? = some E := by simpa using hi
      have hlt := (List.getElem?_eq_some_iff.1 hi').1
      have he : i - s.L.length = 0 := by simpa using hlt
      rw [he] at hi'
      simp at hi'
      subst hi'
      refine ⟨_, by rw [List.getElem?_append_right (by omega), he]; rfl, .inr rfl, fun h' => absurd h' h, fun _ => ⟨rfl, rfl⟩⟩
  have own : ∀ {i : Nat} {E E0 : Ent} {v : Value}, (E = E0.nilC σ.length ∨ E = E0) → ownB E v = ownB E0 v ∧ blkB E v = blkB E0 v := by
    intro i E E0 v h
    rcases h with rfl | rfl
    · exact nilEnt_ownB _ _ _
    · exact ⟨rfl, rfl⟩
  refine ⟨σ ++ [.slice none 0 0], ⟨by simp [nilSt, hlen], fun i E v hi hv => ?_, fun i j Ei Ej vi vj b hij hi hvi hj hvj ho => ?_⟩, ⟨hf.os, hf.tape, hf.output, hf.size, hf.blk, ?_, hf.pre⟩, fun t => ?_, hA.nodef, hA.size⟩
  · obtain ⟨E0, h0, _, h1, h2⟩ := get hi
    by_cases hlt : i < s.L.length
    · rw [h1 hlt]
      rw [List.getElem?_append_left hlt] at h0
      rw [List.getElem?_append_left (by rw [hlen]; exact hlt)] at hv
      exact nilEnt_ok (hA.sat.ok i E0 v h0 hv)
    · obtain ⟨e1, e2⟩ := h2 hlt
      rw [e1]
      exact q1.ok i E0 v h0 hv
  · obtain ⟨E0, h0, hor, _⟩ := get hi
    obtain ⟨F0, g0, gor, _⟩ := get hj
    rw [(own (i := i) (v := vi) hor).1] at ho
    rw [(own (i := j) (v := vj) gor).2]
    exact q1.sep i j E0 F0 vi vj b hij h0 hvi g0 hvj ho
  · rintro b ⟨i, E, v, hi, hv, ho⟩
    obtain ⟨E0, h0, hor, _⟩ := get hi
    rw [(own (i := i) (v := v) hor).1] at ho
    exact hf.own b ⟨i, E0, v, h0, hv, ho⟩
  · show RelV _ (envGet (envNil s.L.length s.env) t) _
    rw [envNil_get, ← hlen]
    exact nilC_relV (hA.env t)

/-! Nil slices told as arrays of no elements, one by one. -/

def AC.isNil : AC → Bool
  | .ex (.slice none 0 0) => true
  | _ => false
def csNil1 (k : Nat) : List AC → List AC
  | [] => []
  | c :: r => bif c.isNil then .sl k :: r else c :: csNil1 k r
def A1.hasNil : A1 → Bool
  | .one c => c.isNil
  | .agg cs => cs.any AC.isNil
def A1.nil1 (k : Nat) : A1 → A1
  | .one c => bif c.isNil then .one (.sl k) else .one c
  | .agg cs => .agg (csNil1 k cs)
def asNil1 (k : Nat) : List A1 → List A1
  | [] => []
  | x :: r => bif x.hasNil then x.nil1 k :: r else x :: asNil1 k r
def AV.nil1 (k : Nat) : AV → AV
  | .v x => .v (x.nil1 k)
  | .tup xs => .tup (asNil1 k xs)

theorem isNil_rel {σ : List Value} {c : AC} {v : Value} (h : RelC σ c v) (hn : c.isNil = true) : v = .slice none 0 0 := by
  unfold AC.isNil at hn
  split at hn
  · exact h
  · cases hn
theorem nil1_relCs {σ : List Value} : ∀ {cs : List AC} {us : List Value}, RelCs σ cs us → RelCs (σ ++ [.slice none 0 0]) (csNil1 σ.length cs) us
  | [], [], _ => trivial
  | c :: cs, u :: us, ⟨h1, h2⟩ => by
    simp only [csNil1]
    cases hb : c.isNil
    · exact ⟨RelC.pre (Pre.app _ _) h1, nil1_relCs h2⟩
    · have := isNil_rel h1 hb; subst this
      exact ⟨⟨by simp, rfl⟩, RelCs.pre (Pre.app _ _) h2⟩
  | [], _ :: _, h => h.elim
  | _ :: _, [], h => h.elim
theorem nil1_relA {σ : List Value} {x : A1} {v : Value} (h : RelA σ x v) : RelA (σ ++ [.slice none 0 0]) (x.nil1 σ.length) v := by
  cases x with
  | one c =>
    simp only [A1.nil1]
    cases hb : c.isNil
    · exact RelC.pre (Pre.app _ _) h
    · have := isNil_rel h hb; subst this
      exact ⟨by simp, rfl⟩
  | agg cs => obtain ⟨us, h1, h2⟩ := h; exact ⟨us, h1, nil1_relCs h2⟩
theorem nil1_relAs {σ : List Value} : ∀ {cs : List A1} {us : List Value}, RelAs σ cs us → RelAs (σ ++ [.slice none 0 0]) (asNil1 σ.length cs) us
  | [], [], _ => trivial
  | c :: cs, u :: us, ⟨h1, h2⟩ => by
    simp only [asNil1]
    cases hb : c.hasNil
    · exact ⟨RelA.pre (Pre.app _ _) h1, nil1_relAs h2⟩
    · exact ⟨nil1_relA h1, RelAs.pre (Pre.app _ _) h2⟩
  | [], _ :: _, h => h.elim
  | _ :: _, [], h => h.elim
theorem nil1_relV {σ : List Value} {x : AV} {v : Value} (h : RelV σ x v) : RelV (σ ++ [.slice none 0 0]) (x.nil1 σ.length) v := by
  cases x with
  | v x => exact nil1_relA h
  | tup xs => obtain ⟨us, h1, h2⟩ := h; exact ⟨us, h1, nil1_relAs h2⟩

/-- Where a nil slice stands that is told as a new array: a temporary, or a cell of a variable. -/
inductive NilAt where
  | t (t : Nat) (T : TypeId) (D : Dat)
  | c (k j : Nat) (T : TypeId) (D : Dat)
def NilAt.ok : NilAt → Prop
  | .t _ _ D => D.len = 0
  | .c _ _ _ D => D.len = 0
def nilAt : NilAt → St → Option St
  | .t t T D, s => match envGet s.env t with
    | .v x => some ⟨(t, .v (x.nil1 s.L.length)) :: s.env, s.L ++ [.arr true T D]⟩
    | _ => none
  | .c k j T D, s => match s.L[k]? with
    | some (.var T' cs) => match cs[j]? with
      | some c => bif c.isNil then some ⟨s.env, s.L.set k (.var T' (cs.set j (.sl s.L.length))) ++ [.arr true T D]⟩ else none
      | none => none
    | _ => none
def nilsAt : List NilAt → St → Option St
  | [], s => some s
  | p :: r, s => match nilAt p s with
    | some s' => nilsAt r s'
    | none => none
def nilsOK : List NilAt → Prop
  | [] => True
  | p :: r => p.ok ∧ nilsOK r

theorem At.newNil {s : St} {σ : List Value} {a : Act} {w : World} (hA : At w0 σ0 L0 n s σ a w) {T : TypeId} {D : Dat} (hD : D.len = 0) : At w0 σ0 L0 n ⟨s.env, s.L ++ [.arr true T D]⟩ (σ ++ [.slice none 0 0]) a w := by
  obtain ⟨q1, q2⟩ := hA.sat.snoc (Ext.refl w) (E := .arr true T D) (v := .slice none 0 0) ⟨[], ⟨by simp [hD], .inl ⟨rfl, hD⟩⟩, fun i j hi => by omega⟩ (fun b hb => by cases hb)
  exact ⟨q1, hA.fr.trans q2, fun t => (hA.env t).pre (Pre.app _ _), hA.nodef, hA.size⟩

/-- A variable's cells are told otherwise. -/
theorem At.retell {s : St} {σ : List Value} {a : Act} {w : World} (hA : At w0 σ0 L0 n s σ a w) {k : Nat} {T : TypeId} {cs cs' : List AC} (hL : s.L[k]? = some (.var T cs)) (h : ∀ us, RelCs σ cs us → RelCs σ cs' us) : At w0 σ0 L0 n ⟨s.env, s.L.set k (.var T cs')⟩ σ a w := by
  obtain ⟨v, hv⟩ := hA.sat.some_val hL
  obtain ⟨g, us, rfl, h2, h3⟩ := hA.sat.ok _ _ _ hL hv
  obtain ⟨p1, p2⟩ := hA.sat.put (w' := w) (E' := .var T cs') hL hv rfl rfl rfl (Nat.le_refl _) (fun _ _ _ => rfl) ⟨g, us, rfl, h2, h us h3⟩ (fun b h => h) (fun b h => h)
  exact ⟨p1, hA.fr.trans p2, hA.env, hA.nodef, hA.size⟩

theorem nilAt_sound {p : NilAt} (hp : p.ok) {s s' : St} (h : nilAt p s = some s') {σ : List Value} {a : Act} {w : World} (hA : At w0 σ0 L0 n s σ a w) : ∃ σ', At w0 σ0 L0 n s' σ' a w := by
  cases p with
  | t t T D =>
    simp only [nilAt] at h
    split at h
    · rename_i x hx
      cases h
      have h1 := hA.newNil (T := T) hp
      refine ⟨_, h1.sat, h1.fr, fun t' => ?_, h1.nodef, h1.size⟩
      simp only [envGet]
      cases hb : Nat.beq t t'
      · exact h1.env t'
      · have := Nat.eq_of_beq_eq_true hb; subst this
        have h2 := hA.env t
        rw [hx] at h2
        rw [← hA.sat.len]
        exact nil1_relA h2
    · cases h
  | c k j T D =>
    simp only [nilAt] at h
    split at h
    · rename_i T' cs hL
      split at h
      · rename_i c hc
        cases hb : c.isNil
        · simp [hb] at h
        · simp only [hb, cond_true] at h
          cases h
          have h1 := hA.newNil (T := T) hp
          have h2 := h1.retell (k := k) (T := T') (cs := cs) (cs' := cs.set j (.sl s.L.length)) (get_app hL) fun us hr => by
            obtain ⟨u, hu, hru⟩ := hr.get hc
            have hn := isNil_rel hru hb
            have h3 := hr.set j (c := .sl s.L.length) (u := u) ⟨by rw [← hA.sat.len, hn]; simp, by rw [hn]; rfl⟩
            have e : us.set j u = us := by
              apply List.ext_getElem?
              intro i
              by_cases hi : j = i
              · subst hi; rw [List.getElem?_set]; have h9 := List.getElem?_eq_some_iff.1 hu; simp [hu, h9.1, h9.2]
              · rw [List.getElem?_set_ne hi]
            rw [e] at h3; exact h3
          have e : (s.L ++ [Ent.arr true T D]).set k (.var T' (cs.set j (.sl s.L.length))) = s.L.set k (.var T' (cs.set j (.sl s.L.length))) ++ [.arr true T D] := List.set_append_left _ _ (List.getElem?_eq_some_iff.1 hL).1
          have h2 : At w0 σ0 L0 n ⟨s.env, (s.L ++ [Ent.arr true T D]).set k (.var T' (cs.set j (.sl s.L.length)))⟩ _ a w := h2
          rw [e] at h2
          exact ⟨_, h2⟩
      · cases h
    · cases h
theorem nilsAt_sound : ∀ {ps : List NilAt}, nilsOK ps → ∀ {s s' : St}, nilsAt ps s = some s' → ∀ {σ : List Value} {a : Act} {w : World}, At w0 σ0 L0 n s σ a w → ∃ σ', At w0 σ0 L0 n s' σ' a w
  | [], _, s, s', h, σ, a, w, hA => by simp [nilsAt] at h; subst h; exact ⟨σ, hA⟩
  | p :: r, ⟨h1, h2⟩, s, s', h, σ, a, w, hA => by
    simp only [nilsAt] at h
    split at h
    · rename_i s1 hs1
      obtain ⟨σ1, hA1⟩ := nilAt_sound h1 hs1 hA
      exact nilsAt_sound h2 h hA1
    · cases h

/-- The start of a loop. -/
def LeI (m0 : Nat) (s s' : St) : Prop := Le m0 s s' ∨ (∃ (T : TypeId) (D : Dat), D.len = 0 ∧ Le m0 (nilSt T D s) s') ∨ ∃ (ps : List NilAt) (s1 : St), nilsOK ps ∧ nilsAt ps s = some s1 ∧ s1.L = s'.L ∧ LeEnvS s1.env s'.env
theorem LeI.sound {s s' : St} (h : LeI σ0.length s s') {σ : List Value} {a : Act} {w : World} (hA : At w0 σ0 L0 n s σ a w) : ∃ σ', At w0 σ0 L0 n s' σ' a w := by
  rcases h with h | ⟨T, D, hD, h⟩ | ⟨ps, s1, h1, h2, h3, h4⟩
  · exact h.sound hA
  · obtain ⟨σ', hA'⟩ := nilSt_sound (T := T) hD hA
    exact h.sound hA'
  · obtain ⟨σ', hA'⟩ := nilsAt_sound h1 h2 hA
    exact ⟨σ', by rw [← h3]; exact hA'.sat, by rw [← h3]; exact hA'.fr, LeEnvS_get hA'.env h4, hA'.nodef, hA'.size⟩

/-- A drawn region whose walk is shown by a rule of its own. -/
def RegionOK (P : Program) (n m0 : Nat) (id : Nat) (ops : Array Oper) (s : St) (N : St → Prop) : Prop :=
  ∀ (w0 : World) (σ0 : List Value) (L0 : List Ent) (Q : Exit → Act → World → Prop), σ0.length = m0 → (∀ s' σ a w, N s' → At w0 σ0 L0 n s' σ a w → Q .normal a w) →
    ∀ σ a w, At w0 σ0 L0 n s σ a w → (Code.region id ops true).wp P Q a w

def vCode (P : Program) (ty : TyT) (n m0 : Nat) : Code → St → (St → Prop) → (Nat → St → Prop) → (St → Prop) → Prop
  | .skip, s, N, _, _ => N s
  | .region id ops draw, s, N, _, _ => bif draw then (∃ nh c, vDraw P ty n m0 ops.toList nh c s N) ∨ (∃ nh p d c, vDraw2 P ty n m0 ops.toList nh p d c s N) ∨ (∃ nh p d qs tv c, vDraw3 P ty n m0 ops.toList nh p d qs tv c s N) ∨ (∃ s1, vAny P ty n m0 ops.toList ops.toList.length (List.replicate ops.toList.length false) s (Eqv s1) ∧ N s1) ∨ RegionOK P n m0 id ops s N else vOps P ty n m0 ops.toList 0 ops.toList s N
  | .seq x y, s, N, X, R => vCode P ty n m0 x s (fun s' => vCode P ty n m0 y s' N X R) X R
  | .cond c x y, s, N, X, R => match ev s.env c with
    | .v (.one (.ex (.bool β))) => (β = true → vCode P ty n m0 x s N X R) ∧ (β = false → vCode P ty n m0 y s N X R)
    | _ => False
  | .block id c, s, N, X, R => vCode P ty n m0 c s N (fun id' s' => bif Nat.beq id' id then N s' else X id' s') R
  | .loop c, s, N, X, R => ∃ (ι : Type) (I : ι → St) (μ : ι → Nat) (i0 : ι), LeI m0 s (I i0) ∧ ∀ i, vCode P ty n m0 c (I i) (fun s' => ∃ j, μ j < μ i ∧ Le m0 s' (I j)) X R
  | .exit id, s, _, X, _ => X id s
  | .ret, s, _, _, R => R s
  | _, _, _, _, _ => False

theorem wp_loop_ix {c : Code} {Q : Exit → Act → World → Prop} {a : Act} {w : World} {ι : Type} (I : ι → Act → World → Prop) (μ : ι → Nat) (i0 : ι) (h₀ : I i0 a w)
    (round : ∀ i a w, I i a w → c.wp P (Exit.then (fun a' w' => ∃ j, μ j < μ i ∧ I j a' w') Q) a w) : (Code.loop c).wp P Q a w := by
  intro b k cs
  have key : ∀ n i a w, μ i = n → I i a w → ∃ e a' w', Q e a' w' ∧ Arrives P (lone (b.at a (.code c :: .inLoop c :: k)) cs w) b k cs e a' w' := by
    intro n
    induction n using Nat.strongRecOn with
    | _ n ih =>
      intro i a w hn hI
      obtain ⟨e, a₁, w₁, hq, harr⟩ := round i a w hI b (.inLoop c :: k) cs
      cases e with
      | normal =>
        obtain ⟨j, hlt, hI₁⟩ := hq
        obtain ⟨e₂, a₂, w₂, hq₂, harr₂⟩ := ih (μ j) (hn ▸ hlt) j a₁ w₁ rfl hI₁
        exact ⟨e₂, a₂, w₂, hq₂, .of_steps (Steps.trans harr (.one step_inLoop)) harr₂⟩
      | exit id => exact ⟨_, a₁, w₁, hq, .pass (x := .inLoop c) rfl (fun _ _ => .inl (by simp)) harr⟩
      | goto l => exact ⟨_, a₁, w₁, hq, .pass (x := .inLoop c) rfl (fun _ _ => .inl (by simp)) harr⟩
      | ret => exact ⟨_, a₁, w₁, hq, .pass (x := .inLoop c) rfl (fun _ _ => .inl (by simp)) harr⟩
      | panic ch => exact ⟨_, a₁, w₁, hq, .pass (x := .inLoop c) rfl (fun _ _ => .inl (by simp)) harr⟩
      | outgrown => exact ⟨_, a₁, w₁, hq, .pass (x := .inLoop c) rfl (fun _ _ => .inl (by simp)) harr⟩
  obtain ⟨e, a', w', hq, harr⟩ := key _ i0 a w rfl h₀
  exact ⟨e, a', w', hq, .of_steps (.one step_loop) harr⟩

theorem vCode_sound (hty : TyOK P ty) (hmix : P.follows .mixedOrders = true) : ∀ (c : Code) {Q : Exit → Act → World → Prop} {N : St → Prop} {X : Nat → St → Prop} {R : St → Prop}
    (hN : ∀ s σ a w, N s → At w0 σ0 L0 n s σ a w → Q .normal a w) (hX : ∀ id s σ a w, X id s → At w0 σ0 L0 n s σ a w → Q (.exit id) a w) (hR : ∀ s σ a w, R s → At w0 σ0 L0 n s σ a w → Q .ret a w)
    {s : St} {σ : List Value} {a : Act} {w : World}, vCode P ty n σ0.length c s N X R → At w0 σ0 L0 n s σ a w → c.wp P Q a w
  | .skip, Q, N, X, R, hN, hX, hR, s, σ, a, w, h, hA => wp_skip (hN s σ a w h hA)
  | .region id ops draw, Q, N, X, R, hN, hX, hR, s, σ, a, w, h, hA => by
    simp only [vCode] at h
    cases draw with
    | false => exact wp_region_list (by have := vOps_sound hty hN _ _ s σ a w h hA; simpa using this)
    | true =>
      rcases h with ⟨nh, c, h⟩ | ⟨nh, p, d, c, h⟩ | ⟨nh, p, d, qs, tv, c, h⟩ | ⟨s1, h, h1⟩ | h
      · have := vDraw_sound hty hmix (id := id) h hN hA
        simpa using this
      · have := vDraw2_sound hty hmix (id := id) h hN hA
        simpa using this
      · have := vDraw3_sound hty hmix (id := id) h hN hA
        simpa using this
      · have := vAny_sound hty hmix (id := id) h h1 hN hA
        simpa using this
      · exact h _ _ _ _ rfl hN _ _ _ hA
  | .seq x y, Q, N, X, R, hN, hX, hR, s, σ, a, w, h, hA => by
    simp only [vCode] at h
    refine wp_seq (vCode_sound hty hmix x (N := fun s' => vCode P ty n σ0.length y s' N X R) (X := X) (R := R) ?_ ?_ ?_ h hA)
    · intro s' σ' a' w' h' hA'
      exact vCode_sound hty hmix y hN hX hR h' hA'
    · exact hX
    · exact hR
  | .cond c x y, Q, N, X, R, hN, hX, hR, s, σ, a, w, h, hA => by
    simp only [vCode] at h
    split at h
    · rename_i β hc
      have h1 := hA.env.ev c
      rw [hc] at h1
      have h1 : a.eval c = .bool β := h1
      exact wp_cond_split h1 (fun e => vCode_sound hty hmix x hN hX hR (h.1 e) hA) (fun e => vCode_sound hty hmix y hN hX hR (h.2 e) hA)
    · exact h.elim
  | .block id c, Q, N, X, R, hN, hX, hR, s, σ, a, w, h, hA => by
    simp only [vCode] at h
    refine wp_block (vCode_sound hty hmix c (N := N) (R := R) ?_ ?_ ?_ h hA)
    · exact hN
    · intro id' s' σ' a' w' h' hA'
      simp only [Exit.inBlock]
      cases hb : Nat.beq id' id
      · rw [hb] at h'
        rw [if_neg (fun e => by subst e; rw [Nat.beq_refl] at hb; cases hb)]
        exact hX id' s' σ' a' w' h' hA'
      · rw [hb] at h'
        rw [if_pos (Nat.eq_of_beq_eq_true hb)]
        exact hN s' σ' a' w' h' hA'
    · exact hR
  | .loop c, Q, N, X, R, hN, hX, hR, s, σ, a, w, h, hA => by
    simp only [vCode] at h
    obtain ⟨ι, I, μ, i0, hle, hb⟩ := h
    refine wp_loop_ix (fun i a w => ∃ σ, At w0 σ0 L0 n (I i) σ a w) μ i0 (hle.sound hA) fun i a w ⟨σ, hA⟩ => ?_
    refine vCode_sound hty hmix c (X := X) (R := R) ?_ ?_ ?_ (hb i) hA
    · rintro s' σ' a' w' ⟨j, hj, hle'⟩ hA'
      exact ⟨j, hj, hle'.sound hA'⟩
    · exact hX
    · exact hR
  | .exit id, Q, N, X, R, hN, hX, hR, s, σ, a, w, h, hA => wp_exit (hX id s σ a w h hA)
  | .ret, Q, N, X, R, hN, hX, hR, s, σ, a, w, h, hA => wp_ret (hR s σ a w h hA)
  | .rangeFunc .., _, _, _, _, _, _, _, _, _, _, _, h, _ => h.elim
  | .scope _, _, _, _, _, _, _, _, _, _, _, _, h, _ => h.elim
  | .label _, _, _, _, _, _, _, _, _, _, _, _, h, _ => h.elim
  | .goto _, _, _, _, _, _, _, _, _, _, _, _, h, _ => h.elim
  | .refuse _, _, _, _, _, _, _, _, _, _, _, _, h, _ => h.elim

/-! ### The end of a function -/

def resA1 (ty : TyT) (s : St) : ResultVar → Option A1
  | .tmp t => match envGet s.env t with
    | .v x => some x
    | _ => none
  | .cell t T => match envGet s.env t with
    | .v (.one (.pv k j)) => match ty T, s.L[k]? with
      | some ti, some (.var _ cs) =>
        bif ti.k.isSt then (bif Nat.ble (j + ti.size) cs.length then some (.agg ((cs.drop j).take ti.size)) else none)
        else match cs[j]? with
          | some c => some (.one c)
          | none => none
      | _, _ => none
    | _ => none
def resAll (ty : TyT) (s : St) : List ResultVar → Option (List A1)
  | [] => some []
  | r :: rs => match resA1 ty s r, resAll ty s rs with
    | some x, some xs => some (x :: xs)
    | _, _ => none
def tupOf : List A1 → AV
  | [x] => .v x
  | xs => .tup xs

def rangeFrom : Nat → Nat → List Nat
  | 0, _ => []
  | m + 1, i => i :: rangeFrom m (i + 1)

/-- A step ahead of the choice of what a result leaves. -/
inductive Prep where
  | nil (T : TypeId) (D : Dat)
  | mv (k : Nat)
  | drop (k : Nat)

/-- One entry under a number of its own. -/
def AC.mvC (k n : Nat) : AC → AC
  | .sl k' => bif Nat.beq k' k then .sl n else .sl k'
  | c => c
def A1.mvC (k n : Nat) : A1 → A1
  | .one c => .one (c.mvC k n)
  | .agg cs => .agg (cs.map (AC.mvC k n))
def AV.mvC (k n : Nat) : AV → AV
  | .v x => .v (x.mvC k n)
  | .tup xs => .tup (xs.map (A1.mvC k n))

def preps : List Prep → List Ent → AV → (List Ent → AV → Prop) → Prop
  | [], L, α, K => K L α
  | .nil T D :: r, L, α, K => D.len = 0 ∧ preps r (L ++ [.arr true T D]) (α.nil1 L.length) K
  | .mv k :: r, L, α, K => match L[k]? with
    | some E => preps r (L.set k .dead ++ [E]) (α.mvC k L.length) K
    | none => False
  | .drop k :: r, L, α, K => preps r (L.set k .dead) α K

theorem mvC_relC {σ : List Value} {c : AC} {v u : Value} {k : Nat} (hk : σ[k]? = some u) (h : RelC σ c v) : RelC (σ ++ [u]) (c.mvC k σ.length) v := by
  unfold AC.mvC
  split
  · rename_i k'
    cases hb : Nat.beq k' k
    · exact RelC.pre (Pre.app _ _) h
    · have := Nat.eq_of_beq_eq_true hb; subst this
      obtain ⟨h1, h2⟩ := h
      rw [hk] at h1; cases h1
      exact ⟨by simp, h2⟩
  · exact RelC.pre (Pre.app _ _) h
theorem mvC_relCs {σ : List Value} {u : Value} {k : Nat} (hk : σ[k]? = some u) : ∀ {cs : List AC} {us : List Value}, RelCs σ cs us → RelCs (σ ++ [u]) (cs.map (AC.mvC k σ.length)) us
  | [], [], _ => trivial
  | _ :: _, _ :: _, ⟨h1, h2⟩ => ⟨mvC_relC hk h1, mvC_relCs hk h2⟩
  | [], _ :: _, h => h.elim
  | _ :: _, [], h => h.elim
theorem mvC_relA {σ : List Value} {u : Value} {k : Nat} (hk : σ[k]? = some u) {x : A1} {v : Value} (h : RelA σ x v) : RelA (σ ++ [u]) (x.mvC k σ.length) v := by
  cases x with
  | one c => exact mvC_relC hk h
  | agg cs => obtain ⟨us, h1, h2⟩ := h; exact ⟨us, h1, mvC_relCs hk h2⟩
theorem mvC_relAs {σ : List Value} {u : Value} {k : Nat} (hk : σ[k]? = some u) : ∀ {cs : List A1} {us : List Value}, RelAs σ cs us → RelAs (σ ++ [u]) (cs.map (A1.mvC k σ.length)) us
  | [], [], _ => trivial
  | _ :: _, _ :: _, ⟨h1, h2⟩ => ⟨mvC_relA hk h1, mvC_relAs hk h2⟩
  | [], _ :: _, h => h.elim
  | _ :: _, [], h => h.elim
theorem mvC_relV {σ : List Value} {u : Value} {k : Nat} (hk : σ[k]? = some u) {x : AV} {v : Value} (h : RelV σ x v) : RelV (σ ++ [u]) (x.mvC k σ.length) v := by
  cases x with
  | v x => exact mvC_relA hk h
  | tup xs => obtain ⟨us, h1, h2⟩ := h; exact ⟨us, h1, mvC_relAs hk h2⟩

theorem drop_sat {σ : List Value} {L : List Ent} {w : World} (hs : SatL σ L w) (k : Nat) : SatL σ (L.set k .dead) w ∧ ∀ b, Own σ (L.set k .dead) b → Own σ L b := by
  refine ⟨⟨by simp [hs.len], fun i E v hi hv => ?_, fun i j Ei Ej vi vj b hij hi hvi hj hvj ho => ?_⟩, ?_⟩
  · rcases get_set hi with ⟨_, h⟩ | ⟨_, rfl⟩
    · exact hs.ok i E v h hv
    · trivial
  · rcases get_set hi with ⟨_, h⟩ | ⟨_, rfl⟩
    · rcases get_set hj with ⟨_, h'⟩ | ⟨_, rfl⟩
      · exact hs.sep i j Ei Ej vi vj b hij h hvi h' hvj ho
      · intro h; cases h
    · cases ho
  · rintro b ⟨i, E, v, hi, hv, ho⟩
    rcases get_set hi with ⟨_, h⟩ | ⟨_, rfl⟩
    · exact ⟨i, E, v, h, hv, ho⟩
    · cases ho

theorem mv_sat {σ : List Value} {L : List Ent} {w : World} (hs : SatL σ L w) {k : Nat} {E : Ent} {u : Value} (hE : L[k]? = some E) (hu : σ[k]? = some u) :
    SatL (σ ++ [u]) (L.set k .dead ++ [E]) w ∧ ∀ b, Own (σ ++ [u]) (L.set k .dead ++ [E]) b → Own σ L b := by
  have hl := hs.len
  have src : ∀ {i : Nat} {F : Ent} {v : Value}, (L.set k .dead ++ [E])[i]? = some F → (σ ++ [u])[i]? = some v → F = .dead ∨ (i ≠ k ∧ L[i]? = some F ∧ σ[i]? = some v) ∨ (i = L.length ∧ F = E ∧ v = u) := by
    intro i F v hi hv
    rcases get_snoc hi with ⟨h1, h2⟩ | ⟨h1, h2⟩
    · rcases get_snoc hv with ⟨h3, h4⟩ | ⟨h3, h4⟩
      · rcases get_set h2 with ⟨h5, h6⟩ | ⟨_, h6⟩
        · exact .inr (.inl ⟨h5, h6, h4⟩)
        · exact .inl h6
      · simp at h1; omega
    · rcases get_snoc hv with ⟨h3, h4⟩ | ⟨h3, h4⟩
      · simp at h1; omega
      · exact .inr (.inr ⟨by simpa using h1, h2, h4⟩)
  refine ⟨⟨by simp [hl], fun i F v hi hv => ?_, fun i j Fi Fj vi vj b hij hi hvi hj hvj ho => ?_⟩, ?_⟩
  · rcases src hi hv with rfl | ⟨h1, h2, h3⟩ | ⟨h1, rfl, rfl⟩
    · trivial
    · exact (hs.ok i F v h2 h3).pre (Pre.app _ _)
    · exact (hs.ok k F v hE hu).pre (Pre.app _ _)
  · rcases src hi hvi with rfl | ⟨h1, h2, h3⟩ | ⟨h1, rfl, rfl⟩
    · cases ho
    · rcases src hj hvj with rfl | ⟨g1, g2, g3⟩ | ⟨g1, rfl, rfl⟩
      · intro h; cases h
      · exact hs.sep i j Fi Fj vi vj b hij h2 h3 g2 g3 ho
      · exact hs.sep i k Fi Fj vi vj b h1 h2 h3 hE hu ho
    · rcases src hj hvj with rfl | ⟨g1, g2, g3⟩ | ⟨g1, rfl, rfl⟩
      · intro h; cases h
      · exact hs.sep k j Fi Fj vi vj b (Ne.symm g1) hE hu g2 g3 ho
      · omega
  · rintro b ⟨i, F, v, hi, hv, ho⟩
    rcases src hi hv with rfl | ⟨h1, h2, h3⟩ | ⟨h1, rfl, rfl⟩
    · cases ho
    · exact ⟨i, F, v, h2, h3, ho⟩
    · exact ⟨k, F, v, hE, hu, ho⟩

theorem nil_sat {σ : List Value} {L : List Ent} {w : World} (hs : SatL σ L w) {T : TypeId} {D : Dat} (hD : D.len = 0) :
    SatL (σ ++ [.slice none 0 0]) (L ++ [.arr true T D]) w ∧ ∀ b, Own (σ ++ [.slice none 0 0]) (L ++ [.arr true T D]) b → Own σ L b := by
  obtain ⟨q1, q2⟩ := hs.snoc (Ext.refl w) (E := .arr true T D) (v := .slice none 0 0) ⟨[], ⟨by simp [hD], .inl ⟨rfl, hD⟩⟩, fun i j hi => by omega⟩ (fun b hb => by cases hb)
  refine ⟨q1, ?_⟩
  rintro b ⟨i, E, v, hi, hv, ho⟩
  rcases get_snoc hi with ⟨h1, h2⟩ | ⟨h1, rfl⟩
  · rcases get_snoc hv with ⟨h3, h4⟩ | ⟨h3, h4⟩
    · exact ⟨i, E, v, h2, h4, ho⟩
    · have := hs.len; omega
  · rcases get_snoc hv with ⟨h3, h4⟩ | ⟨h3, rfl⟩
    · have := hs.len; omega
    · cases ho

theorem preps_sound {w : World} : ∀ {ps : List Prep} {σ : List Value} {L : List Ent} {α : AV} {v : Value} {K : List Ent → AV → Prop}, preps ps L α K → SatL σ L w → RelV σ α v →
    ∃ σ' L' α', K L' α' ∧ SatL σ' L' w ∧ RelV σ' α' v ∧ Pre σ σ' ∧ ∀ b, Own σ' L' b → Own σ L b
  | [], σ, L, α, v, K, h, hs, hv => ⟨σ, L, α, h, hs, hv, Pre.refl σ, fun _ h => h⟩
  | .nil T D :: r, σ, L, α, v, K, ⟨h0, h⟩, hs, hv => by
    obtain ⟨q1, q2⟩ := nil_sat hs (T := T) h0
    obtain ⟨σ', L', α', g1, g2, g3, g4, g5⟩ := preps_sound h q1 (by rw [← hs.len]; exact nil1_relV hv)
    exact ⟨σ', L', α', g1, g2, g3, (Pre.app _ _).trans g4, fun b hb => q2 b (g5 b hb)⟩
  | .mv k :: r, σ, L, α, v, K, h, hs, hv => by
    simp only [preps] at h
    split at h
    · rename_i E hE
      obtain ⟨u, hu⟩ := hs.some_val hE
      obtain ⟨q1, q2⟩ := mv_sat hs hE hu
      obtain ⟨σ', L', α', g1, g2, g3, g4, g5⟩ := preps_sound h q1 (by rw [← hs.len]; exact mvC_relV hu hv)
      exact ⟨σ', L', α', g1, g2, g3, (Pre.app _ _).trans g4, fun b hb => q2 b (g5 b hb)⟩
    · exact h.elim
  | .drop k :: r, σ, L, α, v, K, h, hs, hv => by
    simp only [preps] at h
    obtain ⟨q1, q2⟩ := drop_sat hs k
    obtain ⟨σ', L', α', g1, g2, g3, g4, g5⟩ := preps_sound h q1 hv
    exact ⟨σ', L', α', g1, g2, g3, g4, fun b hb => q2 b (g5 b hb)⟩

/-- ps: nil slices of the result told as a new array of no elements; arrays that came in and are handed out. -/
def vRet (ty : TyT) (m0 : Nat) (rs : List ResultVar) (L' : List Ent) (ret : AV) (s : St) : Prop :=
  match resAll ty s rs with
  | none => False
  | some xs => AV.fo (tupOf xs) fun α => ∃ ps : List Prep, preps ps s.L α fun L α =>
    natsFo (clo L 60 (rangeFrom m0 0) α.refs) fun ρ => lFo (subL ρ L) fun L1 => (α.res ρ).fo fun α1 => (okPi0 ρ L && keeps0 m0 0 ρ) = true ∧ L1 = L' ∧ α1 = ret

def resM (tmps : Array Value) : ResultVar → Sem Value
  | .tmp t => pure (tmps.getD t undef)
  | .cell t T => do loadVar T (← asAddr (tmps.getD t undef))

theorem resA1_sound (hty : TyOK P ty) {s : St} {r : ResultVar} {x : A1} (h : resA1 ty s r = some x) {σ : List Value} {a : Act} {w : World} (hs : SatL σ s.L w) (he : EnvOK σ s.env a) :
    ∃ v, (resM a.tmps r).run P w = .ok v w ∧ RelA σ x v := by
  cases r with
  | tmp t =>
    simp only [resA1] at h
    split at h
    · rename_i y hy
      cases h
      have := he t
      rw [hy] at this
      exact ⟨_, rfl, this⟩
    · cases h
  | cell t T =>
    simp only [resA1] at h
    split at h
    · rename_i k j hk
      have hv := he t
      rw [hk] at hv
      split at h
      · rename_i ti T' cs hT hL
        obtain ⟨g, hg, hv⟩ := hv
        obtain ⟨g', us, h1, h2, h3, h4⟩ := var_cells (hs.ok _ _ _ hL hg)
        have : g = g' := by simp [at0] at h1; exact h1
        subst this
        cases hst : ti.k.isSt
        · simp only [hst, cond_false] at h
          split at h
          · rename_i c hc
            cases h
            obtain ⟨u, hu, hr⟩ := h3.get hc
            refine ⟨u, ?_, hr⟩
            simp only [resM]
            rw [hv]
            simp only [asAddr, Sem.run_bind, Sem.run_pure, Result.andThen_ok]
            exact run_loadVar_one hty hT hst _ _ w (h4 _ _ hu)
          · cases h
        · simp only [hst, cond_true] at h
          cases hle : Nat.ble (j + ti.size) cs.length
          · simp [hle] at h
          · simp only [hle, cond_true] at h
            cases h
            have hle' : j + ti.size ≤ cs.length := Nat.le_of_ble_eq_true hle
            refine ⟨.agg ((us.drop j).take ti.size).toArray, ?_, ⟨_, rfl, (h3.drop j).take ti.size⟩⟩
            simp only [resM]
            rw [hv]
            simp only [asAddr, Sem.run_bind, Sem.run_pure, Result.andThen_ok]
            refine run_loadVar_agg hty hT hst _ _ ?_ w ?_
            · have := h3.len; simp; omega
            · intro i v hi
              rw [add_lit']
              apply h4
              rw [List.getElem?_take] at hi
              split at hi
              · rw [List.getElem?_drop] at hi; exact hi
              · cases hi
      · cases h
    · cases h

theorem resAll_sound (hty : TyOK P ty) {s : St} {σ : List Value} {a : Act} {w : World} (hs : SatL σ s.L w) (he : EnvOK σ s.env a) : ∀ {rs : List ResultVar} {xs : List A1}, resAll ty s rs = some xs →
    ∃ vs : List Value, (rs.mapM (resM a.tmps)).run P w = .ok vs w ∧ RelAs σ xs vs
  | [], xs, h => by
    simp [resAll] at h; subst h
    exact ⟨[], rfl, trivial⟩
  | r :: rs, xs, h => by
    simp only [resAll] at h
    split at h
    · rename_i y ys hy hys
      cases h
      obtain ⟨v, h1, h2⟩ := resA1_sound hty hy hs he
      obtain ⟨vs, h3, h4⟩ := resAll_sound hty hs he hys
      refine ⟨v :: vs, ?_, h2, h4⟩
      rw [List.mapM_cons, Sem.run_bind, h1, Result.andThen_ok, Sem.run_bind, h3]
      rfl
    · cases h

theorem results_run (hty : TyOK P ty) {fn : Func} {s : St} {σ : List Value} {a : Act} {w : World} (hs : SatL σ s.L w) (he : EnvOK σ s.env a) {xs : List A1} (h : resAll ty s fn.results.toList = some xs) :
    ∃ v, (results fn a.tmps).run P w = .ok v w ∧ RelV σ (tupOf xs) v := by
  obtain ⟨vs, h1, h2⟩ := resAll_sound hty hs he h
  refine ⟨if h : vs.toArray.size = 1 then vs.toArray[0] else .tuple vs.toArray, ?_, ?_⟩
  · have e : results fn a.tmps = (do let vs ← fn.results.mapM (resM a.tmps); pure (if h : vs.size = 1 then vs[0] else .tuple vs)) := by
      unfold results
      congr 1
    rw [e, Array.mapM_eq_mapM_toList]
    simp only [bind_map_left, Sem.run_bind, h1, Result.andThen_ok, Sem.run_pure]
  · match xs, vs, h2 with
    | [], [], _ => exact ⟨[], rfl, trivial⟩
    | [x], [v], ⟨h2, _⟩ => exact h2
    | x :: y :: xs, v :: u :: vs, h2 => exact ⟨_, rfl, h2⟩

theorem getD_list_map {l : List Nat} {f : Nat → Nat} : True := trivial

theorem vRet_sound (hty : TyOK P ty) {fn : Func} {L' : List Ent} {ret : AV} {s : St} (h : vRet ty σ0.length fn.results.toList L' ret s) {σ : List Value} {a : Act} {w : World} (hA : At w0 σ0 L0 n s σ a w) :
    a.defers = [] ∧ ∃ v, (results fn a.tmps).run P w = .ok v w ∧ ∃ σ', SatL σ' L' w ∧ RelV σ' ret v ∧ Fr w0 σ0 L0 w σ' L' := by
  refine ⟨hA.nodef, ?_⟩
  unfold vRet at h
  split at h
  · exact h.elim
  · rename_i xs hxs
    obtain ⟨v, h1, h2⟩ := results_run hty hA.sat hA.env hxs
    refine ⟨v, h1, ?_⟩
    rw [AV.fo_iff] at h
    have hf := hA.fr
    obtain ⟨ps, h⟩ := h
    obtain ⟨σ1, L1, α1, h, g2, g3, g4, g5⟩ := preps_sound h hA.sat h2
    simp only [natsFo_iff, lFo_iff, AV.fo_iff, Bool.and_eq_true] at h
    obtain ⟨⟨h3, h4⟩, h5, h6⟩ := h
    obtain ⟨p1, p2⟩ := sel_sat g2 h3
    rw [h5] at p1 p2
    exact ⟨_, p1, by rw [← h6]; exact res_relV' g3, ⟨hf.os, hf.tape, hf.output, hf.size, hf.blk, fun b hb => hf.own b (g5 b (p2 b hb)), pre_sel g2 h4 (hf.pre.trans g4)⟩⟩

def argEnv : Nat → List A1 → List (Nat × AV)
  | _, [] => []
  | i, x :: xs => (i, .v x) :: argEnv (i + 1) xs

theorem argEnv_ok {σ : List Value} : ∀ {i : Nat} {args : List A1} {us : List Value}, RelAs σ args us → ∀ t, RelV σ (envGet (argEnv i args) t) (if i ≤ t then us.getD (t - i) undef else undef)
  | i, [], [], _, t => trivial
  | i, x :: xs, u :: us, ⟨h1, h2⟩, t => by
    simp only [argEnv, envGet]
    cases hb : Nat.beq i t
    · have hne : i ≠ t := fun e => by subst e; rw [Nat.beq_refl] at hb; cases hb
      have h := argEnv_ok (i := i + 1) h2 t
      by_cases hle : i ≤ t
      · rw [if_pos hle]
        rw [if_pos (by omega)] at h
        rw [show t - i = (t - (i + 1)) + 1 by omega]
        exact h
      · rw [if_neg hle]
        rw [if_neg (by omega)] at h
        exact h
    · have := Nat.eq_of_beq_eq_true hb; subst this
      simp only [Nat.le_refl, if_true, Nat.sub_self]
      exact h1
  | i, [], _ :: _, h, _ => h.elim
  | i, _ :: _, [], h, _ => h.elim

/-- Enough for 'Keeps'. -/
def KeepsS : List Ent → List Ent → Prop
  | [], L => L.all (fun E => match E with | .arr false _ _ => false | _ => true) = true
  | E :: r, E' :: r' => (E = E' ∨ (match E with | .arr false _ _ => false | _ => true) = true) ∧ KeepsS r r'
  | _ :: _, [] => False
theorem keeps_of : ∀ {L L' : List Ent}, KeepsS L L' → Keeps L L'
  | [], L', h => h
  | E :: r, E' :: r', ⟨h1, h2⟩ => by
    have := keeps_of h2
    cases E with
    | dead => exact this
    | var T cs => exact this
    | arr own T D =>
      cases own with
      | true => exact this
      | false =>
        rcases h1 with h1 | h1
        · exact ⟨h1.symm, this⟩
        · cases h1
  | _ :: _, [], h => h.elim

/-- A float's bits up to those of a NaN. -/
def CF (k : FloatKind) (x : Nat) : Prop := ∃ b, IsF k x b
def cellCF : AC → Prop
  | .fl k x => CF k x
  | .cx k x y => CF k x ∧ CF k y
  | _ => True
def entCF : Ent → Prop
  | .arr _ _ D => D.len ≤ maxLen ∧ ∀ i j, i < D.len → j < D.sz → cellCF (D.cell i j)
  | .var _ cs => ∀ c ∈ cs, cellCF c
  | .dead => True
def argCF : A1 → Prop
  | .one c => cellCF c
  | .agg cs => ∀ c ∈ cs, cellCF c

theorem cellCF_of {σ : List Value} {c : AC} {v : Value} (h : RelC σ c v) : cellCF c := by
  cases c with
  | fl k x => obtain ⟨b, _, h⟩ := h; exact ⟨b, h⟩
  | cx k x y => obtain ⟨a, b, _, h1, h2⟩ := h; exact ⟨⟨a, h1⟩, ⟨b, h2⟩⟩
  | _ => trivial
theorem cellsCF_of {σ : List Value} : ∀ {cs : List AC} {us : List Value}, RelCs σ cs us → ∀ c ∈ cs, cellCF c
  | [], _, _, c, h => by cases h
  | c0 :: cs, u :: us, ⟨h1, h2⟩, c, h => by
    cases h with
    | head => exact cellCF_of h1
    | tail _ h => exact cellsCF_of h2 c h
  | _ :: _, [], h, _, _ => h.elim
theorem entCF_of {σ : List Value} {w : World} {E : Ent} {v : Value} (h : EntOK σ w E v) : entCF E := by
  cases E with
  | dead => trivial
  | var T cs => obtain ⟨g, us, _, _, h3⟩ := h; exact cellsCF_of h3
  | arr own T D =>
    obtain ⟨A, n, c, e1, e2, e3, _, h⟩ := h.reads
    refine ⟨by rw [← e2]; exact e3, fun i j hi hj => ?_⟩
    obtain ⟨_, u, _, _, h⟩ := h i j hi hj
    exact cellCF_of h
theorem argsCF_of {σ : List Value} : ∀ {xs : List A1} {us : List Value}, RelAs σ xs us → ∀ x ∈ xs, argCF x
  | [], _, _, c, h => by cases h
  | x0 :: cs, u :: us, ⟨h1, h2⟩, c, h => by
    cases h with
    | head => cases x0 with
      | one c => exact cellCF_of h1
      | agg cs => obtain ⟨us, _, h1⟩ := h1; exact cellsCF_of h1
    | tail _ h => exact argsCF_of h2 c h
  | _ :: _, [], h, _, _ => h.elim

/-- What every start of a call is known to keep to. -/
def goodA : List A1 → Prop
  | [] => True
  | x :: xs => argCF x ∧ goodA xs
def goodL : List Ent → Prop
  | [] => True
  | E :: r => entCF E ∧ goodL r
def good (L : List Ent) (args : List A1) : Prop := goodL L ∧ goodA args
theorem good_args : ∀ {args : List A1}, (∀ x ∈ args, argCF x) → goodA args
  | [], _ => trivial
  | x :: xs, h => ⟨h x (.head _), good_args fun y hy => h y (.tail _ hy)⟩
theorem good_ents : ∀ {L : List Ent}, (∀ E ∈ L, entCF E) → goodL L
  | [], _ => trivial
  | E :: r, h => ⟨h E (.head _), good_ents fun F hF => h F (.tail _ hF)⟩
theorem good_sat {σ : List Value} {L : List Ent} {w : World} {args : List A1} {us : List Value} (hs : SatL σ L w) (hr : RelAs σ args us) : good L args := by
  refine ⟨good_ents fun E hE => ?_, good_args (argsCF_of hr)⟩
  obtain ⟨i, hi⟩ := List.getElem?_of_mem hE
  obtain ⟨v, hv⟩ := hs.some_val hi
  exact entCF_of (hs.ok i E v hi hv)

theorem spec_of_code (hty : TyOK P ty) (hmix : P.follows .mixedOrders = true) {f : FuncId} {fn : Func} {c : Code} {L : List Ent} {args : List A1} {L' : List Ent} {ret : AV} (hf : P.funcs[f]? = some fn) (hb : fn.body = some c)
    (hname : (fn.name == "runtime.NumGoroutine") = false) (hnt : Nat.ble args.length fn.ntmps = true) (hk : KeepsS L L')
    (h : good L args → vCode P ty fn.ntmps L.length c ⟨argEnv 0 args, L⟩ (vRet ty L.length fn.results.toList L' ret) (fun _ _ => False) (vRet ty L.length fn.results.toList L' ret)) : Spec P f L args L' ret := by
  refine ⟨keeps_of hk, fun w σ us hs hr => .inl ⟨?_, ?_⟩⟩
  · simp only [callFunc, Sem.run_bind, run_program, Result.andThen_ok, hf, hname, hb, Bool.false_eq_true, if_false, Option.isNone_some]
    rfl
  · refine calls_of_wp hf hb ?_
    have hlen := hr.len
    have hnt := Nat.le_of_ble_eq_true hnt
    have hA : At w σ L fn.ntmps ⟨argEnv 0 args, L⟩ σ { tmps := us.toArray ++ Array.replicate (fn.ntmps - us.toArray.size) undef, defers := [] } w := by
      refine ⟨hs, Fr.refl _ _ _, fun t => ?_, rfl, by simp; omega⟩
      have := argEnv_ok (i := 0) hr t
      simp only [Nat.zero_le, if_true, Nat.sub_zero] at this
      have e : (us.toArray ++ Array.replicate (fn.ntmps - us.toArray.size) undef).getD t undef = us.getD t undef := by
        rw [Array.getD_eq_getD_getElem?, List.getD_eq_getElem?_getD, Array.getElem?_append]
        split
        · simp
        · rename_i hge
          simp at hge
          rw [List.getElem?_eq_none hge, Array.getElem?_replicate]
          split <;> rfl
      rw [e]; exact this
    have h := h (good_sat hs hr)
    rw [← hs.len] at h
    refine vCode_sound hty hmix c (N := vRet ty σ.length fn.results.toList L' ret) (X := fun _ _ => False) (R := vRet ty σ.length fn.results.toList L' ret) ?_ ?_ ?_ h hA
    · intro s' σ' a' w' h' hA'
      obtain ⟨p1, v, p2, p3⟩ := vRet_sound hty h' hA'
      exact ⟨p1, v, p2, v, rfl, p3⟩
    · intro id s' σ' a' w' h' _; exact h'.elim
    · intro s' σ' a' w' h' hA'
      obtain ⟨p1, v, p2, p3⟩ := vRet_sound hty h' hA'
      exact ⟨p1, v, p2, v, rfl, p3⟩

end
end
end Go.AX
