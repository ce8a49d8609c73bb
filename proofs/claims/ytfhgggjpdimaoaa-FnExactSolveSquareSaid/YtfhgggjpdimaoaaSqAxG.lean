/- A symbolic walk over the code of one function, and that it tells no more than the model does: no condition. -/
import Derived.Test.YtfhgggjpdimaoaaSqAxF
set_option linter.unusedVariables false
set_option linter.unusedSimpArgs false
namespace Go.AX
noncomputable section
open Go.RowKit

/-! ## Contracts -/

def AC.ren (g : Nat → Nat) : AC → AC
  | .sl k => .sl (g k)
  | .pe k sz i j => .pe (g k) sz i j
  | .pv k j => .pv (g k) j
  | .sv k n => .sv (g k) n
  | .sw k n c => .sw (g k) n c
  | .fn f fs cs => .fn f (fs.map g) (cs.map g)
  | c => c
def A1.ren (g : Nat → Nat) : A1 → A1
  | .one c => .one (c.ren g)
  | .agg cs => .agg (cs.map (AC.ren g))
def AV.ren (g : Nat → Nat) : AV → AV
  | .v x => .v (x.ren g)
  | .tup xs => .tup (xs.map (A1.ren g))
def Ent.ren (g : Nat → Nat) : Ent → Ent
  | .var T cs => .var T (cs.map (AC.ren g))
  | E => E

def pos : List Nat → Nat → Nat → Option Nat
  | [], _, _ => none
  | p :: r, k, i => bif Nat.beq p k then some i else pos r k (i + 1)
def posAll (π : List Nat) : List Nat → Option (List Nat)
  | [] => some []
  | k :: ks => match pos π k 0, posAll π ks with
    | some i, some is => some (i :: is)
    | _, _ => none

def AC.res (π : List Nat) : AC → AC
  | .sl k => match pos π k 0 with
    | some i => .sl i
    | none => .any
  | .pe k sz i j => match pos π k 0 with
    | some q => .pe q sz i j
    | none => .any
  | .pv k j => match pos π k 0 with
    | some i => .pv i j
    | none => .any
  | .sv k n => match pos π k 0 with
    | some i => .sv i n
    | none => .any
  | .sw k n c => match pos π k 0 with
    | some i => .sw i n c
    | none => .any
  | .fn f fs cs => match posAll π fs, posAll π cs with
    | some is, some js => .fn f is js
    | _, _ => .any
  | c => c
def A1.res (π : List Nat) : A1 → A1
  | .one c => .one (c.res π)
  | .agg cs => .agg (cs.map (AC.res π))
def Ent.res (π : List Nat) : Ent → Ent
  | .var T cs => .var T (cs.map (AC.res π))
  | E => E

/-- What came in only to be read is still told as it was. -/
def Keeps : List Ent → List Ent → Prop
  | [], L => L.all (fun E => match E with | .arr false _ _ => false | _ => true) = true
  | .arr false T D :: r, E :: r' => E = .arr false T D ∧ Keeps r r'
  | _ :: r, _ :: r' => Keeps r r'
  | _ :: _, [] => False

/-- How a call of a function comes to its end. -/
def CallR (P : Program) (f : FuncId) (us : List Value) (w : World) (R : Value → World → Prop) : Prop :=
  ((callFunc f us.toArray).run P w = .ok (.enter f us.toArray) w ∧ Calls P f us.toArray w (fun e w' => ∃ v, e = .returned v ∧ R v w')) ∨
  ∃ v w', (callFunc f us.toArray).run P w = .ok (.value v) w' ∧ R v w'

/-- The contract of a function: over these entries, given these arguments: these entries, this result. -/
def Spec (P : Program) (f : FuncId) (L : List Ent) (args : List A1) (L' : List Ent) (ret : AV) : Prop :=
  Keeps L L' ∧ ∀ w σ us, SatL σ L w → RelAs σ args us → CallR P f us w fun v w' => ∃ σ', SatL σ' L' w' ∧ RelV σ' ret v ∧ Fr w σ L w' σ' L'

def okPi : List Nat → List Ent → Bool
  | [], _ => true
  | p :: r, L => (match L[p]? with
    | some .dead => false
    | none => false
    | _ => true) && !(r.contains p) && okPi r L

def gmap (π : List Nat) (n : Nat) (i : Nat) : Nat := match π[i]? with
  | some p => p
  | none => n + (i - π.length)

def subL (π : List Nat) (L : List Ent) : List Ent := π.map fun p => (match L[p]? with
  | some E => E.res π
  | none => .dead)
def subσ (π : List Nat) (σ : List Value) : List Value := π.map fun p => (match σ[p]? with
  | some v => v
  | none => undef)
def merge (g : Nat → Nat) : List Nat → List Ent → List Ent → List Ent
  | [], L, rest => L ++ rest.map (Ent.ren g)
  | p :: π, L, E :: rest => merge g π (L.set p (E.ren g)) rest
  | _ :: _, L, [] => L

/-- A call of a function by its contract. -/
def vCall (P : Program) (f : FuncId) (args : List A1) (s : St) (dst : Option Nat) (K : St → Prop) : Prop :=
  ∃ (π : List Nat) (L' : List Ent) (ret : AV), Spec P f (subL π s.L) (args.map (A1.res π)) L' ret ∧ okPi π s.L = true ∧
    K { env := envPut s.env dst (ret.ren (gmap π s.L.length)), L := merge (gmap π s.L.length) π s.L L' }

section
variable {P : Program} {ty : TyT}

theorem pos_get : ∀ (π : List Nat) (k i0 i : Nat), pos π k i0 = some i → i0 ≤ i ∧ π[i - i0]? = some k
  | [], _, _, _, h => by simp [pos] at h
  | p :: r, k, i0, i, h => by
    simp only [pos] at h
    cases hb : Nat.beq p k
    · simp only [hb, cond_false] at h
      obtain ⟨h1, h2⟩ := pos_get r k (i0 + 1) i h
      refine ⟨by omega, ?_⟩
      rw [show i - i0 = (i - (i0 + 1)) + 1 by omega]
      simpa using h2
    · simp only [hb, cond_true] at h
      cases h
      refine ⟨Nat.le_refl _, ?_⟩
      simp [Nat.eq_of_beq_eq_true hb]
theorem pos_get0 {π : List Nat} {k i : Nat} (h : pos π k 0 = some i) : π[i]? = some k := (pos_get π k 0 i h).2

theorem subσ_get {π : List Nat} {σ : List Value} {i k : Nat} {v : Value} (h : π[i]? = some k) (hv : σ[k]? = some v) : (subσ π σ)[i]? = some v := by
  simp [subσ, List.getElem?_map, h, hv]

theorem res_relPs {π : List Nat} {σ : List Value} : ∀ {ks is us}, posAll π ks = some is → RelPs σ ks us → RelPs (subσ π σ) is us
  | [], is, us, h, hr => by
    simp [posAll] at h; subst h
    cases us; exact trivial; exact hr.elim
  | k :: ks, is, us, h, hr => by
    simp only [posAll] at h
    split at h
    · rename_i i is' hi his
      cases h
      cases us with
      | nil => exact hr.elim
      | cons u us =>
        obtain ⟨⟨g, h1, h2⟩, h3⟩ := hr
        exact ⟨⟨g, subσ_get (pos_get0 hi) h1, h2⟩, res_relPs his h3⟩
    · cases h

theorem res_relC {π : List Nat} {σ : List Value} {c : AC} {u : Value} (h : RelC σ c u) : RelC (subσ π σ) (c.res π) u := by
  cases c with
  | sl k =>
    simp only [AC.res]; split
    · rename_i i hi; exact ⟨subσ_get (pos_get0 hi) h.1, h.2⟩
    · exact trivial
  | pe k sz i j =>
    simp only [AC.res]; split
    · rename_i q hq; obtain ⟨ad, n, c, h1, h2⟩ := h; exact ⟨ad, n, c, subσ_get (pos_get0 hq) h1, h2⟩
    · exact trivial
  | pv k j =>
    simp only [AC.res]; split
    · rename_i i hi; obtain ⟨g, h1, h2⟩ := h; exact ⟨g, subσ_get (pos_get0 hi) h1, h2⟩
    · exact trivial
  | sv k n =>
    simp only [AC.res]; split
    · rename_i i hi; obtain ⟨g, h1, h2⟩ := h; exact ⟨g, subσ_get (pos_get0 hi) h1, h2⟩
    · exact trivial
  | sw k n c =>
    simp only [AC.res]; split
    · rename_i i hi; obtain ⟨g, h1, h2⟩ := h; exact ⟨g, subσ_get (pos_get0 hi) h1, h2⟩
    · exact trivial
  | fn f fs cs =>
    simp only [AC.res]; split
    · rename_i is js hi hj; obtain ⟨us, vs, h1, h2, h3⟩ := h; exact ⟨us, vs, h1, res_relPs hi h2, res_relPs hj h3⟩
    · exact trivial
  | any => exact h
  | ex v => exact h
  | fl k x => exact h
  | cx k x y => exact h
  | bt x => exact h
  | e0 => exact h

theorem res_relCs {π : List Nat} {σ : List Value} : ∀ {cs : List AC} {us : List Value}, RelCs σ cs us → RelCs (subσ π σ) (cs.map (AC.res π)) us
  | [], [], _ => trivial
  | _ :: _, _ :: _, ⟨h1, h2⟩ => ⟨res_relC h1, res_relCs h2⟩
  | [], _ :: _, h => h.elim
  | _ :: _, [], h => h.elim
theorem res_relA {π : List Nat} {σ : List Value} {x : A1} {u : Value} (h : RelA σ x u) : RelA (subσ π σ) (x.res π) u := by
  cases x with
  | one c => exact res_relC h
  | agg cs => obtain ⟨us, h1, h2⟩ := h; exact ⟨us, h1, res_relCs h2⟩
theorem res_relAs {π : List Nat} {σ : List Value} : ∀ {cs : List A1} {us : List Value}, RelAs σ cs us → RelAs (subσ π σ) (cs.map (A1.res π)) us
  | [], [], _ => trivial
  | _ :: _, _ :: _, ⟨h1, h2⟩ => ⟨res_relA h1, res_relAs h2⟩
  | [], _ :: _, h => h.elim
  | _ :: _, [], h => h.elim
theorem res_ent {π : List Nat} {σ : List Value} {E : Ent} {w : World} {v : Value} (h : EntOK σ w E v) : EntOK (subσ π σ) w (E.res π) v := by
  cases E with
  | dead => trivial
  | var T cs => obtain ⟨g, us, h1, h2, h3⟩ := h; exact ⟨g, us, h1, h2, res_relCs h3⟩
  | arr own T D => cases own <;> exact h
theorem res_ownB (π : List Nat) (E : Ent) (v : Value) : ownB (E.res π) v = ownB E v ∧ blkB (E.res π) v = blkB E v := by
  cases E with
  | dead => exact ⟨rfl, rfl⟩
  | var T cs => exact ⟨rfl, rfl⟩
  | arr own T D => exact ⟨rfl, rfl⟩

/-- σ' tells under other numbers what σ tells. -/
def Ren (g : Nat → Nat) (σ σ' : List Value) : Prop := ∀ (i : Nat) (v : Value), σ[i]? = some v → σ'[g i]? = some v

theorem ren_relPs {g : Nat → Nat} {σ σ' : List Value} (hg : Ren g σ σ') : ∀ {ks us}, RelPs σ ks us → RelPs σ' (ks.map g) us
  | [], [], _ => trivial
  | k :: ks, u :: us, ⟨⟨b, h1, h2⟩, h3⟩ => ⟨⟨b, hg _ _ h1, h2⟩, ren_relPs hg h3⟩
  | [], _ :: _, h => h.elim
  | _ :: _, [], h => h.elim
theorem ren_relC {g : Nat → Nat} {σ σ' : List Value} (hg : Ren g σ σ') {c : AC} {u : Value} (h : RelC σ c u) : RelC σ' (c.ren g) u := by
  cases c with
  | sl k => exact ⟨hg _ _ h.1, h.2⟩
  | pe k sz i j => obtain ⟨ad, n, c, h1, h2⟩ := h; exact ⟨ad, n, c, hg _ _ h1, h2⟩
  | pv k j => obtain ⟨b, h1, h2⟩ := h; exact ⟨b, hg _ _ h1, h2⟩
  | sv k n => obtain ⟨b, h1, h2⟩ := h; exact ⟨b, hg _ _ h1, h2⟩
  | sw k n c => obtain ⟨b, h1, h2⟩ := h; exact ⟨b, hg _ _ h1, h2⟩
  | fn f fs cs => obtain ⟨us, vs, h1, h2, h3⟩ := h; exact ⟨us, vs, h1, ren_relPs hg h2, ren_relPs hg h3⟩
  | any => exact h
  | ex v => exact h
  | fl k x => exact h
  | cx k x y => exact h
  | bt x => exact h
  | e0 => exact h
theorem ren_relCs {g : Nat → Nat} {σ σ' : List Value} (hg : Ren g σ σ') : ∀ {cs : List AC} {us : List Value}, RelCs σ cs us → RelCs σ' (cs.map (AC.ren g)) us
  | [], [], _ => trivial
  | _ :: _, _ :: _, ⟨h1, h2⟩ => ⟨ren_relC hg h1, ren_relCs hg h2⟩
  | [], _ :: _, h => h.elim
  | _ :: _, [], h => h.elim
theorem ren_relA {g : Nat → Nat} {σ σ' : List Value} (hg : Ren g σ σ') {x : A1} {u : Value} (h : RelA σ x u) : RelA σ' (x.ren g) u := by
  cases x with
  | one c => exact ren_relC hg h
  | agg cs => obtain ⟨us, h1, h2⟩ := h; exact ⟨us, h1, ren_relCs hg h2⟩
theorem ren_relAs {g : Nat → Nat} {σ σ' : List Value} (hg : Ren g σ σ') : ∀ {cs : List A1} {us : List Value}, RelAs σ cs us → RelAs σ' (cs.map (A1.ren g)) us
  | [], [], _ => trivial
  | _ :: _, _ :: _, ⟨h1, h2⟩ => ⟨ren_relA hg h1, ren_relAs hg h2⟩
  | [], _ :: _, h => h.elim
  | _ :: _, [], h => h.elim
theorem ren_relV {g : Nat → Nat} {σ σ' : List Value} (hg : Ren g σ σ') {x : AV} {u : Value} (h : RelV σ x u) : RelV σ' (x.ren g) u := by
  cases x with
  | v x => exact ren_relA hg h
  | tup xs => obtain ⟨us, h1, h2⟩ := h; exact ⟨us, h1, ren_relAs hg h2⟩
theorem ren_ent {g : Nat → Nat} {σ σ' : List Value} (hg : Ren g σ σ') {E : Ent} {w : World} {v : Value} (h : EntOK σ w E v) : EntOK σ' w (E.ren g) v := by
  cases E with
  | dead => trivial
  | var T cs => obtain ⟨b, us, h1, h2, h3⟩ := h; exact ⟨b, us, h1, h2, ren_relCs hg h3⟩
  | arr own T D => cases own <;> exact h
theorem ren_ownB (g : Nat → Nat) (E : Ent) (v : Value) : ownB (E.ren g) v = ownB E v ∧ blkB (E.ren g) v = blkB E v := by
  cases E with
  | dead => exact ⟨rfl, rfl⟩
  | var T cs => exact ⟨rfl, rfl⟩
  | arr own T D => exact ⟨rfl, rfl⟩

theorem okPi_spec : ∀ {π : List Nat} {L : List Ent}, okPi π L = true → (∀ (i p : Nat), π[i]? = some p → ∃ E, L[p]? = some E ∧ E ≠ .dead) ∧ (∀ (i j p : Nat), π[i]? = some p → π[j]? = some p → i = j)
  | [], L, _ => ⟨fun i p h => by simp at h, fun i j p h => by simp at h⟩
  | q :: r, L, h => by
    simp only [okPi, Bool.and_eq_true] at h
    obtain ⟨⟨h1, h2⟩, h3⟩ := h
    obtain ⟨i1, i2⟩ := okPi_spec h3
    have hq : ∃ E, L[q]? = some E ∧ E ≠ .dead := by
      split at h1
      · cases h1
      · cases h1
      · rename_i hd hn
        cases hE : L[q]? with
        | none => exact absurd hE hn
        | some E => exact ⟨E, rfl, fun e => by subst e; exact hd hE⟩
    have hnc : ∀ (j : Nat), r[j]? ≠ some q := fun j hj => by
      have : q ∈ r := List.mem_of_getElem? hj
      simp [this] at h2
    refine ⟨fun i p hi => ?_, fun i j p hi hj => ?_⟩
    · cases i with
      | zero => simp at hi; subst hi; exact hq
      | succ i => exact i1 i p (by simpa using hi)
    · cases i with
      | zero =>
        cases j with
        | zero => rfl
        | succ j => simp at hi; subst hi; exact absurd (by simpa using hj) (hnc j)
      | succ i =>
        cases j with
        | zero => simp at hj; subst hj; exact absurd (by simpa using hi) (hnc i)
        | succ j => rw [i2 i j p (by simpa using hi) (by simpa using hj)]

theorem sub_sat {π : List Nat} {σ : List Value} {L : List Ent} {w : World} (hs : SatL σ L w) (hok : okPi π L = true) : SatL (subσ π σ) (subL π L) w := by
  obtain ⟨h1, h2⟩ := okPi_spec hok
  have gL : ∀ {i : Nat} {E : Ent}, (subL π L)[i]? = some E → ∃ p E0, π[i]? = some p ∧ L[p]? = some E0 ∧ E = E0.res π := by
    intro i E hi
    simp only [subL, List.getElem?_map] at hi
    cases hp : π[i]? with
    | none => simp [hp] at hi
    | some p =>
      obtain ⟨E0, hE0, _⟩ := h1 i p hp
      simp [hp, hE0] at hi
      exact ⟨p, E0, rfl, hE0, hi.symm⟩
  have gσ : ∀ {i p : Nat} {v : Value}, π[i]? = some p → (subσ π σ)[i]? = some v → σ[p]? = some v := by
    intro i p v hp hi
    obtain ⟨E0, hE0, _⟩ := h1 i p hp
    obtain ⟨v0, hv0⟩ := hs.some_val hE0
    rw [subσ_get hp hv0] at hi
    rw [hv0]; exact hi
  refine ⟨by simp [subσ, subL], fun i E v hi hv => ?_, fun i j Ei Ej vi vj b hij hi hvi hj hvj ho => ?_⟩
  · obtain ⟨p, E0, hp, hE0, rfl⟩ := gL hi
    exact res_ent (hs.ok p E0 v hE0 (gσ hp hv))
  · obtain ⟨p, E0, hp, hE0, rfl⟩ := gL hi
    obtain ⟨q, F0, hq, hF0, rfl⟩ := gL hj
    rw [(res_ownB π E0 vi).1] at ho
    rw [(res_ownB π F0 vj).2]
    refine hs.sep p q E0 F0 vi vj b (fun e => ?_) hE0 (gσ hp hvi) hF0 (gσ hq hvj) ho
    subst e
    exact hij (h2 i j p hp hq)

theorem keeps_spec : ∀ {L L' : List Ent}, Keeps L L' → L.length ≤ L'.length ∧ (∀ (i : Nat) T D, L[i]? = some (.arr false T D) → L'[i]? = some (.arr false T D)) ∧ (∀ (i : Nat) T D, L.length ≤ i → L'[i]? ≠ some (.arr false T D))
  | [], L', h => ⟨Nat.zero_le _, fun i T D hi => by simp at hi, fun i T D _ hi => by
      have := List.all_eq_true.1 h _ (List.mem_of_getElem? hi)
      simp at this⟩
  | E0 :: r, [], h => by cases E0 with
    | dead => exact h.elim
    | var T cs => exact h.elim
    | arr own T D => cases own <;> exact h.elim
  | E0 :: r, E :: r', h => by
    have hh : Keeps r r' ∧ (∀ T D, E0 = .arr false T D → E = .arr false T D) := by
      cases E0 with
      | dead => exact ⟨h, fun _ _ e => by cases e⟩
      | var T cs => exact ⟨h, fun _ _ e => by cases e⟩
      | arr own T D =>
        cases own with
        | true => exact ⟨h, fun _ _ e => by cases e⟩
        | false => exact ⟨h.2, fun _ _ e => by cases e; exact h.1⟩
    obtain ⟨i1, i2, i3⟩ := keeps_spec hh.1
    refine ⟨by simp; exact i1, fun i T D hi => ?_, fun i T D hl hi => ?_⟩
    · cases i with
      | zero => simp at hi ⊢; exact hh.2 T D hi
      | succ i => simp at hi ⊢; exact i2 i T D hi
    · cases i with
      | zero => simp at hl
      | succ i => simp at hl hi; exact i3 i T D hl hi

/-- Where an entry of the merged list comes from. -/
theorem merge_get (g : Nat → Nat) : ∀ {π : List Nat} {L Lc : List Ent}, (∀ (i p : Nat), π[i]? = some p → p < L.length) → (∀ (i j p : Nat), π[i]? = some p → π[j]? = some p → i = j) → π.length ≤ Lc.length →
    (merge g π L Lc).length = L.length + (Lc.length - π.length) ∧
    (∀ (q : Nat), q < L.length → (∀ i : Nat, π[i]? ≠ some q) → (merge g π L Lc)[q]? = L[q]?) ∧
    (∀ (i p : Nat) E, π[i]? = some p → Lc[i]? = some E → (merge g π L Lc)[p]? = some (E.ren g)) ∧
    (∀ (i : Nat), (merge g π L Lc)[L.length + i]? = (Lc[π.length + i]?).map (Ent.ren g))
  | [], L, Lc, _, _, _ => by
    refine ⟨by simp [merge], fun q hq _ => by simp [merge, List.getElem?_append_left hq], fun i p E hi => by simp at hi, fun i => ?_⟩
    simp [merge, List.getElem?_append_right]
  | p :: π, L, [], _, _, hl => by simp at hl
  | p :: π, L, E :: rest, hlt, hnd, hl => by
    have hp := hlt 0 p rfl
    obtain ⟨m1, m2, m3, m4⟩ := merge_get g (π := π) (L := L.set p (E.ren g)) (Lc := rest) (fun i q hi => by rw [List.length_set]; exact hlt (i + 1) q (by simpa using hi)) (fun i j q hi hj => by
      have := hnd (i + 1) (j + 1) q (by simpa using hi) (by simpa using hj); omega) (by simpa using hl)
    have hpn : ∀ i : Nat, π[i]? ≠ some p := fun i hi => by
      have := hnd 0 (i + 1) p rfl (by simpa using hi); omega
    simp only [List.length_set] at m1 m2 m4
    simp only [merge, List.length_cons]
    refine ⟨by rw [m1]; omega, fun q hq hn => ?_, fun i q F hi hF => ?_, fun i => ?_⟩
    · rw [m2 q hq (fun i => by have := hn (i + 1); simpa using this), List.getElem?_set_ne]
      intro e; subst e; exact hn 0 rfl
    · cases i with
      | zero =>
        simp at hi hF; subst hi; subst hF
        rw [m2 p hp hpn]; simp [hp]
      | succ i => simp at hi hF; exact m3 i q F hi hF
    · rw [m4]
      congr 1
      rw [show π.length + 1 + i = (π.length + i) + 1 by omega]
      simp

theorem merge_sat {π : List Nat} {σ σc' : List Value} {L Lc' : List Ent} {w w' : World} (hs : SatL σ L w) (hok : okPi π L = true) (hk : Keeps (subL π L) Lc') (hc : SatL σc' Lc' w') (hfr : Fr w (subσ π σ) (subL π L) w' σc' Lc') :
    SatL (σ ++ σc'.drop π.length) (merge (gmap π L.length) π L Lc') w' ∧ Fr w σ L w' (σ ++ σc'.drop π.length) (merge (gmap π L.length) π L Lc') ∧ Ren (gmap π L.length) σc' (σ ++ σc'.drop π.length) := by
  obtain ⟨h1, h2⟩ := okPi_spec hok
  obtain ⟨k1, k2, k3⟩ := keeps_spec hk
  have hsl : (subL π L).length = π.length := by simp [subL]
  rw [hsl] at k1 k3
  obtain ⟨m1, m2, m3, m4⟩ := merge_get (gmap π L.length) (π := π) (L := L) (Lc := Lc') (fun i p hp => (List.getElem?_eq_some_iff.1 (h1 i p hp).choose_spec.1).1) h2 k1
  have hren : Ren (gmap π L.length) σc' (σ ++ σc'.drop π.length) := by
    intro i v hi
    cases hp : π[i]? with
    | some p =>
      simp only [gmap, hp]
      obtain ⟨E, hE, _⟩ := h1 i p hp
      obtain ⟨v0, hv0⟩ := hs.some_val hE
      have := hfr.pre i v0 (subσ_get hp hv0)
      rw [hi] at this; cases this
      exact (Pre.app σ _) _ _ hv0
    | none =>
      simp only [gmap, hp]
      have hle : π.length ≤ i := by simpa using hp
      rw [List.getElem?_append_right (by rw [hs.len]; omega), hs.len, List.getElem?_drop, ← hi]
      congr 1; omega
  -- where things come from
  have src : ∀ {q : Nat} {E : Ent} {v : Value}, (merge (gmap π L.length) π L Lc')[q]? = some E → (σ ++ σc'.drop π.length)[q]? = some v →
      (L[q]? = some E ∧ σ[q]? = some v ∧ ∀ i : Nat, π[i]? ≠ some q) ∨ ∃ i E0, Lc'[i]? = some E0 ∧ σc'[i]? = some v ∧ E = E0.ren (gmap π L.length) ∧ q = gmap π L.length i := by
    intro q E v hq hv
    by_cases hlt : q < L.length
    · by_cases hin : ∃ i : Nat, π[i]? = some q
      · obtain ⟨i, hi⟩ := hin
        right
        have hil : i < Lc'.length := Nat.lt_of_lt_of_le (List.getElem?_eq_some_iff.1 hi).1 k1
        obtain ⟨E0, hE0⟩ : ∃ E0, Lc'[i]? = some E0 := ⟨_, List.getElem?_eq_getElem hil⟩
        obtain ⟨v0, hv0⟩ := hc.some_val hE0
        rw [m3 i q E0 hi hE0] at hq
        have h3 := hren i v0 hv0
        simp only [gmap, hi] at h3
        rw [hv] at h3
        cases hq; cases h3
        exact ⟨i, E0, hE0, hv0, rfl, by simp [gmap, hi]⟩
      · left
        have hn : ∀ i : Nat, π[i]? ≠ some q := fun i hi => hin ⟨i, hi⟩
        rw [m2 q hlt hn] at hq
        rw [List.getElem?_append_left (by rw [hs.len]; exact hlt)] at hv
        exact ⟨hq, hv, hn⟩
    · obtain ⟨i, rfl⟩ : ∃ i, q = L.length + i := ⟨q - L.length, by omega⟩
      right
      rw [m4] at hq
      rw [List.getElem?_append_right (by rw [hs.len]; omega), hs.len, List.getElem?_drop, show π.length + (L.length + i - L.length) = π.length + i by omega] at hv
      cases hE0 : Lc'[π.length + i]? with
      | none => simp [hE0] at hq
      | some E0 =>
        simp [hE0] at hq
        refine ⟨π.length + i, E0, hE0, hv, hq.symm, ?_⟩
        have : π[π.length + i]? = none := by simp
        simp only [gmap, this]; omega
  have lt := fun k E v h1 h2 b hb => (hs.ok k E v h1 h2).lt (b := b) hb
  -- an own block of the callee is one of ours, or new
  have ownc : ∀ b, Own (subσ π σ) (subL π L) b → ∃ (i p : Nat) (E : Ent) (v : Value), π[i]? = some p ∧ L[p]? = some E ∧ σ[p]? = some v ∧ ownB E v = some b := by
    rintro b ⟨i, E, v, hi, hv, ho⟩
    simp only [subL, List.getElem?_map] at hi
    cases hp : π[i]? with
    | none => simp [hp] at hi
    | some p =>
      obtain ⟨E0, hE0, _⟩ := h1 i p hp
      obtain ⟨v0, hv0⟩ := hs.some_val hE0
      rw [subσ_get hp hv0] at hv
      cases hv
      simp [hp, hE0] at hi
      subst hi
      rw [(res_ownB π E0 v).1] at ho
      exact ⟨i, p, E0, v, hp, hE0, hv0, ho⟩
  refine ⟨⟨?_, fun q E v hq hv => ?_, fun q r Eq Er vq vr b hqr hq hvq hr hvr ho => ?_⟩, ⟨hfr.os, hfr.tape, hfr.output, hfr.size, fun b hb hn => ?_, ?_, Pre.app _ _⟩, hren⟩
  · rw [m1]; simp [hs.len, hc.len]
  · rcases src hq hv with ⟨a1, a2, a3⟩ | ⟨i, E0, b1, b2, rfl, b4⟩
    · refine ((hs.ok q E v a1 a2).pre (Pre.app _ _)).keep fun b hb => hfr.blk b (lt _ _ _ a1 a2 b hb) fun ho => ?_
      obtain ⟨i, p, F, u, c1, c2, c3, c4⟩ := ownc b ho
      refine hs.sep p q F E u v b (fun e => ?_) c2 c3 a1 a2 c4 hb
      subst e; exact a3 i c1
    · exact ren_ent hren (hc.ok i E0 v b1 b2)
  · rcases src hq hvq with ⟨a1, a2, a3⟩ | ⟨i, E0, b1, b2, rfl, b4⟩
    · rcases src hr hvr with ⟨c1, c2, c3⟩ | ⟨j, F0, d1, d2, rfl, d4⟩
      · exact hs.sep q r Eq Er vq vr b hqr a1 a2 c1 c2 ho
      · rw [(ren_ownB _ F0 vr).2]
        intro hb
        have hbl := lt _ _ _ a1 a2 b (blkB_of_ownB ho)
        have ownsNew : ownB F0 vr = some b → False := fun hF => by
          rcases hfr.own b ⟨j, F0, vr, d1, d2, hF⟩ with h6 | h6
          · obtain ⟨i', p, F, u, e1, e2, e3, e4⟩ := ownc b h6
            exact hs.sep p q F Eq u vq b (fun e => by subst e; exact a3 i' e1) e2 e3 a1 a2 e4 (blkB_of_ownB ho)
          · omega
        cases F0 with
        | dead => cases hb
        | var T cs => exact ownsNew hb
        | arr own T D =>
          cases own with
          | true => exact ownsNew hb
          | false =>
            have hj : j < π.length := by
              rcases Nat.lt_or_ge j π.length with h | h
              · exact h
              · exact absurd d1 (k3 j T D h)
            have hp : π[j]? = some π[j] := List.getElem?_eq_getElem hj
            obtain ⟨E1, hE1, hnd⟩ := h1 j _ hp
            obtain ⟨v1, hv1⟩ := hs.some_val hE1
            have h7 := hfr.pre j v1 (subσ_get hp hv1)
            rw [d2] at h7; cases h7
            have hsub : (subL π L)[j]? = some (E1.res π) := by simp [subL, List.getElem?_map, hj, hE1]
            have hne : π[j] ≠ q := fun e => a3 j (by rw [hp, e])
            cases E1 with
            | dead => exact hnd rfl
            | var T1 cs1 =>
              refine hs.sep q _ Eq _ vq vr b (Ne.symm hne) a1 a2 hE1 hv1 ho ?_
              simp only [blkB] at hb ⊢
              split at hb
              · cases hb
              · exact hb
            | arr own1 T1 D1 =>
              cases own1 with
              | true =>
                refine hs.sep q _ Eq _ vq vr b (Ne.symm hne) a1 a2 hE1 hv1 ho ?_
                simp only [blkB] at hb ⊢
                split at hb
                · cases hb
                · exact hb
              | false =>
                have h8 := k2 j T1 D1 hsub
                rw [d1] at h8; cases h8
                exact hs.sep q _ Eq _ vq vr b (Ne.symm hne) a1 a2 hE1 hv1 ho hb
    · rw [(ren_ownB _ E0 vq).1] at ho
      rcases src hr hvr with ⟨c1, c2, c3⟩ | ⟨j, F0, d1, d2, rfl, d4⟩
      · intro hb
        have hbl := lt _ _ _ c1 c2 b hb
        rcases hfr.own b ⟨i, E0, vq, b1, b2, ho⟩ with h6 | h6
        · obtain ⟨i', p, F, u, e1, e2, e3, e4⟩ := ownc b h6
          exact hs.sep p r F Er u vr b (fun e => by subst e; exact c3 i' e1) e2 e3 c1 c2 e4 hb
        · omega
      · rw [(ren_ownB _ F0 vr).2]
        refine hc.sep i j E0 F0 vq vr b (fun e => ?_) b1 b2 d1 d2 ho
        subst e; exact hqr (b4.trans d4.symm)
  · exact hfr.blk b hb fun ho => by
      obtain ⟨i, p, F, u, e1, e2, e3, e4⟩ := ownc b ho
      exact hn ⟨p, F, u, e2, e3, e4⟩
  · rintro b ⟨q, E, v, hq, hv, ho⟩
    rcases src hq hv with ⟨a1, a2, a3⟩ | ⟨i, E0, b1, b2, rfl, b4⟩
    · exact .inl ⟨q, E, v, a1, a2, ho⟩
    · rw [(ren_ownB _ E0 v).1] at ho
      rcases hfr.own b ⟨i, E0, v, b1, b2, ho⟩ with h6 | h6
      · obtain ⟨i', p, F, u, e1, e2, e3, e4⟩ := ownc b h6
        exact .inl ⟨p, F, u, e2, e3, e4⟩
      · exact .inr h6

end

/-! ## Terms kept small -/

def smallNats : List Nat := [0, 1, 2, 3, 4, 5, 6, 7, 8, 9, 10, 11, 12, 13, 14, 15, 16, 17, 18, 19, 20, 21, 22, 23, 24, 25, 26, 27, 28, 29, 30, 31, 32, 33, 34, 35, 36, 37, 38, 39, 40]
def natFoL (n : Nat) (K : Nat → Prop) : List Nat → Prop
  | [] => K n
  | i :: r => bif Nat.beq n i then K i else natFoL n K r
def natFo (n : Nat) (K : Nat → Prop) : Prop := natFoL n K smallNats
theorem natFoL_iff (n : Nat) (K : Nat → Prop) : ∀ l, natFoL n K l ↔ K n
  | [] => Iff.rfl
  | i :: r => by
    unfold natFoL
    cases h : Nat.beq n i
    · exact natFoL_iff n K r
    · have := Nat.eq_of_beq_eq_true h; subst this; exact Iff.rfl
theorem natFo_iff (n : Nat) (K : Nat → Prop) : natFo n K ↔ K n := natFoL_iff n K _

def natsFo : List Nat → (List Nat → Prop) → Prop
  | [], K => K []
  | n :: r, K => natFo n fun n => natsFo r fun r => K (n :: r)
theorem natsFo_iff : ∀ (l : List Nat) (K : List Nat → Prop), natsFo l K ↔ K l
  | [], K => Iff.rfl
  | n :: r, K => by simp only [natsFo, natFo_iff]; exact natsFo_iff r _

def AC.fo (c : AC) (K : AC → Prop) : Prop :=
  match c with
  | .any => K .any
  | .ex v => K (.ex v)
  | .fl k x => K (.fl k x)
  | .cx k x y => K (.cx k x y)
  | .bt x => K (.bt x)
  | .pv k j => natFo k fun k => K (.pv k j)
  | .pe k sz i j => natFo k fun k => K (.pe k sz i j)
  | .sl k => natFo k fun k => K (.sl k)
  | .sv k n => natFo k fun k => K (.sv k n)
  | .sw k n c => natFo k fun k => K (.sw k n c)
  | .e0 => K .e0
  | .fn f fs cs => natsFo fs fun fs => natsFo cs fun cs => K (.fn f fs cs)
theorem AC.fo_iff (c : AC) (K : AC → Prop) : c.fo K ↔ K c := by cases c <;> simp only [AC.fo, natFo_iff, natsFo_iff]
def csFo : List AC → (List AC → Prop) → Prop
  | [], K => K []
  | c :: r, K => c.fo fun c => csFo r fun r => K (c :: r)
theorem csFo_iff : ∀ (l : List AC) (K : List AC → Prop), csFo l K ↔ K l
  | [], K => Iff.rfl
  | c :: r, K => by simp only [csFo, AC.fo_iff]; exact csFo_iff r _
def A1.fo (x : A1) (K : A1 → Prop) : Prop :=
  match x with
  | .one c => c.fo fun c => K (.one c)
  | .agg cs => csFo cs fun cs => K (.agg cs)
theorem A1.fo_iff (x : A1) (K : A1 → Prop) : x.fo K ↔ K x := by cases x <;> simp only [A1.fo, AC.fo_iff, csFo_iff]
def asFo : List A1 → (List A1 → Prop) → Prop
  | [], K => K []
  | c :: r, K => c.fo fun c => asFo r fun r => K (c :: r)
theorem asFo_iff : ∀ (l : List A1) (K : List A1 → Prop), asFo l K ↔ K l
  | [], K => Iff.rfl
  | c :: r, K => by simp only [asFo, A1.fo_iff]; exact asFo_iff r _
def AV.fo (x : AV) (K : AV → Prop) : Prop :=
  match x with
  | .v x => x.fo fun x => K (.v x)
  | .tup xs => asFo xs fun xs => K (.tup xs)
theorem AV.fo_iff (x : AV) (K : AV → Prop) : x.fo K ↔ K x := by cases x <;> simp only [AV.fo, A1.fo_iff, asFo_iff]
def Ent.fo (E : Ent) (K : Ent → Prop) : Prop :=
  match E with
  | .dead => K .dead
  | .var T cs => csFo cs fun cs => K (.var T cs)
  | .arr own T D => match D with
    | .f xs => K (.arr own T (.f xs))
    | .c xs => K (.arr own T (.c xs))
    | .w xs => K (.arr own T (.w xs))
    | .p xs => K (.arr own T (.p xs))
theorem Ent.fo_iff (E : Ent) (K : Ent → Prop) : E.fo K ↔ K E := by
  cases E with
  | dead => exact Iff.rfl
  | var T cs => simp only [Ent.fo, csFo_iff]
  | arr own T D => cases D <;> exact Iff.rfl
def lFo : List Ent → (List Ent → Prop) → Prop
  | [], K => K []
  | c :: r, K => c.fo fun c => lFo r fun r => K (c :: r)
theorem lFo_iff : ∀ (l : List Ent) (K : List Ent → Prop), lFo l K ↔ K l
  | [], K => Iff.rfl
  | c :: r, K => by simp only [lFo, Ent.fo_iff]; exact lFo_iff r _

/-- The first of the list alone. -/
def envFo (e : List (Nat × AV)) (K : List (Nat × AV) → Prop) : Prop :=
  match e with
  | [] => K []
  | (t, α) :: r => α.fo fun α => match r with
    | [] => K [(t, α)]
    | x :: r => K ((t, α) :: x :: r)
theorem envFo_iff (e : List (Nat × AV)) (K : List (Nat × AV) → Prop) : envFo e K ↔ K e := by
  cases e with
  | nil => exact Iff.rfl
  | cons x r =>
    obtain ⟨t, α⟩ := x
    simp only [envFo, AV.fo_iff]
    cases r <;> exact Iff.rfl
def headFo (L : List Ent) (K : List Ent → Prop) : Prop :=
  match L with
  | [] => K []
  | E :: r => K (E :: r)
theorem headFo_iff (L : List Ent) (K : List Ent → Prop) : headFo L K ↔ K L := by cases L <;> exact Iff.rfl

def norm (chg : Bool) (s : St) (K : St → Prop) : Prop :=
  match s with
  | ⟨e, L⟩ => envFo e fun e => bif chg then lFo L fun L => K ⟨e, L⟩ else headFo L fun L => K ⟨e, L⟩
theorem norm_iff (chg : Bool) (s : St) (K : St → Prop) : norm chg s K ↔ K s := by
  obtain ⟨e, L⟩ := s
  cases chg <;> simp only [norm, envFo_iff, lFo_iff, headFo_iff, cond_true, cond_false]

/-! ## What a call is given -/

def AC.refs : AC → List Nat
  | .pv k _ => [k]
  | .pe k _ _ _ => [k]
  | .sl k => [k]
  | .sv k _ => [k]
  | .sw k _ _ => [k]
  | .fn _ fs cs => fs ++ cs
  | _ => []
def A1.refs : A1 → List Nat
  | .one c => c.refs
  | .agg cs => cs.flatMap AC.refs
def AV.refs : AV → List Nat
  | .v x => x.refs
  | .tup xs => xs.flatMap A1.refs
def Ent.refs : Ent → List Nat
  | .var _ cs => cs.flatMap AC.refs
  | _ => []
def mem (n : Nat) : List Nat → Bool
  | [] => false
  | i :: r => Nat.beq n i || mem n r
/-- All that can be come at, in the order in which it is met. -/
def clo (L : List Ent) : Nat → List Nat → List Nat → List Nat
  | 0, seen, _ => seen
  | _, seen, [] => seen
  | f + 1, seen, k :: r => bif mem k seen then clo L f seen r else
    match L[k]? with
    | some E => clo L f (seen ++ [k]) (r ++ E.refs)
    | none => clo L f seen r

def vCallA (P : Program) (f : FuncId) (args : List A1) (s : St) (dst : Option Nat) (K : St → Prop) : Prop :=
  natsFo (clo s.L 60 [] (args.flatMap A1.refs)) fun π => lFo (subL π s.L) fun Lc => asFo (args.map (A1.res π)) fun as =>
    okPi π s.L = true ∧ ∃ (L' : List Ent) (ret : AV), Spec P f Lc as L' ret ∧
      K { env := envPut s.env dst (ret.ren (gmap π s.L.length)), L := merge (gmap π s.L.length) π s.L L' }
theorem vCall_of_A {P : Program} {f : FuncId} {args : List A1} {s : St} {dst : Option Nat} {K : St → Prop} (h : vCallA P f args s dst K) : vCall P f args s dst K := by
  unfold vCallA at h
  simp only [natsFo_iff, lFo_iff, asFo_iff] at h
  obtain ⟨h1, L', ret, h2, h3⟩ := h
  exact ⟨_, L', ret, h2, h1, h3⟩

end
end Go.AX
