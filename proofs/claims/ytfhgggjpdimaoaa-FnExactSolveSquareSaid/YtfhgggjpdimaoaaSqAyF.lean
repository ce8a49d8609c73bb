/- A symbolic walk over the code of one function, and that it tells no more than the model does: no condition. -/
import Derived.Test.YtfhgggjpdimaoaaSqAyE
set_option linter.unusedVariables false
set_option linter.unusedSimpArgs false
namespace Go.AX
noncomputable section
open Go.RowKit

/-! ## A new array in the place of an old one, beside the rows of a matrix -/

theorem lend_back2 {σ σ' : List Value} {N x : Nat} {us us0 : List Value} (h0 : RelCs σ (lnk N x) us0) (hp : ∀ (j : Nat) v, j < N → σ[j + 5]? = some v → σ'[j + 5]? = some v) (h : RelCs σ' (lend σ [] N x) us) : RelCs σ' (lnk N x) us := by
  refine RelCs_of (by rw [lnk_len, ← lend_len σ [] N x, h.len]) fun j c u hc hu => ?_
  by_cases hj : j < N
  · rw [lnk_lt hj] at hc
    cases hc
    have h1 := h.at (lend_lt hj) hu
    rw [if_neg (by simp)] at h1
    have e : u = σ.getD (j + 5) undef := h1
    obtain ⟨u0, h2, h3⟩ := h0.get (lnk_lt hj)
    have h4 : σ[j + 5]? = some u0 := h3.1
    rw [List.getD_eq_getElem?_getD, h4] at e
    have e : u = u0 := e
    subst e
    exact ⟨hp j _ hj h4, h3.2⟩
  · rw [lnk_ge (Nat.le_of_not_lt hj) hc]; trivial

def perm3 (N : Nat) : List Nat := 0 :: 1 :: 2 :: (N + 5) :: 4 :: (List.range N).map (fun j => j + 5)
theorem imp_pick3 {n m0 : Nat} {env env' : List (Nat × AV)} {l0 l1 l2 l3 m : List Nat} {M : List (List Nat)} {x : Nat} (hm0 : m0 ≤ 3) (he : LeEnv (perm3 M.length) env env') :
    Imp n m0 ⟨env, full l0 l1 l2 l3 M x ++ [rowE m]⟩ ⟨env', full l0 l1 l2 m M x⟩ := by
  intro w0 σ0 L0 hl σ a w hA
  have hV : (full l0 l1 l2 l3 M x ++ [rowE m])[4]? = some (.var 35 (lnk M.length x)) := rfl
  obtain ⟨vV, hσ4⟩ := hA.sat.some_val hV
  obtain ⟨g, us0, _, _, hrel0⟩ := hA.sat.ok _ _ _ hV hσ4
  have hA1 : At w0 σ0 L0 n ⟨env, fullV l0 l1 l2 l3 M (lend σ [] M.length x) ++ [rowE m]⟩ σ a w := hA.retell hV fun us hr => lend_rel hr
  have hfl : (fullV l0 l1 l2 l3 M (lend σ [] M.length x) ++ [rowE m]).length = M.length + 6 := by simp
  have hsl := hA1.sat.len
  rw [hfl] at hsl
  have hrow : ∀ j, j < M.length → (fullV l0 l1 l2 l3 M (lend σ [] M.length x) ++ [rowE m])[j + 5]? = some (rowE (M.getD j [])) := fun j hj => get_app (row_at hj)
  have hlast : (fullV l0 l1 l2 l3 M (lend σ [] M.length x) ++ [rowE m])[M.length + 5]? = some (rowE m) := by
    rw [List.getElem?_append_right (by simp)]; simp
  have hok3 : okPi0 (perm3 M.length) (fullV l0 l1 l2 l3 M (lend σ [] M.length x) ++ [rowE m]) = true := by
    refine okPi0_of (fun p hp => ?_) ?_
    · rw [hfl]
      simp only [perm3, List.mem_cons, List.mem_map, List.mem_range] at hp
      rcases hp with rfl | rfl | rfl | rfl | rfl | ⟨j, hj, rfl⟩ <;> omega
    · simp only [perm3, List.nodup_cons, List.mem_cons, List.mem_map, List.mem_range, not_or]
      refine ⟨⟨by omega, by omega, by omega, by omega, ?_⟩, ⟨by omega, by omega, by omega, ?_⟩, ⟨by omega, by omega, ?_⟩, ⟨by omega, ?_⟩, ?_, ?_⟩
      · rintro ⟨j, hj, h⟩; omega
      · rintro ⟨j, hj, h⟩; omega
      · rintro ⟨j, hj, h⟩; omega
      · rintro ⟨j, hj, h⟩; omega
      · rintro ⟨j, hj, h⟩; omega
      · exact nodup_map (fun a b hab => by have hab : a + 5 = b + 5 := hab; omega) List.nodup_range
  obtain ⟨q1, q2⟩ := sel_sat hA1.sat hok3
  have hL3 : subL (perm3 M.length) (fullV l0 l1 l2 l3 M (lend σ [] M.length x) ++ [rowE m]) = fullV l0 l1 l2 m M (lend σ [] M.length x) := by
    have e4 : (lend σ [] M.length x).map (AC.res (perm3 M.length)) = lend σ [] M.length x := by
      unfold lend; simp [AC.res]
    have e3 : (match (fullV l0 l1 l2 l3 M (lend σ [] M.length x) ++ [rowE m])[M.length + 5]? with
      | some E => E.res (perm3 M.length)
      | none => .dead) = rowE m := by rw [hlast]; rfl
    show rowE l0 :: rowE l1 :: rowE l2 :: (match (fullV l0 l1 l2 l3 M (lend σ [] M.length x) ++ [rowE m])[M.length + 5]? with
      | some E => E.res (perm3 M.length)
      | none => .dead) :: .var 35 ((lend σ [] M.length x).map (AC.res (perm3 M.length))) :: (((List.range M.length).map (fun j => j + 5)).map fun p => (match (fullV l0 l1 l2 l3 M (lend σ [] M.length x) ++ [rowE m])[p]? with
      | some E => E.res (perm3 M.length)
      | none => .dead)) = _
    rw [e4, e3]
    congr 5
    apply List.ext_getElem?
    intro j
    by_cases hj : j < M.length
    · rw [List.getElem?_map, List.getElem?_map, List.getElem?_range hj, Option.map_some, Option.map_some, hrow j hj, row_at hj]
      rfl
    · rw [List.getElem?_eq_none (by simpa using hj), List.getElem?_eq_none (by simpa using hj)]
  rw [hL3] at q1
  have hk0 : keeps0 σ0.length 0 (perm3 M.length) = true := by
    rw [hl]
    match m0, hm0 with
    | 0, _ => rfl
    | 1, _ => rfl
    | 2, _ => rfl
    | 3, _ => rfl
    | m + 4, h => omega
  have hpre : Pre σ0 (subσ (perm3 M.length) σ) := pre_sel hA1.sat hk0 hA1.fr.pre
  have hf3 := hA1.fr
  have hA4 : At w0 σ0 L0 n ⟨env', fullV l0 l1 l2 m M (lend σ [] M.length x)⟩ (subσ (perm3 M.length) σ) a w :=
    ⟨q1, ⟨hf3.os, hf3.tape, hf3.output, hf3.size, hf3.blk, fun b hb => hf3.own b (q2 b (by rw [hL3]; exact hb)), hpre⟩, LeEnv_get hA1.env he, hA1.nodef, hA1.size⟩
  exact ⟨_, hA4.retell (k := 4) (T := 35) (cs := lend σ [] M.length x) rfl fun us hr => lend_back2 hrel0 (fun j v hj hv => subσ_get (by
    show ((List.range M.length).map (fun j => j + 5))[j]? = _
    rw [List.getElem?_map, List.getElem?_range hj]; rfl) hv) hr⟩

/-- A nil slice beside the others. -/
theorem imp_nil {n m0 : Nat} {e : List (Nat × AV)} {L : List Ent} {T : TypeId} {D : Dat} (hD : D.len = 0) : Imp n m0 ⟨e, L⟩ ⟨e, L ++ [.arr true T D]⟩ := fun w0 σ0 L0 hl σ a w hA => ⟨_, hA.newNil hD⟩
theorem imp_drop {n m0 : Nat} {e e' : List (Nat × AV)} {L : List Ent} (ρ : List Nat) (h1 : (okPi0 ρ L && keeps0 m0 0 ρ) = true) {L' : List Ent} (h2 : subL ρ L = L') (h3 : LeEnv ρ e e') : Imp n m0 ⟨e, L⟩ ⟨e', L'⟩ :=
  Imp.le ⟨ρ, h1, (lFo_iff _ _).2 h2, h3⟩
/-- Entries of a matrix hold floats. -/
theorem good_rows : ∀ {M : List (List Nat)}, goodL (M.map rowE) → ∀ i j, i < M.length → j < (M.getD i []).length → CF .f32 ((M.getD i []).getD j 0)
  | [], _, i, j, hi, _ => by simp at hi
  | m :: M, ⟨h, _⟩, 0, j, _, hj => h.2 j 0 hj (Nat.zero_lt_one)
  | m :: M, ⟨_, h⟩, i + 1, j, hi, hj => good_rows h i j (by simpa using hi) hj
end
end Go.AX
