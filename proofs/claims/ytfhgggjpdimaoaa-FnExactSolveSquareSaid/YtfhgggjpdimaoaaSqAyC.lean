/- A symbolic walk over the code of one function, and that it tells no more than the model does: no condition. -/
import Derived.Test.YtfhgggjpdimaoaaSqAyB
set_option linter.unusedVariables false
set_option linter.unusedSimpArgs false
namespace Go.AX
noncomputable section
open Go.RowKit

def swp (i k j : Nat) : Nat := if j = i then k else if j = k then i else j
theorem swp_lt {i k j N : Nat} (hi : i < N) (hk : k < N) (hj : j < N) : swp i k j < N := by unfold swp; split; exact hk; split; exact hi; exact hj
theorem swp_inj {i k a b : Nat} (h : swp i k a = swp i k b) : a = b := by
  unfold swp at h
  split at h <;> split at h <;> (try split at h) <;> (try split at h) <;> omega
theorem swp_set {M : List (List Nat)} {i k j : Nat} (hik : i ≠ k) (hi : i < M.length) (hk : k < M.length) : ((M.set i (M.getD k [])).set k (M.getD i [])).getD j [] = M.getD (swp i k j) [] := by
  simp only [List.getD_eq_getElem?_getD, List.getElem?_set, List.length_set]
  unfold swp
  by_cases h1 : j = i
  · subst h1; simp [hi, Ne.symm hik]
  · by_cases h2 : j = k
    · subst h2; simp [hk, h1]
    · simp [h1, h2, Ne.symm h1, Ne.symm h2]
theorem set_same {α : Type} {l : List α} {i : Nat} {a : α} (h : l[i]? = some a) : l.set i a = l := by
  apply List.ext_getElem?
  intro j
  by_cases hj : i = j
  · subst hj; have h9 := List.getElem?_eq_some_iff.1 h; simp [List.getElem?_set, h, h9.1, h9.2]
  · rw [List.getElem?_set_ne hj]
theorem mem_not : ∀ {r : List Nat} {p : Nat}, p ∉ r → mem p r = false
  | [], _, _ => rfl
  | i :: r, p, h => by
    simp only [List.mem_cons, not_or] at h
    simp only [mem, Bool.or_eq_false_iff]
    exact ⟨by first | exact beq_ne h.1 | exact beq_ne (Ne.symm h.1), mem_not h.2⟩
theorem nodup_map {f : Nat → Nat} (hf : ∀ a b, f a = f b → a = b) : ∀ {l : List Nat}, l.Nodup → (l.map f).Nodup
  | [], _ => by simp
  | a :: l, h => by
    rw [List.nodup_cons] at h
    rw [List.map_cons, List.nodup_cons]
    refine ⟨fun hm => ?_, nodup_map hf h.2⟩
    obtain ⟨b, hb, e⟩ := List.mem_map.1 hm
    rw [hf _ _ e] at hb
    exact h.1 hb
theorem okPi0_of : ∀ {π : List Nat} {L : List Ent}, (∀ p ∈ π, p < L.length) → π.Nodup → okPi0 π L = true
  | [], L, _, _ => rfl
  | p :: r, L, h, hn => by
    rw [List.nodup_cons] at hn
    simp only [okPi0, Bool.and_eq_true, Bool.not_eq_true']
    exact ⟨⟨Nat.ble_eq_true_of_le (h p (by simp)), mem_not hn.1⟩, okPi0_of (fun q hq => h q (by simp [hq])) hn.2⟩

/-- The headers by what they are, in other places. -/
def exV (σ : List Value) (τ : Nat → Nat) (N x : Nat) : List AC := (List.range N).map (fun j => .ex (σ.getD (τ j + 5) undef)) ++ List.replicate x .any
theorem exV_len (σ : List Value) (τ : Nat → Nat) (N x : Nat) : (exV σ τ N x).length = N + x := by simp [exV]
theorem exV_lt {σ : List Value} {τ : Nat → Nat} {N x j : Nat} (h : j < N) : (exV σ τ N x)[j]? = some (.ex (σ.getD (τ j + 5) undef)) := by
  unfold exV; rw [List.getElem?_append_left (by simpa using h)]; simp [h]
theorem exV_ge {σ : List Value} {τ : Nat → Nat} {N x j : Nat} (h : N ≤ j) {c : AC} (hc : (exV σ τ N x)[j]? = some c) : c = .any := by
  unfold exV at hc; rw [List.getElem?_append_right (by simpa using h)] at hc
  obtain ⟨h1, h2⟩ := List.getElem?_eq_some_iff.1 hc; simpa using h2.symm
theorem exV_res {σ : List Value} {τ : Nat → Nat} {N x : Nat} {π : List Nat} : (exV σ τ N x).map (AC.res π) = exV σ τ N x := by
  unfold exV
  simp [AC.res]
theorem exV_rel {σ : List Value} {i k N x : Nat} {us : List Value} (hik : i ≠ k) (hi : i < N) (hk : k < N) (h : RelCs σ (((lend σ [i, k] N x).set i (.sl (k + 5))).set k (.sl (i + 5))) us) : RelCs σ (exV σ (swp i k) N x) us := by
  have hl := h.len
  refine RelCs_of (by rw [exV_len, ← hl]; simp [lend_len]) fun j c u hc hu => ?_
  by_cases hj : j < N
  · rw [exV_lt hj] at hc
    cases hc
    show u = σ.getD (swp i k j + 5) undef
    by_cases h2 : j = k
    · subst h2
      have h1 := h.at (j := j) (c := .sl (i + 5)) (by simp [List.getElem?_set, lend_len]; omega) hu
      have h3 : σ[i + 5]? = some u := h1.1
      rw [show swp i j j = i by unfold swp; simp [Ne.symm hik], List.getD_eq_getElem?_getD, h3]; rfl
    · by_cases h1 : j = i
      · subst h1
        have h1 := h.at (j := j) (c := .sl (k + 5)) (by rw [List.getElem?_set_ne (Ne.symm h2)]; simp [List.getElem?_set, lend_len]; omega) hu
        have h3 : σ[k + 5]? = some u := h1.1
        rw [show swp j k j = k by unfold swp; simp, List.getD_eq_getElem?_getD, h3]; rfl
      · have h3 := h.at (j := j) (by rw [List.getElem?_set_ne (Ne.symm h2), List.getElem?_set_ne (Ne.symm h1)]; exact lend_lt hj) hu
        rw [if_neg (by simp [h1, h2])] at h3
        rw [show swp i k j = j by unfold swp; simp [h1, h2]]
        exact h3
  · rw [exV_ge (Nat.le_of_not_lt hj) hc]; trivial
theorem exV_back {σ : List Value} {i k N x : Nat} {us us0 : List Value} (h0 : RelCs σ (lnk N x) us0) (hi : i < N) (hk : k < N) (h : RelCs (subσ (0 :: 1 :: 2 :: 3 :: 4 :: (List.range N).map (fun j => swp i k j + 5)) σ) (exV σ (swp i k) N x) us) :
    RelCs (subσ (0 :: 1 :: 2 :: 3 :: 4 :: (List.range N).map (fun j => swp i k j + 5)) σ) (lnk N x) us := by
  refine RelCs_of (by rw [lnk_len, ← exV_len σ (swp i k) N x, h.len]) fun j c u hc hu => ?_
  by_cases hj : j < N
  · rw [lnk_lt hj] at hc
    cases hc
    have e : u = σ.getD (swp i k j + 5) undef := h.at (exV_lt hj) hu
    obtain ⟨u0, h2, h3⟩ := h0.get (lnk_lt (swp_lt hi hk hj))
    have h4 : σ[swp i k j + 5]? = some u0 := h3.1
    rw [List.getD_eq_getElem?_getD, h4] at e
    have e : u = u0 := e
    subst e
    refine ⟨subσ_get ?_ h4, h3.2⟩
    show ((List.range N).map (fun j => swp i k j + 5))[j]? = _
    rw [List.getElem?_map, List.getElem?_range hj]; rfl
  · rw [lnk_ge (Nat.le_of_not_lt hj) hc]; trivial

section
variable {P : Program} {ty : TyT} {n m0 : Nat} {c : Code} {N : St → Prop} {X : Nat → St → Prop} {R : St → Prop}
theorem k_swap {env env' : List (Nat × AV)} {l0 l1 l2 l3 : List Nat} {M : List (List Nat)} {x i k : Nat} (hik : i ≠ k) (hi : i < M.length) (hk : k < M.length) (hm0 : ∀ rest, keeps0 m0 0 (0 :: 1 :: 2 :: 3 :: 4 :: rest) = true) (he : LeEnv [0, 1, 2, 3, 4, i + 5, k + 5] env env')
    (h : ∀ C : List AC, C[i]? = some (.sl 5) → C[k]? = some (.sl 6) → C.length = M.length + x → ∀ N', (N' = fun s' => ∃ k0 k1 k2 k3 e', s'.L = [rowE k0, rowE k1, rowE k2, rowE k3, .var 35 ((C.set i (.sl 6)).set k (.sl 5)), rowE (M.getD i []), rowE (M.getD k [])] ∧ (∀ rest, LeEnv (0 :: 1 :: 2 :: 3 :: 4 :: rest) (envR (gmap [0, 1, 2, 3, 4, i + 5, k + 5] (M.length + 5)) s'.env) e') ∧ N ⟨e', full k0 k1 k2 k3 ((M.set i (M.getD k [])).set k (M.getD i [])) x⟩) →
      CodeOK P n 7 c ⟨env', [rowE l0, rowE l1, rowE l2, rowE l3, .var 35 C, rowE (M.getD i []), rowE (M.getD k [])]⟩ N' (fun _ _ => False) (fun _ => False)) : CodeOK P n m0 c ⟨env, full l0 l1 l2 l3 M x⟩ N X R := by
  intro w0 σ0 L0 Q hl hN hX hR σ a w hA
  have hV : (full l0 l1 l2 l3 M x)[4]? = some (.var 35 (lnk M.length x)) := rfl
  obtain ⟨vV, hσ4⟩ := hA.sat.some_val hV
  obtain ⟨g, us0, _, _, hrel0⟩ := hA.sat.ok _ _ _ hV hσ4
  have hA1 : At w0 σ0 L0 n ⟨env, fullV l0 l1 l2 l3 M (lend σ [i, k] M.length x)⟩ σ a w := hA.retell hV fun us hr => lend_rel hr
  have hfl : (fullV l0 l1 l2 l3 M (lend σ [i, k] M.length x)).length = M.length + 5 := by simp
  have hsl := hA1.sat.len
  rw [hfl] at hsl
  have gi : (fullV l0 l1 l2 l3 M (lend σ [i, k] M.length x))[i + 5]? = some (rowE (M.getD i [])) := row_at hi
  have gk : (fullV l0 l1 l2 l3 M (lend σ [i, k] M.length x))[k + 5]? = some (rowE (M.getD k [])) := row_at hk
  have hok : okPi [0, 1, 2, 3, 4, i + 5, k + 5] (fullV l0 l1 l2 l3 M (lend σ [i, k] M.length x)) = true := by
    simp only [okPi, gi, gk]
    simp [hik]
  have hL : subL [0, 1, 2, 3, 4, i + 5, k + 5] (fullV l0 l1 l2 l3 M (lend σ [i, k] M.length x)) = [rowE l0, rowE l1, rowE l2, rowE l3, .var 35 ((lend σ [i, k] M.length x).map (AC.res [0, 1, 2, 3, 4, i + 5, k + 5])), rowE (M.getD i []), rowE (M.getD k [])] := by
    simp only [subL, List.map_cons, List.map_nil, gi, gk]; rfl
  have hs := sub_sat hA1.sat hok
  rw [hL] at hs
  have p5 : pos [0, 1, 2, 3, 4, i + 5, k + 5] (i + 5) 0 = some 5 := by simp only [pos, Nat.beq_refl, cond_true, cond_false, beq_ne (show 0 ≠ i + 5 by omega), beq_ne (show 1 ≠ i + 5 by omega), beq_ne (show 2 ≠ i + 5 by omega), beq_ne (show 3 ≠ i + 5 by omega), beq_ne (show 4 ≠ i + 5 by omega)]
  have p6 : pos [0, 1, 2, 3, 4, i + 5, k + 5] (k + 5) 0 = some 6 := by simp only [pos, Nat.beq_refl, cond_true, cond_false, beq_ne (show 0 ≠ k + 5 by omega), beq_ne (show 1 ≠ k + 5 by omega), beq_ne (show 2 ≠ k + 5 by omega), beq_ne (show 3 ≠ k + 5 by omega), beq_ne (show 4 ≠ k + 5 by omega), beq_ne (show i + 5 ≠ k + 5 by omega)]
  have c1 : ((lend σ [i, k] M.length x).map (AC.res [0, 1, 2, 3, 4, i + 5, k + 5]))[i]? = some (.sl 5) := by
    rw [List.getElem?_map, lend_lt hi]; simp [AC.res, p5]
  have c2 : ((lend σ [i, k] M.length x).map (AC.res [0, 1, 2, 3, 4, i + 5, k + 5]))[k]? = some (.sl 6) := by
    rw [List.getElem?_map, lend_lt hk]; simp [AC.res, p6]
  have hb : At w (subσ [0, 1, 2, 3, 4, i + 5, k + 5] σ) [rowE l0, rowE l1, rowE l2, rowE l3, .var 35 ((lend σ [i, k] M.length x).map (AC.res [0, 1, 2, 3, 4, i + 5, k + 5])), rowE (M.getD i []), rowE (M.getD k [])] n ⟨env', [rowE l0, rowE l1, rowE l2, rowE l3, .var 35 ((lend σ [i, k] M.length x).map (AC.res [0, 1, 2, 3, 4, i + 5, k + 5])), rowE (M.getD i []), rowE (M.getD k [])]⟩ (subσ [0, 1, 2, 3, 4, i + 5, k + 5] σ) a w :=
    ⟨hs, Fr.refl _ _ _, LeEnv_get hA1.env he, hA1.nodef, hA1.size⟩
  refine h _ c1 c2 (by simp [lend_len]) _ rfl w (subσ [0, 1, 2, 3, 4, i + 5, k + 5] σ) _ Q (by simp [subσ]) ?_ (fun _ _ _ _ _ h => h.elim) (fun _ _ _ _ h => h.elim) _ _ _ hb
  rintro s' σ' a' w' ⟨k0, k1, k2, k3, e', hsL, he', hn⟩ hA'
  have hkeep : Keeps (subL [0, 1, 2, 3, 4, i + 5, k + 5] (fullV l0 l1 l2 l3 M (lend σ [i, k] M.length x))) s'.L := by rw [hL, hsL]; exact rfl
  have hfr := hA'.fr
  rw [← hL] at hfr
  obtain ⟨p1, p2, p3⟩ := merge_sat hA1.sat hok hkeep hA'.sat hfr
  have hd : σ'.drop [0, 1, 2, 3, 4, i + 5, k + 5].length = [] := by
    rw [List.drop_eq_nil_iff, hA'.sat.len, hsL]; exact Nat.le_refl _
  rw [hd, List.append_nil, hfl] at p1 p2 p3
  have g5 : gmap [0, 1, 2, 3, 4, i + 5, k + 5] (M.length + 5) 5 = i + 5 := rfl
  have g6 : gmap [0, 1, 2, 3, 4, i + 5, k + 5] (M.length + 5) 6 = k + 5 := rfl
  have hcs : (((((lend σ [i, k] M.length x).map (AC.res [0, 1, 2, 3, 4, i + 5, k + 5])).set i (.sl 6)).set k (.sl 5)).map (AC.ren (gmap [0, 1, 2, 3, 4, i + 5, k + 5] (M.length + 5)))) = ((lend σ [i, k] M.length x).set i (.sl (k + 5))).set k (.sl (i + 5)) := by
    have e : ((lend σ [i, k] M.length x).map (AC.res [0, 1, 2, 3, 4, i + 5, k + 5])).map (AC.ren (gmap [0, 1, 2, 3, 4, i + 5, k + 5] (M.length + 5))) = lend σ [i, k] M.length x := by
      apply List.ext_getElem?
      intro j
      rw [List.getElem?_map, List.getElem?_map]
      by_cases hj : j < M.length
      · rw [lend_lt hj]
        by_cases hji : j = i
        · subst hji; simp [AC.res, p5, AC.ren, g5]
        · by_cases hjk : j = k
          · subst hjk; simp [AC.res, p6, AC.ren, g6]
          · simp [hji, hjk, AC.res, AC.ren]
      · cases hc : (lend σ [i, k] M.length x)[j]? with
        | none => rfl
        | some c => rw [lend_ge (Nat.le_of_not_lt hj) hc]; rfl
    rw [List.map_set, List.map_set, e]
    simp only [AC.ren, g5, g6]
  have hm : merge (gmap [0, 1, 2, 3, 4, i + 5, k + 5] (M.length + 5)) [0, 1, 2, 3, 4, i + 5, k + 5] (fullV l0 l1 l2 l3 M (lend σ [i, k] M.length x)) s'.L = fullV k0 k1 k2 k3 M (((lend σ [i, k] M.length x).set i (.sl (k + 5))).set k (.sl (i + 5))) := by
    rw [hsL]
    show List.set (List.set (fullV k0 k1 k2 k3 M (((((lend σ [i, k] M.length x).map (AC.res [0, 1, 2, 3, 4, i + 5, k + 5])).set i (.sl 6)).set k (.sl 5)).map (AC.ren (gmap [0, 1, 2, 3, 4, i + 5, k + 5] (M.length + 5))))) (i + 5) (rowE (M.getD i []))) (k + 5) (rowE (M.getD k [])) ++ [] = _
    rw [hcs, List.append_nil]
    show rowE k0 :: rowE k1 :: rowE k2 :: rowE k3 :: .var 35 (((lend σ [i, k] M.length x).set i (.sl (k + 5))).set k (.sl (i + 5))) :: List.set (List.set (M.map rowE) i (rowE (M.getD i []))) k (rowE (M.getD k [])) = _
    rw [set_same (row_at hi), set_same (row_at hk)]
  rw [hm] at p1 p2
  have hA2 : At w0 σ0 L0 n ⟨envR (gmap [0, 1, 2, 3, 4, i + 5, k + 5] (M.length + 5)) s'.env, fullV k0 k1 k2 k3 M (((lend σ [i, k] M.length x).set i (.sl (k + 5))).set k (.sl (i + 5)))⟩ σ a' w' :=
    ⟨p1, hA1.fr.trans p2, fun t => by rw [envR_get]; exact ren_relV p3 (hA'.env t), hA'.nodef, hA'.size⟩
  have hA3 : At w0 σ0 L0 n ⟨envR (gmap [0, 1, 2, 3, 4, i + 5, k + 5] (M.length + 5)) s'.env, fullV k0 k1 k2 k3 M (exV σ (swp i k) M.length x)⟩ σ a' w' :=
    hA2.retell (k := 4) (T := 35) (cs := ((lend σ [i, k] M.length x).set i (.sl (k + 5))).set k (.sl (i + 5))) rfl fun us hr => exV_rel hik hi hk hr
  have hfl3 : (fullV k0 k1 k2 k3 M (exV σ (swp i k) M.length x)).length = M.length + 5 := by simp
  have hok3 : okPi0 (0 :: 1 :: 2 :: 3 :: 4 :: (List.range M.length).map (fun j => swp i k j + 5)) (fullV k0 k1 k2 k3 M (exV σ (swp i k) M.length x)) = true := by
    refine okPi0_of (fun p hp => ?_) ?_
    · rw [hfl3]
      simp only [List.mem_cons, List.mem_map, List.mem_range] at hp
      rcases hp with rfl | rfl | rfl | rfl | rfl | ⟨j, hj, rfl⟩
      · omega
      · omega
      · omega
      · omega
      · omega
      · have := swp_lt hi hk hj; omega
    · simp only [List.nodup_cons, List.mem_cons, List.mem_map, List.mem_range, not_or]
      refine ⟨⟨by omega, by omega, by omega, by omega, ?_⟩, ⟨by omega, by omega, by omega, ?_⟩, ⟨by omega, by omega, ?_⟩, ⟨by omega, ?_⟩, ?_, ?_⟩
      · rintro ⟨j, hj, h⟩; omega
      · rintro ⟨j, hj, h⟩; omega
      · rintro ⟨j, hj, h⟩; omega
      · rintro ⟨j, hj, h⟩; omega
      · rintro ⟨j, hj, h⟩; omega
      · exact nodup_map (fun a b hab => swp_inj (i := i) (k := k) (by have : swp i k a + 5 = swp i k b + 5 := hab; omega)) List.nodup_range
  obtain ⟨q1, q2⟩ := sel_sat hA3.sat hok3
  have hL3 : subL (0 :: 1 :: 2 :: 3 :: 4 :: (List.range M.length).map (fun j => swp i k j + 5)) (fullV k0 k1 k2 k3 M (exV σ (swp i k) M.length x)) = fullV k0 k1 k2 k3 ((M.set i (M.getD k [])).set k (M.getD i [])) (exV σ (swp i k) M.length x) := by
    have e4 : (exV σ (swp i k) M.length x).map (AC.res (0 :: 1 :: 2 :: 3 :: 4 :: (List.range M.length).map (fun j => swp i k j + 5))) = exV σ (swp i k) M.length x := exV_res
    show rowE k0 :: rowE k1 :: rowE k2 :: rowE k3 :: .var 35 ((exV σ (swp i k) M.length x).map (AC.res (0 :: 1 :: 2 :: 3 :: 4 :: (List.range M.length).map (fun j => swp i k j + 5)))) :: (((List.range M.length).map (fun j => swp i k j + 5)).map fun p => (match (fullV k0 k1 k2 k3 M (exV σ (swp i k) M.length x))[p]? with
      | some E => E.res (0 :: 1 :: 2 :: 3 :: 4 :: (List.range M.length).map (fun j => swp i k j + 5))
      | none => .dead)) = _
    rw [e4]
    congr 5
    apply List.ext_getElem?
    intro j
    by_cases hj : j < M.length
    · have hsw := swp_lt hi hk hj
      have e5 : (fullV k0 k1 k2 k3 M (exV σ (swp i k) M.length x))[swp i k j + 5]? = some (rowE (M.getD (swp i k j) [])) := row_at hsw
      rw [List.getElem?_map, List.getElem?_map, List.getElem?_range hj, Option.map_some, Option.map_some, e5]
      rw [row_at (by simpa using hj), swp_set hik hi hk]
      rfl
    · rw [List.getElem?_eq_none (by simpa using hj), List.getElem?_eq_none (by simpa using hj)]
  rw [hL3] at q1
  have hpre : Pre σ0 (subσ (0 :: 1 :: 2 :: 3 :: 4 :: (List.range M.length).map (fun j => swp i k j + 5)) σ) := pre_sel hA3.sat (by rw [hl]; exact hm0 _) hA3.fr.pre
  have hf3 := hA3.fr
  have hA4 : At w0 σ0 L0 n ⟨e', fullV k0 k1 k2 k3 ((M.set i (M.getD k [])).set k (M.getD i [])) (exV σ (swp i k) M.length x)⟩ (subσ (0 :: 1 :: 2 :: 3 :: 4 :: (List.range M.length).map (fun j => swp i k j + 5)) σ) a' w' :=
    ⟨q1, ⟨hf3.os, hf3.tape, hf3.output, hf3.size, hf3.blk, fun b hb => hf3.own b (q2 b (by rw [hL3]; exact hb)), hpre⟩, LeEnv_get hA3.env (he' _), hA3.nodef, hA3.size⟩
  have hA5 : At w0 σ0 L0 n ⟨e', fullV k0 k1 k2 k3 ((M.set i (M.getD k [])).set k (M.getD i [])) (lnk M.length x)⟩ (subσ (0 :: 1 :: 2 :: 3 :: 4 :: (List.range M.length).map (fun j => swp i k j + 5)) σ) a' w' :=
    hA4.retell (k := 4) (T := 35) (cs := exV σ (swp i k) M.length x) rfl fun us hr => exV_back hrel0 hi hk hr
  have hf : full k0 k1 k2 k3 ((M.set i (M.getD k [])).set k (M.getD i [])) x = fullV k0 k1 k2 k3 ((M.set i (M.getD k [])).set k (M.getD i [])) (lnk M.length x) := by
    show fullV _ _ _ _ _ (lnk ((M.set i (M.getD k [])).set k (M.getD i [])).length x) = _
    simp
  rw [← hf] at hA5
  exact hN _ _ a' w' hn hA5
end

end
end Go.AX
