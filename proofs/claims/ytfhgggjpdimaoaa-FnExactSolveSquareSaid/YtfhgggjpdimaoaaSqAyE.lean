/- A symbolic walk over the code of one function, and that it tells no more than the model does: no condition. -/
import Derived.Test.YtfhgggjpdimaoaaSqAyD
set_option linter.unusedVariables false
set_option linter.unusedSimpArgs false
namespace Go.AX
noncomputable section
open Go.RowKit

/-! ## Moves that an order may leave until after a write: they may as well come first -/

def edges (ls : List Nat) : Array Edge := (ls.map fun j => (⟨j, .data⟩ : Edge)).toArray
def addE : Nat → List Nat → List Oper → List Oper
  | _, _, [] => []
  | 0, ls, o :: r => { o with after := o.after ++ edges ls } :: r
  | k + 1, ls, o :: r => o :: addE k ls r
theorem addE_len : ∀ (k : Nat) (ls : List Nat) (ops : List Oper), (addE k ls ops).length = ops.length
  | k, _, [] => by cases k <;> rfl
  | 0, ls, o :: r => rfl
  | k + 1, ls, o :: r => by simp [addE, addE_len k ls r]
theorem addE_ne : ∀ {k : Nat} {ls : List Nat} {ops : List Oper} {i : Nat}, i ≠ k → (addE k ls ops)[i]? = ops[i]?
  | k, ls, [], i, _ => by cases k <;> rfl
  | 0, ls, o :: r, 0, h => absurd rfl h
  | 0, ls, o :: r, i + 1, _ => rfl
  | k + 1, ls, o :: r, 0, _ => rfl
  | k + 1, ls, o :: r, i + 1, h => by simpa [addE] using addE_ne (k := k) (ls := ls) (ops := r) (i := i) (by omega)
theorem addE_eq : ∀ {k : Nat} {ls : List Nat} {ops : List Oper}, (addE k ls ops)[k]? = (ops[k]?).map fun o => { o with after := o.after ++ edges ls }
  | k, ls, [] => by cases k <;> rfl
  | 0, ls, o :: r => rfl
  | k + 1, ls, o :: r => by simpa [addE] using addE_eq (k := k) (ls := ls) (ops := r)
theorem edges_all {ls : List Nat} {p : Edge → Prop} : (∀ e ∈ edges ls, p e) ↔ ∀ j ∈ ls, p ⟨j, .data⟩ := by
  unfold edges
  constructor
  · intro h j hj
    exact h _ (by simp; exact hj)
  · intro h e he
    simp at he
    obtain ⟨j, hj, rfl⟩ := he
    exact h j hj

def isMove : Op → Bool
  | .move (.tmp _) => true
  | _ => false
def lateB (ops : List Oper) (j : Nat) : Bool := match ops[j]? with
  | some o => isMove o.op && o.guard.isNone && o.after.all (fun e => !Region.binds .any e) && Region.free .any ops.toArray (Array.replicate ops.length false) j
  | none => false
def okLate (ops : List Oper) (k : Nat) (ls : List Nat) : Bool := ls.all (lateB ops) && noDup ls && !(ls.contains k) && Region.noSelect ops.toArray && ops.all (fun o => o.guard.isNone)

def mark (listed : Array Bool) : List Nat → Array Bool
  | [] => listed
  | j :: r => mark (listed.setIfInBounds j true) r
def movedV (a : Act) : Op → Value
  | .move x => a.eval x
  | _ => undef
def moved (ops : List Oper) (a : Act) : List Nat → Act
  | [] => a
  | j :: r => moved ops (match ops[j]? with | some o => a.put o.dst (movedV a o.op) | none => a) r
theorem mark_size : ∀ (ls : List Nat) (listed : Array Bool), (mark listed ls).size = listed.size
  | [], _ => rfl
  | j :: r, listed => by rw [mark, mark_size r]; simp
theorem mark_keep : ∀ (ls : List Nat) (listed : Array Bool) (i : Nat), listed.getD i false = true → (mark listed ls).getD i false = true
  | [], _, _, h => h
  | j :: r, listed, i, h => mark_keep r _ i (getD_set_true h)
theorem mark_get : ∀ (ls : List Nat) (listed : Array Bool) (i : Nat), i ∈ ls → i < listed.size → (mark listed ls).getD i false = true
  | j :: r, listed, i, h, hi => by
    cases h with
    | head => exact mark_keep r _ _ (getD_set_self hi)
    | tail _ h => exact mark_get r _ i h (by simpa using hi)

section
variable {P : Program} {ty : TyT} {w0 : World} {σ0 : List Value} {L0 : List Ent} {n : Nat} {Q : Exit → Act → World → Prop}

theorem lateB_spec {ops : List Oper} {j : Nat} (h : lateB ops j = true) : ∃ o t, ops[j]? = some o ∧ o.op = .move (.tmp t) ∧ o.guard = none ∧ (∀ e ∈ o.after, Region.binds .any e = false) ∧ Region.free .any ops.toArray (Array.replicate ops.length false) j = true := by
  unfold lateB at h
  split at h
  · rename_i o ho
    simp only [Bool.and_eq_true] at h
    obtain ⟨⟨⟨h1, h2⟩, h3⟩, h4⟩ := h
    unfold isMove at h1
    split at h1
    · rename_i t hop
      refine ⟨o, t, ho, hop, by simpa using h2, fun e he => ?_, h4⟩
      have := Array.all_eq_true_iff_forall_mem.1 h3 e he
      simpa using this
    · cases h1
  · cases h
theorem repl_false {m k : Nat} : (Array.replicate m false).getD k false = false := by
  simp [Array.getD_eq_getD_getElem?, Array.getElem?_replicate]; split <;> rfl
theorem move_run {o : Oper} {t : Nat} (h : o.op = .move (.tmp t)) (a : Act) (w : World) : (execOp a.eval o).run P w = .ok (.value (movedV a o.op)) w := by
  simp only [execOp, h, movedV, Sem.run_pure]
theorem wanted_none {o : Oper} (h : o.guard = none) (y : Nat → Option Bool) : Region.wanted o y = true := by unfold Region.wanted; rw [h]

theorem late_take {ops : List Oper} (hQ : ∀ c a w, ¬ Q (.panic c) a w) (hs : Region.noSelect ops.toArray = true) :
    ∀ (ls : List Nat) (f : Nat) (listed : Array Bool) (a : Act) (w : World), (∀ j ∈ ls, lateB ops j = true) → noDup ls = true → (∀ j ∈ ls, listed.getD j true = false) →
      wpAny P .any ops.toArray Q f (mark listed ls) (moved ops a ls) w → wpAny P .any ops.toArray Q (f + ls.length) listed a w
  | [], f, listed, a, w, _, _, _, h => h
  | j :: r, f, listed, a, w, hl, hn, hu, h => by
    obtain ⟨o, t, ho, hop, hg, haf, hfree⟩ := lateB_spec (hl j (.head _))
    simp only [noDup, Bool.and_eq_true] at hn
    have hj : ∀ i ∈ r, j ≠ i := fun i hi e => by
      subst e
      have h1 := hn.1
      simp only [Bool.not_eq_true', List.contains_eq_mem, decide_eq_false_iff_not] at h1
      exact h1 hi
    have ho' : ops.toArray[j]? = some o := by simpa using ho
    simp only [mark, moved, ho] at h
    have ih := late_take hQ hs r f (listed.setIfInBounds j true) (a.put o.dst (movedV a o.op)) w (fun i hi => hl i (.tail _ hi)) hn.2 (fun i hi => by
      rw [getD_set_other (hj i hi)]; exact hu i (.tail _ hi)) h
    refine wpAny_first (md := .any) (i := j) (oi := o) (v := movedV a o.op) ho' (Region.noSelect_spec hs) (fun c a w hq => absurd hq (hQ _ _ _)) _ listed a w ?_ ?_ ?_ ih
    · intro i oi hi hij hun hno
      refine Region.free_spec ho' hfree i oi hi hij ?_ hno
      have hil := (Array.getElem?_eq_some_iff.1 hi).1
      have hil : i < ops.length := by simpa using hil
      simp only [Array.getD_eq_getD_getElem?, Array.getElem?_replicate, if_pos hil]; rfl
    · rw [mem_ready]
      exact ⟨hu j (.head _), o, ho', fun e he hb => by rw [haf e he] at hb; cases hb⟩
    · exact .inl ⟨wanted_none hg _, fun w' => move_run hop a w'⟩

theorem late_give {ops : List Oper} (hQ : ∀ a w, ¬ Q .outgrown a w) :
    ∀ (ls : List Nat) (f : Nat) (listed : Array Bool) (a : Act) (w : World), (∀ j ∈ ls, lateB ops j = true) → ∀ {ops2 : List Oper}, (∀ j ∈ ls, ops2[j]? = ops[j]?) → noDup ls = true → (∀ j ∈ ls, listed.getD j true = false) →
      wpAny P .any ops2.toArray Q (f + ls.length) listed a w → wpAny P .any ops2.toArray Q f (mark listed ls) (moved ops a ls) w
  | [], f, listed, a, w, _, _, _, _, _, h => h
  | j :: r, f, listed, a, w, hl, ops2, h2, hn, hu, h => by
    obtain ⟨o, t, ho, hop, hg, haf, hfree⟩ := lateB_spec (hl j (.head _))
    simp only [noDup, Bool.and_eq_true] at hn
    have hj : ∀ i ∈ r, j ≠ i := fun i hi e => by
      subst e
      have h1 := hn.1
      simp only [Bool.not_eq_true', List.contains_eq_mem, decide_eq_false_iff_not] at h1
      exact h1 hi
    have ho2 : ops2[j]? = some o := by rw [h2 j (.head _)]; exact ho
    have ho' : ops2.toArray[j]? = some o := by simpa using ho2
    simp only [mark, moved, ho]
    refine late_give hQ r f _ _ w (fun i hi => hl i (.tail _ hi)) (fun i hi => h2 i (.tail _ hi)) hn.2 (fun i hi => by
      rw [getD_set_other (hj i hi)]; exact hu i (.tail _ hi)) ?_
    have h : wpAny P .any ops2.toArray Q ((f + r.length) + 1) listed a w := h
    have h3 := h.2 j (by
      rw [mem_ready]
      exact ⟨hu j (.head _), o, ho', fun e he hb => by rw [haf e he] at hb; cases hb⟩)
    unfold wpOp at h3
    simp only [ho', wanted_none hg, if_true] at h3
    rcases h3 with h3 | ⟨_, a', w', h4⟩
    · unfold Oper.wp at h3
      rw [move_run hop] at h3
      exact h3
    · exact absurd h4 (hQ _ _)

theorem late_same {ops : List Oper} {k : Nat} {ls : List Nat} (hg : ∀ o ∈ ops, o.guard = none) :
    ∀ (f : Nat) (listed : Array Bool) (a : Act) (w : World), (∀ j ∈ ls, listed.getD j false = true) → wpAny P .any (addE k ls ops).toArray Q f listed a w → wpAny P .any ops.toArray Q f listed a w := by
  have hr : ∀ (listed : Array Bool), (∀ j ∈ ls, listed.getD j false = true) → ∀ i, i ∈ Region.ready .any ops.toArray listed ↔ i ∈ Region.ready .any (addE k ls ops).toArray listed := fun listed hl i => by
    rw [mem_ready', mem_ready']
    by_cases hi : i = k
    · subst hi
      rw [addE_eq]
      cases ho : ops[i]? with
      | none => simp
      | some o =>
        simp only [Option.map_some, Option.some.injEq, exists_eq_left', and_congr_right_iff]
        intro _
        constructor
        · intro h e he hb
          rcases Array.mem_append.1 he with he | he
          · exact h e he hb
          · exact (edges_all (p := fun e => listed.getD e.on false = true)).2 hl e he
        · exact fun h e he hb => h e (Array.mem_append.2 (.inl he)) hb
    · rw [addE_ne hi]
  have hnil : ∀ (listed : Array Bool), (∀ j ∈ ls, listed.getD j false = true) → Region.ready .any ops.toArray listed = [] → Region.ready .any (addE k ls ops).toArray listed = [] := fun listed hl h => by
    rw [List.eq_nil_iff_forall_not_mem] at h ⊢
    exact fun i hi => h i ((hr listed hl i).2 hi)
  have hnil' : ∀ (listed : Array Bool), (∀ j ∈ ls, listed.getD j false = true) → Region.ready .any (addE k ls ops).toArray listed = [] → Region.ready .any ops.toArray listed = [] := fun listed hl h => by
    rw [List.eq_nil_iff_forall_not_mem] at h ⊢
    exact fun i hi => h i ((hr listed hl i).1 hi)
  intro f
  induction f with
  | zero => exact fun listed a w hl h => ⟨hnil' listed hl h.1, h.2⟩
  | succ f ih =>
    intro listed a w hl h
    refine ⟨fun h0 => h.1 (hnil listed hl h0), fun i hi => ?_⟩
    have h3 := h.2 i ((hr listed hl i).1 hi)
    have hl' : ∀ j ∈ ls, (listed.setIfInBounds i true).getD j false = true := fun j hj => getD_set_true (hl j hj)
    have h3 := wpOp_mono (K' := wpAny P .any ops.toArray Q f (listed.setIfInBounds i true)) (fun a w h => ih _ a w hl' h) h3
    unfold wpOp at h3 ⊢
    simp only [List.getElem?_toArray] at h3 ⊢
    by_cases hik : i = k
    · subst hik
      rw [addE_eq] at h3
      cases ho : ops[i]? with
      | none => rw [ho] at h3; exact h3
      | some o =>
        have hgo := hg o (List.mem_of_getElem? ho)
        rw [ho] at h3
        simp only [Option.map_some] at h3
        rw [wanted_none (by exact hgo)] at h3
        simp only [wanted_none hgo, if_true] at h3 ⊢
        exact h3
    · rw [addE_ne hik] at h3
      cases ho : ops[i]? with
      | none => rw [ho] at h3; exact h3
      | some o =>
        have hgo := hg o (List.mem_of_getElem? ho)
        rw [ho] at h3
        simp only [wanted_none hgo, if_true] at h3 ⊢
        exact h3

/-- A drawn region, head in any order and then in one order, as a law over every order. -/
theorem vDraw_any (hty : TyOK P ty) {ops : List Oper} {nh : Nat} {c : List Nat} {s : St} {K : St → Prop} (h : vDraw P ty n σ0.length ops nh c s K)
    (hK : ∀ s' σ' a' w', K s' → At w0 σ0 L0 n s' σ' a' w' → Q .normal a' w') {σ : List Value} {a : Act} {w : World} (hA1 : At w0 σ0 L0 n s σ a w) : wpAny P .any ops.toArray Q ops.length (Array.replicate ops.length false) a w := by
  obtain ⟨hok, hv⟩ := h
  have hd := okDraw_spec hok
  obtain ⟨ss, αs, Ns, h0, ⟨sf, hfe, hfL, hfK⟩, hss⟩ := vHead_trace hty c s _ hv
  have hrep : ∀ (k : Nat), (Array.replicate ops.length false).getD k false = false := fun k => by
    simp [Array.getD_eq_getD_getElem?, Array.getElem?_replicate]; split <;> rfl
  have hinit : HInv w0 σ0 L0 n ops nh c s ss αs (Array.replicate ops.length false) a w σ 0 := by
    refine ⟨by simp, fun k _ => hrep k, fun i o _ hl => (by rw [hrep] at hl; cases hl), hA1.nodef, hA1.size, fun m i _ _ => ⟨fun hl => (by rw [hrep] at hl; cases hl), fun hl => by omega⟩, Nat.zero_le _, by rw [h0]; exact hA1.sat, by rw [h0]; exact hA1.fr,
      fun m i o d _ hl => (by rw [hrep] at hl; cases hl), fun t _ => hA1.env t⟩
  have hun : unl (Array.replicate ops.length false) nh = nh := by
    unfold unl
    rw [List.filter_eq_self.2]
    · simp
    · intro i hi
      have hi' : i < ops.length := Nat.lt_of_lt_of_le (List.mem_range.1 hi) hd.le
      simp [Array.getD_eq_getD_getElem?, Array.getElem?_replicate, hi']
  have key := head_any (P := P) (n := n) (w0 := w0) (σ0 := σ0) (L0 := L0) (Q := Q) (g := ops.length - nh) hd h0 hss (fun listed a' w' σ' ms hI hall => ?_) nh _ a w σ 0 hun hinit
  · rw [show nh + (ops.length - nh) = ops.length by have := hd.le; omega] at key
    simpa using key
  · have hcl := hd.len
    have hLe : (ss c.length).L = (ss ms).L := by
      obtain ⟨X, h1, h2⟩ := L_mono ms hss c.length hI.ms_le (Nat.le_refl _)
      rw [h2 (fun q j hq hb hj => by
        cases hc : isCall ops j
        · rfl
        · have hlt := hd.lt q j hj
          have h3 := hall j hlt
          rw [getD_in' (by rw [hI.size]; have := hd.le; omega)] at h3
          have := (hI.calls q j hj hc).1 h3
          omega)] at h1
      simpa using h1
    have hAf : At w0 σ0 L0 n sf σ' a' w' := by
      refine ⟨by rw [hfL, hLe]; exact hI.sat, by rw [hfL, hLe]; exact hI.fr, fun t => ?_, hI.nodef, hI.tsize⟩
      rw [hfe t]
      rcases env_at hd h0 hss t c.length (Nat.le_refl _) with ⟨q, j, oj, g1, g2, g3, g4, g5⟩ | ⟨g1, g2⟩
      · rw [g5]
        have h3 := hall j (hd.lt q j g2)
        rw [getD_in' (by rw [hI.size]; have := hd.le; have := hd.lt q j g2; omega)] at h3
        exact hI.done q j oj t g2 h3 g3 g4
      · rw [g2]
        exact hI.rest t fun q j oj hq _ hj => g1 q j oj (List.getElem?_eq_some_iff.1 hq).1 hq hj
    have := tail_any hty hd hK (ops.drop nh) nh sf σ' a' w' listed (Nat.le_refl _) rfl (by
      by_cases he : nh = ops.length
      · exact .inr he
      · left; intro e
        have := congrArg List.length e
        simp at this
        have := hd.le; omega) hI.size (fun i hi => by
        by_cases hlt : i < nh
        · rw [hall i hlt]; simp [hlt]
        · have := hI.tail i (by omega)
          rw [getD_in' (by rw [hI.size]; exact hi)] at this
          simp only [Bool.not_false] at this
          rw [this]; simp [hlt]) hfK hAf
    rwa [List.length_drop] at this
end

theorem noDup_nodup : ∀ {ls : List Nat}, noDup ls = true → ls.Nodup
  | [], _ => by simp
  | x :: r, h => by
    simp only [noDup, Bool.and_eq_true] at h
    rw [List.nodup_cons]
    refine ⟨fun hx => ?_, noDup_nodup h.2⟩
    have := h.1
    simp only [Bool.not_eq_true', List.contains_eq_mem, decide_eq_false_iff_not] at this
    exact this hx
section
variable {P : Program} {ty : TyT} {n m0 : Nat} {id : Nat} {ops : Array Oper} {s : St} {N : St → Prop} {X : Nat → St → Prop} {R : St → Prop}
theorem k_late (hty : TyOK P ty) (hmix : P.follows .mixedOrders = true) (k : Nat) (ls : List Nat) (nh : Nat) (l : List Nat) (hl : okLate ops.toList k ls = true) (hok : okDraw (addE k ls ops.toList) nh l = true)
    (h : ∀ ol, ol = addE k ls ops.toList → ∀ K, K = N → vHead P ty n ol l s fun s' => vOps P ty n m0 ol nh (ol.drop nh) s' K) : CodeOK P n m0 (.region id ops true) s N X R := by
  intro w0 σ0 L0 Q h0 hN hX hR σ a w hA
  refine Code.wp_mono (Q := fun e a w => e = .normal ∧ Q e a w) (fun e a w h => h.2) ?_
  refine wp_region_any hmix ?_
  rw [drew_eq]
  simp only [okLate, Bool.and_eq_true, List.all_eq_true] at hl
  obtain ⟨⟨⟨⟨l1, l2⟩, l3⟩, l4⟩, l5⟩ := hl
  have l3 : ∀ j ∈ ls, j ≠ k := fun j hj e => by
    subst e
    simp only [Bool.not_eq_true', List.contains_eq_mem, decide_eq_false_iff_not] at l3
    exact l3 hj
  have hv : vDraw P ty n σ0.length (addE k ls ops.toList) nh l s N := ⟨hok, by rw [h0]; exact h _ rfl _ rfl⟩
  have h1 := vDraw_any (Q := fun e a w => e = .normal ∧ Q e a w) hty hv (fun s' σ' a' w' hk hA' => ⟨rfl, hN s' σ' a' w' hk hA'⟩) (hA.ext (Ext.drewN w 1))
  have hlt : ∀ j ∈ ls, j < ops.toList.length := fun j hj => by
    obtain ⟨o, t, ho, _⟩ := lateB_spec (l1 j hj)
    exact (List.getElem?_eq_some_iff.1 ho).1
  have hle : ls.length ≤ ops.toList.length := by
    have hnd : ls.Nodup := noDup_nodup l2
    have hsub : ls ⊆ List.range ops.toList.length := fun j hj => List.mem_range.2 (hlt j hj)
    have := List.Nodup.length_le_of_subset hnd hsub
    simpa using this
  rw [addE_len] at h1
  have hu : ∀ j ∈ ls, (Array.replicate ops.toList.length false).getD j true = false := fun j hj => by
    simp only [Array.getD_eq_getD_getElem?, Array.getElem?_replicate, if_pos (hlt j hj)]; rfl
  have h2 := late_give (ops := ops.toList) (Q := fun e a w => e = .normal ∧ Q e a w) (fun a w hq => by cases hq.1) ls (ops.toList.length - ls.length) _ a (w.drewN 1) l1 (ops2 := addE k ls ops.toList) (fun j hj => addE_ne (l3 j hj)) l2 hu (by
    rw [show ops.toList.length - ls.length + ls.length = ops.toList.length by omega]; exact h1)
  have h3 := late_same (k := k) (ls := ls) (fun o ho => by have := l5 o ho; simpa using this) _ _ _ _ (fun j hj => mark_get ls _ j hj (by simpa using hlt j hj)) h2
  have h4 := late_take (ops := ops.toList) (Q := fun e a w => e = .normal ∧ Q e a w) (fun c a w hq => by cases hq.1) l4 ls _ _ a (w.drewN 1) l1 l2 hu h3
  rw [show ops.toList.length - ls.length + ls.length = ops.toList.length by omega] at h4
  simpa using h4

/-- What is told of an entry holds of it. -/
theorem k_good {c : Code} (h : goodL s.L → CodeOK P n m0 c s N X R) : CodeOK P n m0 c s N X R := fun w0 σ0 L0 Q hl hN hX hR σ a w hA =>
  h (good_sat (args := []) (us := []) hA.sat trivial).1 w0 σ0 L0 Q hl hN hX hR σ a w hA
end
end
end Go.AX
