/- A symbolic walk over the code of one function, and that it tells no more than the model does: no condition. -/
import Derived.Test.YtfhgggjpdimaoaaSqAxI
set_option linter.unusedVariables false
set_option linter.unusedSimpArgs false
namespace Go.AX
noncomputable section
open Go.RowKit
section
variable {P : Program} {ty : TyT} {w0 : World} {σ0 : List Value} {L0 : List Ent} {n : Nat}

theorem getD_set_self {l : Array Bool} {i : Nat} {b d : Bool} (h : i < l.size) : (l.setIfInBounds i b).getD i d = b := by
  simp [Array.getD_eq_getD_getElem?, h]
theorem getD_set_other {l : Array Bool} {i j : Nat} {b d : Bool} (h : i ≠ j) : (l.setIfInBounds i b).getD j d = l.getD j d := by
  simp [Array.getD_eq_getD_getElem?, Array.getElem?_setIfInBounds_ne h]
theorem getD_in' {l : Array Bool} {i : Nat} (h : i < l.size) (b : Bool) : l.getD i b = l.getD i (!b) := by
  simp [Array.getD_eq_getD_getElem?, h]

theorem mem_ready' {ops : List Oper} {listed : Array Bool} {j : Nat} : j ∈ Region.ready .any ops.toArray listed ↔ listed.getD j true = false ∧ ∃ o, ops[j]? = some o ∧ ∀ e ∈ o.after, Region.binds .any e = true → listed.getD e.on false = true := by
  rw [mem_ready]; simp

/-- How many of the first k are not listed. -/
def unl (listed : Array Bool) (k : Nat) : Nat := ((List.range k).filter fun i => !listed.getD i true).length

theorem unl_zero {listed : Array Bool} {k : Nat} (h : unl listed k = 0) : ∀ i, i < k → listed.getD i true = true := by
  intro i hi
  unfold unl at h
  rw [List.length_eq_zero_iff, List.filter_eq_nil_iff] at h
  have := h i (List.mem_range.2 hi)
  simpa using this
theorem unl_set {listed : Array Bool} {i : Nat} (hi : i < listed.size) (hu : listed.getD i true = false) : ∀ k, (i < k → unl (listed.setIfInBounds i true) k + 1 = unl listed k) ∧ (k ≤ i → unl (listed.setIfInBounds i true) k = unl listed k)
  | 0 => ⟨fun h => by omega, fun _ => rfl⟩
  | k + 1 => by
    obtain ⟨h1, h2⟩ := unl_set hi hu k
    unfold unl at *
    simp only [List.range_succ, List.filter_append, List.length_append]
    by_cases hik : i = k
    · subst hik
      refine ⟨fun _ => ?_, fun h => by omega⟩
      rw [h2 (Nat.le_refl _)]
      simp only [List.filter_cons, List.filter_nil, getD_set_self hi, hu]; rfl
    · refine ⟨fun h => ?_, fun h => ?_⟩
      · have := h1 (by omega)
        simp only [List.filter_cons, List.filter_nil, getD_set_other hik]
        omega
      · have := h2 (by omega)
        simp only [List.filter_cons, List.filter_nil, getD_set_other hik]
        omega

theorem min_unl {listed : Array Bool} {k : Nat} (h : unl listed k ≠ 0) : ∃ i, i < k ∧ listed.getD i true = false ∧ ∀ j, j < i → listed.getD j true = true := by
  induction k with
  | zero => exact absurd rfl h
  | succ k ih =>
    by_cases h0 : unl listed k = 0
    · have hall := unl_zero h0
      refine ⟨k, by omega, ?_, fun j hj => hall j hj⟩
      unfold unl at h h0
      simp only [List.range_succ, List.filter_append, List.length_append, h0] at h
      cases hk : listed.getD k true
      · rfl
      · simp only [List.filter_cons, List.filter_nil, hk] at h
        exact absurd rfl h
    · obtain ⟨i, h1, h2, h3⟩ := ih h0
      exact ⟨i, by omega, h2, h3⟩

/-- What okDraw says. -/
structure Draw (ops : List Oper) (nh : Nat) (c : List Nat) : Prop where
  len : c.length = nh
  le : nh ≤ ops.length
  nd : ∀ (i j x : Nat), c[i]? = some x → c[j]? = some x → i = j
  lt : ∀ (m i : Nat), c[m]? = some i → i < nh
  full : ∀ i, i < nh → ∃ m : Nat, c[m]? = some i
  pairT : ∀ (m m' i j : Nat), c[m]? = some i → c[m']? = some j → m' < m → okPair ops true i j = true ∧ (isCall ops j = true → reach ops ops.length i j = true)
  pairF : ∀ (m m' i j : Nat), c[m]? = some i → c[m']? = some j → m < m' → okPair ops false i j = true
  back : ∀ (i : Nat) o, ops[i]? = some o → ∀ e ∈ o.after, Region.binds .any e = true → e.on < i
  sink : nh < ops.length → ∀ i, i < nh → reach ops ops.length nh i = true
  chain : ∀ k, nh < k → k < ops.length → dep ops k (k - 1) = true

theorem okDraw_spec {ops : List Oper} {nh : Nat} {c : List Nat} (h : okDraw ops nh c = true) : Draw ops nh c := by
  simp only [okDraw, Bool.and_eq_true] at h
  obtain ⟨⟨⟨⟨⟨⟨⟨⟨h1, h2⟩, h3⟩, h4⟩, h5⟩, h6⟩, h7⟩, h8⟩, h9⟩ := h
  have hlt : ∀ (m i : Nat), c[m]? = some i → i < nh := fun m i hm => by
    have := List.all_eq_true.1 h4 i (List.mem_of_getElem? hm)
    exact Nat.lt_of_succ_le (Nat.le_of_ble_eq_true this)
  refine ⟨Nat.eq_of_beq_eq_true h1, Nat.le_of_ble_eq_true h2, noDup_spec h3, hlt, fun i hi => ?_, fun m m' i j hm hm' hlt' => ?_, fun m m' i j hm hm' hlt' => ?_, fun i o ho e he hb => ?_, fun hn i hi => ?_, fun k hk hk' => ?_⟩
  · have := List.all_eq_true.1 h5 i (List.mem_range.2 hi)
    exact List.getElem?_of_mem (by simpa using this)
  · exact (okOrder_get h6 m i hm).1 j (.inr ⟨m', hlt', hm'⟩)
  · exact (okOrder_get h6 m i hm).2 m' j hlt' hm'
  · have hi : i < ops.length := (List.getElem?_eq_some_iff.1 ho).1
    have := List.all_eq_true.1 h7 i (List.mem_range.2 hi)
    simp only [ho] at this
    have := List.all_eq_true.1 this e (by simpa using he)
    simp only [hb, Bool.not_true, Bool.false_or] at this
    exact Nat.lt_of_succ_le (Nat.le_of_ble_eq_true this)
  · have hb : Nat.blt nh ops.length = true := by simp [Nat.blt]; omega
    simp only [hb, cond_true] at h8
    exact List.all_eq_true.1 h8 i (List.mem_range.2 hi)
  · have := List.all_eq_true.1 h9 k (List.mem_range.2 hk')
    have hb : Nat.blt nh k = true := by simp [Nat.blt]; omega
    simpa [hb] using this

section main
variable {ops : List Oper} {nh : Nat} {c : List Nat} {s : St} {ss : Nat → St} {αs : Nat → AV} {Ns : Nat → List Ent}

theorem env_at (hd : Draw ops nh c) (h0 : ss 0 = s) (hss : ∀ (m i : Nat), c[m]? = some i → ∃ o, ops[i]? = some o ∧ StepOK P n ops o (ss m) (αs m) (Ns m) ∧ (ss (m + 1)).L = (ss m).L ++ Ns m ∧ EnvEq (ss (m + 1)).env (envPut (ss m).env o.dst (αs m))) (t : Nat) :
    ∀ m, m ≤ c.length → (∃ m' i o, m' < m ∧ c[m']? = some i ∧ ops[i]? = some o ∧ o.dst = some t ∧ envGet (ss m).env t = αs m') ∨
      ((∀ (m' i : Nat) o, m' < m → c[m']? = some i → ops[i]? = some o → o.dst ≠ some t) ∧ envGet (ss m).env t = envGet s.env t)
  | 0, _ => .inr ⟨fun m' _ _ h => by omega, by rw [h0]⟩
  | m + 1, hm => by
    obtain ⟨i, hi⟩ : ∃ i, c[m]? = some i := ⟨_, List.getElem?_eq_getElem (by omega)⟩
    obtain ⟨o, ho, _, _, hE⟩ := hss m i hi
    rw [hE t]
    by_cases hdst : o.dst = some t
    · left
      exact ⟨m, i, o, by omega, hi, ho, hdst, by rw [hdst, envGet_put_eq]⟩
    · rw [envGet_put_ne hdst]
      rcases env_at hd h0 hss t m (by omega) with ⟨m', i', o', g1, g2, g3, g4, g5⟩ | ⟨g1, g2⟩
      · exact .inl ⟨m', i', o', by omega, g2, g3, g4, g5⟩
      · refine .inr ⟨fun m' i' o' hm' hi' ho' => ?_, g2⟩
        by_cases he : m' = m
        · subst he
          rw [hi] at hi'; cases hi'
          rw [ho] at ho'; cases ho'
          exact hdst
        · exact g1 m' i' o' (by omega) hi' ho'

theorem L_mono (m : Nat) (hss : ∀ (m i : Nat), c[m]? = some i → ∃ o, ops[i]? = some o ∧ StepOK P n ops o (ss m) (αs m) (Ns m) ∧ (ss (m + 1)).L = (ss m).L ++ Ns m ∧ EnvEq (ss (m + 1)).env (envPut (ss m).env o.dst (αs m))) :
    ∀ m', m ≤ m' → m' ≤ c.length → ∃ X, (ss m').L = (ss m).L ++ X ∧ ((∀ (q i : Nat), m ≤ q → q < m' → c[q]? = some i → isCall ops i = false) → X = [])
  | 0, h, _ => by
    have : m = 0 := by omega
    subst this
    exact ⟨[], by simp, fun _ => rfl⟩
  | m' + 1, h, hl => by
    by_cases he : m = m' + 1
    · subst he; exact ⟨[], by simp, fun _ => rfl⟩
    · obtain ⟨X, h1, h2⟩ := L_mono m hss m' (by omega) (by omega)
      obtain ⟨i, hi⟩ : ∃ i, c[m']? = some i := ⟨_, List.getElem?_eq_getElem (by omega)⟩
      obtain ⟨o, ho, hst, hL, _⟩ := hss m' i hi
      refine ⟨X ++ Ns m', by rw [hL, h1, List.append_assoc], fun hq => ?_⟩
      have hc := hq m' i (by omega) (by omega) hi
      have hc' : callLike o.op = false := by simpa [isCall, ho] using hc
      rw [h2 (fun q i' a b d => hq q i' a (by omega) d), (hst.2.1 hc').1]; rfl

/-- The head of a region, some of its operations done. -/
structure HInv (w0 : World) (σ0 : List Value) (L0 : List Ent) (n : Nat) (ops : List Oper) (nh : Nat) (c : List Nat) (s : St) (ss : Nat → St) (αs : Nat → AV) (listed : Array Bool) (a : Act) (w : World) (σ : List Value) (ms : Nat) : Prop where
  size : listed.size = ops.length
  tail : ∀ k, nh ≤ k → listed.getD k false = false
  closed : Closed ops listed
  nodef : a.defers = []
  tsize : a.tmps.size = n
  calls : ∀ (m i : Nat), c[m]? = some i → isCall ops i = true → (listed.getD i false = true ↔ m < ms)
  ms_le : ms ≤ c.length
  sat : SatL σ (ss ms).L w
  fr : Fr w0 σ0 L0 w σ (ss ms).L
  done : ∀ (m i : Nat) o d, c[m]? = some i → listed.getD i false = true → ops[i]? = some o → o.dst = some d → RelV σ (αs m) (a.tmps.getD d undef)
  rest : ∀ t, (∀ (m i : Nat) o, c[m]? = some i → listed.getD i false = true → ops[i]? = some o → o.dst ≠ some t) → RelV σ (envGet s.env t) (a.tmps.getD t undef)

theorem put_getD_ne {a : Act} {d : Option Nat} {v : Value} {t : Nat} (h : d ≠ some t) : (a.put d v).tmps.getD t undef = a.tmps.getD t undef := by
  cases d with
  | none => rfl
  | some d =>
    have : d ≠ t := fun e => h (by rw [e])
    simp only [Act.put, Array.getD_eq_getD_getElem?]
    rw [Array.getElem?_setIfInBounds_ne this]
theorem put_getD_eq {a : Act} {d : Nat} {v : Value} (h : d < a.tmps.size) : (a.put (some d) v).tmps.getD d undef = v := by
  simp only [Act.put, Array.getD_eq_getD_getElem?]
  rw [Array.getElem?_setIfInBounds_self_of_lt h]; rfl

/-- One more operation done. -/
theorem HInv.step (hd : Draw ops nh c) (hss : ∀ (m i : Nat), c[m]? = some i → ∃ o, ops[i]? = some o ∧ StepOK P n ops o (ss m) (αs m) (Ns m) ∧ (ss (m + 1)).L = (ss m).L ++ Ns m ∧ EnvEq (ss (m + 1)).env (envPut (ss m).env o.dst (αs m)))
    {listed : Array Bool} {a : Act} {w : World} {σ : List Value} {ms : Nat} (h : HInv w0 σ0 L0 n ops nh c s ss αs listed a w σ ms) {i m : Nat} {o : Oper} (hi : c[m]? = some i) (ho : ops[i]? = some o) (hu : listed.getD i true = false)
    (hdeps : ∀ e ∈ o.after, Region.binds .any e = true → listed.getD e.on false = true) (hok : okDst n o.dst = true) {v : Value} {w' : World} {σ' : List Value} {ms' : Nat} (hms : ms' ≤ c.length)
    (hcalls : ∀ (q j : Nat), c[q]? = some j → isCall ops j = true → ((listed.setIfInBounds i true).getD j false = true ↔ q < ms')) (hs : SatL σ' (ss ms').L w') (hf : Fr w0 σ0 L0 w' σ' (ss ms').L) (hp : Pre σ σ') (hv : RelV σ' (αs m) v) :
    HInv w0 σ0 L0 n ops nh c s ss αs (listed.setIfInBounds i true) (a.put o.dst v) w' σ' ms' := by
  have hin : i < nh := hd.lt m i hi
  have hil : i < listed.size := by rw [h.size]; exact Nat.lt_of_lt_of_le hin hd.le
  have hget : ∀ {j : Nat}, (listed.setIfInBounds i true).getD j false = true → j = i ∨ listed.getD j false = true := fun {j} hj => by
    by_cases he : i = j
    · exact .inl he.symm
    · right; rwa [getD_set_other he] at hj
  have hkeep : ∀ {j : Nat}, listed.getD j false = true → (listed.setIfInBounds i true).getD j false = true := fun {j} hj => by
    by_cases he : i = j
    · subst he; exact getD_set_self hil
    · rw [getD_set_other he]; exact hj
  -- different operations write different temporaries
  have hdd : ∀ {q j : Nat} {oj : Oper} {d : Nat}, c[q]? = some j → ops[j]? = some oj → oj.dst = some d → o.dst = some d → q = m := by
    intro q j oj d hq hj h1 h2
    rcases Nat.lt_trichotomy q m with hlt | heq | hgt
    · have := (hd.pairT m q i j hi hq hlt).1
      simp [okPair, ho, hj, h1, h2] at this
    · exact heq
    · have := hd.pairF m q i j hi hq hgt
      simp [okPair, ho, hj, h1, h2] at this
  refine ⟨by simp [h.size], fun k hk => ?_, fun j oj hj hl e he hb => ?_, by rw [put_defers]; exact h.nodef, by rw [put_size]; exact h.tsize, hcalls, hms, hs, hf, fun q j oj d hq hl hj hdst => ?_, fun t ht => ?_⟩
  · rw [getD_set_other (by omega)]; exact h.tail k hk
  · rcases hget hl with rfl | hl
    · rw [ho] at hj; cases hj
      exact hkeep (hdeps e he hb)
    · exact hkeep (h.closed j oj hj hl e he hb)
  · rcases hget hl with rfl | hl
    · rw [ho] at hj; cases hj
      have := hd.nd m q j hi hq
      subst this
      rw [hdst] at hok ⊢
      rw [put_getD_eq (by rw [h.tsize]; exact Nat.lt_of_succ_le (Nat.le_of_ble_eq_true hok))]
      exact hv
    · by_cases he : o.dst = some d
      · have := hdd hq hj hdst he
        subst this
        rw [hi] at hq; cases hq
        rw [getD_in' hil] at hl
        rw [show (!false) = true from rfl, hu] at hl; cases hl
      · rw [put_getD_ne he]
        exact (h.done q j oj d hq hl hj hdst).pre hp
  · have hne : o.dst ≠ some t := ht m i o hi (getD_set_self hil) ho
    rw [put_getD_ne hne]
    exact (h.rest t fun q j oj hq hl hj => ht q j oj hq (hkeep hl) hj).pre hp

theorem head_any (hd : Draw ops nh c) (h0 : ss 0 = s) (hss : ∀ (m i : Nat), c[m]? = some i → ∃ o, ops[i]? = some o ∧ StepOK P n ops o (ss m) (αs m) (Ns m) ∧ (ss (m + 1)).L = (ss m).L ++ Ns m ∧ EnvEq (ss (m + 1)).env (envPut (ss m).env o.dst (αs m)))
    {Q : Exit → Act → World → Prop} {g : Nat}
    (hfin : ∀ (listed : Array Bool) (a : Act) (w : World) (σ : List Value) (ms : Nat), HInv w0 σ0 L0 n ops nh c s ss αs listed a w σ ms → (∀ i, i < nh → listed.getD i true = true) → wpAny P .any ops.toArray Q g listed a w) :
    ∀ (f : Nat) (listed : Array Bool) (a : Act) (w : World) (σ : List Value) (ms : Nat), unl listed nh = f → HInv w0 σ0 L0 n ops nh c s ss αs listed a w σ ms → wpAny P .any ops.toArray Q (f + g) listed a w := by
  intro f
  induction f with
  | zero =>
    intro listed a w σ ms hf h
    rw [Nat.zero_add]
    exact hfin listed a w σ ms h (unl_zero hf)
  | succ f ih =>
    intro listed a w σ ms hf h
    rw [show f + 1 + g = (f + g) + 1 by omega]
    obtain ⟨i0, hi0, hu0, hmin⟩ := min_unl (listed := listed) (k := nh) (by omega)
    have hlt0 : i0 < ops.length := Nat.lt_of_lt_of_le hi0 hd.le
    refine ⟨fun hr => ?_, fun i hr => ?_⟩
    · have : i0 ∈ Region.ready .any ops.toArray listed := by
        rw [mem_ready']
        refine ⟨hu0, ops[i0], List.getElem?_eq_getElem hlt0, fun e he hb => ?_⟩
        have hlt := hd.back i0 _ (List.getElem?_eq_getElem hlt0) e he hb
        have := hmin e.on hlt
        rwa [getD_in' (by rw [h.size]; omega)] at this
      rw [hr] at this; cases this
    · obtain ⟨hu, o, ho, hdeps⟩ := mem_ready'.1 hr
      have hil : i < ops.length := (List.getElem?_eq_some_iff.1 ho).1
      have hio : ∀ o', ops[i]? = some o' → ∀ e ∈ o'.after, Region.binds .any e = true → listed.getD e.on false = true := fun o' ho' => by rw [ho] at ho'; cases ho'; exact hdeps
      -- it is one of the head
      have hin : i < nh := by
        rcases Nat.lt_trichotomy i nh with h1 | h1 | h1
        · exact h1
        · subst h1
          have := reach_listed h.closed _ _ _ (hd.sink hil i0 hi0) hio
          rw [getD_in' (by rw [h.size]; omega)] at hu0
          rw [show (!true) = false from rfl, this] at hu0; cases hu0
        · have := dep_listed (hd.chain i h1 hil) hio
          rw [h.tail (i - 1) (by omega)] at this; cases this
      obtain ⟨m, hm⟩ := hd.full i hin
      obtain ⟨o', ho', hst, hL, hE⟩ := hss m i hm
      rw [ho] at ho'; cases ho'
      have hml : m < c.length := (List.getElem?_eq_some_iff.1 hm).1
      have hiu : listed.getD i false = false := by rw [getD_in' (by rw [h.size]; exact hil)]; exact hu
      -- calls before it are done
      have hcb : ∀ (q j : Nat), c[q]? = some j → q < m → isCall ops j = true → q < ms := fun q j hq hlt hc => by
        have hr := (hd.pairT m q i j hm hq hlt).2 hc
        exact (h.calls q j hq hc).1 (reach_listed h.closed _ _ _ hr hio)
      -- what it looks at is as told
      have hlook : ∀ {σ' : List Value}, Pre σ σ' → ∀ t, t ∈ looks ops o → RelV σ' (envGet (ss m).env t) (a.tmps.getD t undef) := fun {σ'} hp t ht => by
        refine RelV.pre hp ?_
        rcases env_at hd h0 hss t m (by omega) with ⟨q, j, oj, g1, g2, g3, g4, g5⟩ | ⟨g1, g2⟩
        · rw [g5]
          have hpair := (hd.pairT m q i j hm g2 g1).1
          have hdep : dep ops i j = true := by
            simp only [okPair, ho, g3, g4, Bool.and_eq_true, Bool.or_eq_true, Bool.not_eq_true', cond_true] at hpair
            rcases hpair.1 with h5 | h5
            · have : (looks ops o).contains t = true := by simpa using ht
              rw [this] at h5; cases h5
            · exact h5
          exact h.done q j oj t g2 (dep_listed hdep hio) g3 g4
        · rw [g2]
          refine h.rest t fun q j oj hq hl hj hdst => ?_
          rcases Nat.lt_trichotomy q m with hlt | heq | hgt
          · exact g1 q j oj hlt hq hj hdst
          · subst heq; rw [hm] at hq; cases hq; rw [hiu] at hl; cases hl
          · have hpair := hd.pairF m q i j hm hq hgt
            simp only [okPair, ho, hj, hdst, Bool.and_eq_true, Bool.or_eq_true, Bool.not_eq_true', cond_false] at hpair
            rcases hpair.1 with h5 | h5
            · have : (looks ops o).contains t = true := by simpa using ht
              rw [this] at h5; cases h5
            · have := dep_listed h5 fun o' ho' => h.closed j o' ho' hl
              rw [hiu] at this; cases this
      have hunl : unl (listed.setIfInBounds i true) nh = f := by
        have := (unl_set (listed := listed) (i := i) (by rw [h.size]; exact hil) hu nh).1 hin
        omega
      have hset : ∀ (q j : Nat), c[q]? = some j → isCall ops i = false → isCall ops j = true → ((listed.setIfInBounds i true).getD j false = true ↔ q < ms) := fun q j hq hci hcj => by
        have : i ≠ j := fun e => by subst e; rw [hci] at hcj; cases hcj
        rw [getD_set_other this]; exact h.calls q j hq hcj
      unfold wpOp
      simp only [List.getElem?_toArray, ho]
      cases hcl : callLike o.op
      · -- no call
        have hci : isCall ops i = false := by simp [isCall, ho, hcl]
        obtain ⟨hN, hq⟩ := hst.2.1 hcl
        obtain ⟨X, hX⟩ : ∃ X, (ss ms).L = (ss m).L ++ X := by
          rcases Nat.le_total m ms with hle | hle
          · obtain ⟨X, h1, _⟩ := L_mono m hss ms hle h.ms_le
            exact ⟨X, h1⟩
          · obtain ⟨X, h1, h2⟩ := L_mono ms hss m hle (by omega)
            rw [h2 (fun q j ha hb hj => by
              cases hc : isCall ops j
              · rfl
              · have := hcb q j hj hb hc; omega)] at h1
            exact ⟨[], by rw [h1]; simp⟩
        have hs := h.sat
        rw [hX] at hs
        rcases hq X σ a w hs (hlook (Pre.refl σ)) with ⟨hw, hα⟩ | ⟨hw, v, d, hrun, hv⟩
        · rw [hw]
          simp only [Bool.false_eq_true, if_false]
          refine ih _ _ _ σ ms hunl (h.step hd hss hm ho hu hdeps hst.1 h.ms_le (fun q j hq hc => hset q j hq hci hc) h.sat h.fr (Pre.refl σ) (by rw [hα]; rfl))
        · rw [hw]
          simp only [if_true]
          left
          unfold Oper.wp
          rw [hrun, Oper.upon_value]
          exact ih _ _ _ σ ms hunl (h.step hd hss hm ho hu hdeps hst.1 h.ms_le (fun q j hq hc => hset q j hq hci hc) (h.sat.ext (Ext.drewN w d)) (h.fr.trans (Ext.drewN w d).fr) (Pre.refl σ) hv)
      · -- a call
        have hci : isCall ops i = true := by simp [isCall, ho, hcl]
        have hmm : ms ≤ m := by
          rcases Nat.lt_or_ge m ms with hlt | hge
          · have := (h.calls m i hm hci).2 hlt
            rw [hiu] at this; cases this
          · exact hge
        have hLe : (ss m).L = (ss ms).L := by
          obtain ⟨X, h1, h2⟩ := L_mono ms hss m hmm (by omega)
          rw [h2 (fun q j ha hb hj => by
            cases hc : isCall ops j
            · rfl
            · have := hcb q j hj hb hc; omega)] at h1
          simpa using h1
        have hs := h.sat
        have hfr := h.fr
        rw [← hLe] at hs hfr
        have hcalls' : ∀ (q j : Nat), c[q]? = some j → isCall ops j = true → ((listed.setIfInBounds i true).getD j false = true ↔ q < m + 1) := fun q j hq hc => by
          by_cases he : i = j
          · subst he
            have := hd.nd q m i hq hm
            subst this
            rw [getD_set_self (by rw [h.size]; exact hil)]; simp
          · rw [getD_set_other he, h.calls q j hq hc]
            refine ⟨fun h1 => by omega, fun h1 => ?_⟩
            have hqm : q ≠ m := fun e => by subst e; rw [hm] at hq; cases hq; exact he rfl
            exact hcb q j hq (by omega) hc
        rcases hst.2.2.1 hcl σ a w hs (hlook (Pre.refl σ)) with ⟨hw, hα, hN⟩ | ⟨hw, hwp⟩
        · rw [hw]
          simp only [Bool.false_eq_true, if_false]
          have hL1 : (ss (m + 1)).L = (ss m).L := by rw [hL, hN]; simp
          refine ih _ _ _ σ (m + 1) hunl (h.step hd hss hm ho hu hdeps hst.1 (by omega) hcalls' (by rw [hL1]; exact hs) (by rw [hL1]; exact hfr) (Pre.refl σ) (by rw [hα]; rfl))
        · rw [hw]
          simp only [if_true]
          left
          refine hwp _ _ fun v τ w' p1 p2 p3 => ?_
          exact ih _ _ _ (σ ++ τ) (m + 1) hunl (h.step hd hss hm ho hu hdeps hst.1 (by omega) hcalls' (by rw [hL]; exact p1) (by rw [hL]; exact hfr.trans p2) (Pre.app _ _) p3)

end main

/-- The tail: one after another. -/
theorem tail_any (hty : TyOK P ty) {ops : List Oper} {nh : Nat} {c : List Nat} (hd : Draw ops nh c) {Q : Exit → Act → World → Prop} {K : St → Prop} (hK : ∀ s' σ' a' w', K s' → At w0 σ0 L0 n s' σ' a' w' → Q .normal a' w') :
    ∀ (r : List Oper) (k : Nat) (s : St) (σ : List Value) (a : Act) (w : World) (listed : Array Bool), nh ≤ k → ops.drop k = r → (r ≠ [] ∨ k = ops.length) → listed.size = ops.length → (∀ i, i < ops.length → listed.getD i true = decide (i < k)) →
      vOps P ty n σ0.length ops k r s K → At w0 σ0 L0 n s σ a w → wpAny P .any ops.toArray Q r.length listed a w
  | [], k, s, σ, a, w, listed, hk, hr, hne, hsz, hl, h, hA => by
    have hkl : k = ops.length := hne.resolve_left (fun h => h rfl)
    refine ⟨?_, hK s σ a w h hA⟩
    rw [List.eq_nil_iff_forall_not_mem]
    intro i hi
    obtain ⟨hu, o, ho, _⟩ := mem_ready'.1 hi
    have hil := (List.getElem?_eq_some_iff.1 ho).1
    rw [hl i hil] at hu
    simp at hu; omega
  | o :: r, k, s, σ, a, w, listed, hk, hr, hne, hsz, hl, h, hA => by
    have hok : ops[k]? = some o := by
      have : (ops.drop k)[0]? = some o := by rw [hr]; rfl
      simpa using this
    have hkl : k < ops.length := (List.getElem?_eq_some_iff.1 hok).1
    have hdr : ops.drop (k + 1) = r := by
      rw [show k + 1 = 1 + k by omega, Nat.add_comm 1 k, ← List.drop_drop, hr]; rfl
    have hne' : r ≠ [] ∨ k + 1 = ops.length := by
      cases r with
      | nil =>
        right
        have := congrArg List.length hdr
        simp at this; omega
      | cons x xs => left; simp
    have hl' : ∀ i, i < ops.length → (listed.setIfInBounds k true).getD i true = decide (i < k + 1) := fun i hi => by
      by_cases he : k = i
      · subst he; rw [getD_set_self (by rw [hsz]; exact hkl)]; simp
      · rw [getD_set_other he, hl i hi]
        simp; omega
    have honly : ∀ i, i ∈ Region.ready .any ops.toArray listed → i = k := fun i hi => by
      obtain ⟨hu, oi, hoi, hdeps⟩ := mem_ready'.1 hi
      have hil := (List.getElem?_eq_some_iff.1 hoi).1
      rw [hl i hil] at hu
      simp at hu
      rcases Nat.lt_or_ge k i with hlt | hge
      · have := dep_listed (hd.chain i (by omega) hil) (listed := listed) fun o' ho' => by rw [hoi] at ho'; cases ho'; exact hdeps
        rw [getD_in' (by rw [hsz]; omega)] at this
        rw [show (!false) = true from rfl, hl (i - 1) (by omega)] at this
        simp at this; omega
      · omega
    have hready : k ∈ Region.ready .any ops.toArray listed := by
      rw [mem_ready']
      refine ⟨by rw [hl k hkl]; simp, o, hok, fun e he hb => ?_⟩
      have hlt := hd.back k o hok e he hb
      rw [getD_in' (by rw [hsz]; omega), show (!false) = true from rfl, hl e.on (by omega)]
      simp; exact hlt
    refine ⟨fun h0 => (by rw [h0] at hready; cases hready), fun i hi => ?_⟩
    have := honly i hi
    subst this
    unfold wpOp
    simp only [List.getElem?_toArray, hok]
    simp only [vOps] at h
    split at h
    · rename_i hw
      rw [if_pos (wants_sound hw fun _ _ _ d _ _ _ => hA.env d)]
      left
      refine vOp_sound hty h hA fun s' σ' a' w' hk' hA' => ?_
      rw [norm_iff] at hk'
      cases hg : isGuard ops i
      · simp only [hg, cond_false] at hk'
        exact tail_any hty hd hK r (i + 1) s' σ' a' w' _ (by omega) hdr hne' (by simp [hsz]) hl' hk' hA'
      · simp only [hg, cond_true] at hk'
        obtain ⟨s'', hk'', hA''⟩ := settle_sound hk' hA'
        exact tail_any hty hd hK r (i + 1) s'' σ' a' w' _ (by omega) hdr hne' (by simp [hsz]) hl' hk'' hA''
    · rename_i hw
      rw [if_neg (by rw [wants_sound hw fun _ _ _ d _ _ _ => hA.env d]; simp)]
      cases hdo : okDst n o.dst
      · simp [hdo] at h
      · simp only [hdo, cond_true] at h
        exact tail_any hty hd hK r (i + 1) _ σ _ w _ (by omega) hdr hne' (by simp [hsz]) hl' h (hA.put hdo (α := one (.ex undef)) rfl)
    · exact h.elim

theorem drew_eq (w : World) : ({ w with drawn := w.drawn + 1 } : World) = w.drewN 1 := rfl

theorem vDraw_sound (hty : TyOK P ty) (hmix : P.follows .mixedOrders = true) {id : Nat} {ops : List Oper} {nh : Nat} {c : List Nat} {s : St} {K : St → Prop} (h : vDraw P ty n σ0.length ops nh c s K) {Q : Exit → Act → World → Prop}
    (hK : ∀ s' σ' a' w', K s' → At w0 σ0 L0 n s' σ' a' w' → Q .normal a' w') {σ : List Value} {a : Act} {w : World} (hA : At w0 σ0 L0 n s σ a w) : (Code.region id ops.toArray true).wp P Q a w := by
  obtain ⟨hok, hv⟩ := h
  have hd := okDraw_spec hok
  obtain ⟨ss, αs, Ns, h0, ⟨sf, hfe, hfL, hfK⟩, hss⟩ := vHead_trace hty c s _ hv
  have hA1 := hA.ext (Ext.drewN w 1)
  refine wp_region_any hmix ?_
  rw [drew_eq]
  have hrep : ∀ (k : Nat), (Array.replicate ops.length false).getD k false = false := fun k => by
    simp [Array.getD_eq_getD_getElem?, Array.getElem?_replicate]; split <;> rfl
  have hinit : HInv w0 σ0 L0 n ops nh c s ss αs (Array.replicate ops.length false) a (w.drewN 1) σ 0 := by
    refine ⟨by simp, fun k _ => hrep k, fun i o _ hl => (by rw [hrep] at hl; cases hl), hA1.nodef, hA1.size, fun m i _ _ => ⟨fun hl => (by rw [hrep] at hl; cases hl), fun hl => by omega⟩, Nat.zero_le _, by rw [h0]; exact hA1.sat, by rw [h0]; exact hA1.fr,
      fun m i o d _ hl => (by rw [hrep] at hl; cases hl), fun t _ => hA1.env t⟩
  have hun : unl (Array.replicate ops.length false) nh = nh := by
    unfold unl
    rw [List.filter_eq_self.2]
    · simp
    · intro i hi
      have hi' : i < ops.length := Nat.lt_of_lt_of_le (List.mem_range.1 hi) hd.le
      simp [Array.getD_eq_getD_getElem?, Array.getElem?_replicate, hi']
  have key := head_any (P := P) (n := n) (w0 := w0) (σ0 := σ0) (L0 := L0) (Q := Q) (g := ops.length - nh) hd h0 hss (fun listed a' w' σ' ms hI hall => ?_) nh _ a (w.drewN 1) σ 0 hun hinit
  · rw [show nh + (ops.length - nh) = ops.length by have := hd.le; omega] at key
    simpa using key
  · have hcl := hd.len
    have hLe : (ss c.length).L = (ss ms).L := by
      obtain ⟨X, h1, h2⟩ := L_mono ms hss c.length hI.ms_le (Nat.le_refl _)
      rw [h2 (fun q j hq hb hj => by
        cases hc : isCall ops j
        · rfl
        · have hlt := hd.lt q j hj
          have h3 := hall j hlt
          rw [getD_in' (by rw [hI.size]; have := hd.le; omega)] at h3
          have := (hI.calls q j hj hc).1 h3
          omega)] at h1
      simpa using h1
    have hAf : At w0 σ0 L0 n sf σ' a' w' := by
      refine ⟨by rw [hfL, hLe]; exact hI.sat, by rw [hfL, hLe]; exact hI.fr, fun t => ?_, hI.nodef, hI.tsize⟩
      rw [hfe t]
      rcases env_at hd h0 hss t c.length (Nat.le_refl _) with ⟨q, j, oj, g1, g2, g3, g4, g5⟩ | ⟨g1, g2⟩
      · rw [g5]
        have h3 := hall j (hd.lt q j g2)
        rw [getD_in' (by rw [hI.size]; have := hd.le; have := hd.lt q j g2; omega)] at h3
        exact hI.done q j oj t g2 h3 g3 g4
      · rw [g2]
        exact hI.rest t fun q j oj hq _ hj => g1 q j oj (List.getElem?_eq_some_iff.1 hq).1 hq hj
    have := tail_any hty hd hK (ops.drop nh) nh sf σ' a' w' listed (Nat.le_refl _) rfl (by
      by_cases he : nh = ops.length
      · exact .inr he
      · left; intro e
        have := congrArg List.length e
        simp at this
        have := hd.le; omega) hI.size (fun i hi => by
        by_cases hlt : i < nh
        · rw [hall i hlt]; simp [hlt]
        · have := hI.tail i (by omega)
          rw [getD_in' (by rw [hI.size]; exact hi)] at this
          simp only [Bool.not_false] at this
          rw [this]; simp [hlt]) hfK hAf
    rwa [List.length_drop] at this

end
end
end Go.AX
