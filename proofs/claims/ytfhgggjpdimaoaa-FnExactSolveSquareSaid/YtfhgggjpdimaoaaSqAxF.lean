/- A symbolic walk over the code of one function, and that it tells no more than the model does: no condition. -/
import Derived.Test.YtfhgggjpdimaoaaSqAxE
set_option linter.unusedVariables false
set_option linter.unusedSimpArgs false
namespace Go.AX
noncomputable section
open Go.RowKit
section
variable {P : Program} {ty : TyT}

/-- What holds between the beginning of a call and a point in it. -/
structure At (w0 : World) (σ0 : List Value) (L0 : List Ent) (n : Nat) (s : St) (σ : List Value) (a : Act) (w : World) : Prop where
  sat : SatL σ s.L w
  fr : Fr w0 σ0 L0 w σ s.L
  env : EnvOK σ s.env a
  nodef : a.defers = []
  size : a.tmps.size = n

def okDst (n : Nat) : Option Nat → Bool
  | none => true
  | some d => Nat.blt d n

theorem put_defers (a : Act) (d : Option Nat) (v : Value) : (a.put d v).defers = a.defers := by cases d <;> rfl
theorem put_size (a : Act) (d : Option Nat) (v : Value) : (a.put d v).tmps.size = a.tmps.size := by cases d <;> simp [Act.put]

theorem EnvOK.put {σ : List Value} {env : List (Nat × AV)} {a : Act} (h : EnvOK σ env a) {n : Nat} (hn : a.tmps.size = n) {d : Option Nat} (hd : okDst n d = true) {α : AV} {v : Value} (hr : RelV σ α v) : EnvOK σ (envPut env d α) (a.put d v) := by
  cases d with
  | none => exact h
  | some d =>
    have hlt : d < a.tmps.size := by rw [hn]; exact Nat.lt_of_succ_le (Nat.le_of_ble_eq_true hd)
    intro t
    simp only [envPut, envGet, Act.put]
    cases hb : Nat.beq d t
    · have : d ≠ t := fun e => by subst e; simp at hb
      simp only [cond_false]
      have := h t
      rw [Array.getD_eq_getD_getElem?] at this ⊢
      rw [Array.getElem?_setIfInBounds_ne (by assumption)]
      exact this
    · have : d = t := Nat.eq_of_beq_eq_true hb
      subst this
      simp only [cond_true]
      rw [Array.getD_eq_getD_getElem?, Array.getElem?_setIfInBounds_self_of_lt hlt]
      exact hr

theorem EnvOK.pre {σ σ' : List Value} (hp : Pre σ σ') {env : List (Nat × AV)} {a : Act} (h : EnvOK σ env a) : EnvOK σ' env a := fun t => (h t).pre hp

theorem setRow_os (w : World) (g : Nat) (cs : Array Value) : (w.setRow g cs).os = w.os ∧ (w.setRow g cs).tape = w.tape ∧ (w.setRow g cs).output = w.output ∧ (w.setRow g cs).heap.size = w.heap.size := ⟨rfl, rfl, rfl, by simp [World.setRow]⟩

theorem run_storeAt (hty : TyOK P ty) {T : TypeId} {ti : TI} (hT : ty T = some ti) (g o : Nat) (T' : TypeId) (v : Value) (vs : List Value) (hv : v.cells = vs.toArray) (hl : vs.length = ti.size) (cur : Array Value) (w : World)
    (hg : w.heap[g]? = some (.cells cur T' (0, 0))) (hfit : o + vs.length ≤ cur.size) (h1 : ∀ u ∈ vs, u.oneCell' = true) :
    (Instr.storeAt T (.pointer (some ⟨g, o, none⟩)) v).run P w = .ok () (w.setRow g (cur.toList.take o ++ vs ++ cur.toList.drop (o + vs.length)).toArray) := by
  have hrun := run_storeCells_at P g o T' vs 0 cur w hg (by simpa using hfit) h1
  simp only [Nat.add_zero] at hrun
  simp [Instr.storeAt, Instr.sureAddr, storeVar, run_size hty hT, hv, hl]
  rw [hl] at hrun
  simpa using hrun

theorem put_get {D D' : Dat} {i j : Nat} {cs : List AC} (h : D.put i j cs = some D') : D'.sz = D.sz ∧ D'.len = D.len ∧ j + cs.length ≤ D.sz ∧
    (∀ i' j', i' < D.len → j' < D.sz → (i' ≠ i ∨ j' < j ∨ j + cs.length ≤ j') → D'.cell i' j' = D.cell i' j') ∧ (∀ q c, cs[q]? = some c → i < D.len → D'.cell i (j + q) = c) := by
  have gs : ∀ {α : Type} (xs : List α) (i i' : Nat) (x d : α), i' ≠ i → (xs.set i x).getD i' d = xs.getD i' d := fun xs i i' x d h => by
    simp [List.getD, List.getElem?_set_ne (Ne.symm h)]
  have ge : ∀ {α : Type} (xs : List α) (i : Nat) (x d : α), i < xs.length → (xs.set i x).getD i d = x := fun xs i x d h => by
    simp [List.getD, h]
  unfold Dat.put at h
  split at h <;> first | (cases h; done) | skip
  · cases h
    refine ⟨rfl, by simp [Dat.len], by simp [Dat.sz], fun i' j' hi hj hor => ?_, fun q c hq hi => ?_⟩
    · simp only [Dat.sz, List.length_cons, List.length_nil] at hj hor
      simp only [Dat.cell]; rw [gs _ _ _ _ _ (by omega)]
    · cases q <;> simp at hq
      subst hq
      simp only [Dat.len] at hi
      simp only [Dat.cell]; rw [ge _ _ _ _ hi]
  · cases h
    refine ⟨rfl, by simp [Dat.len], by simp [Dat.sz], fun i' j' hi hj hor => ?_, fun q c hq hi => ?_⟩
    · simp only [Dat.sz, List.length_cons, List.length_nil] at hj hor
      simp only [Dat.cell]; rw [gs _ _ _ _ _ (by omega)]
    · cases q <;> simp at hq
      subst hq
      simp only [Dat.len] at hi
      simp only [Dat.cell]; rw [ge _ _ _ _ hi]
  · cases h
    refine ⟨rfl, by simp [Dat.len], by simp [Dat.sz], fun i' j' hi hj hor => ?_, fun q c hq hi => ?_⟩
    · simp only [Dat.sz, List.length_cons, List.length_nil] at hj hor
      simp only [Dat.cell]; rw [gs _ _ _ _ _ (by omega)]
    · simp only [Dat.len] at hi
      match q, hq with
      | 0, hq => simp at hq; subst hq; simp only [Dat.cell]; rw [ge _ _ _ _ hi]
      | 1, hq => simp at hq; subst hq; simp only [Dat.cell]; rw [ge _ _ _ _ hi]
      | q + 2, hq => simp at hq
  · cases h
    refine ⟨rfl, by simp [Dat.len], by simp [Dat.sz], fun i' j' hi hj hor => ?_, fun q c hq hi => ?_⟩
    · simp only [Dat.sz, List.length_cons, List.length_nil] at hj hor
      simp only [Dat.len] at hi
      by_cases hii : i' = i
      · subst hii
        have : j' = 1 := by omega
        subst this
        simp only [Dat.cell]; rw [ge _ _ _ _ hi]
      · simp only [Dat.cell]; rw [gs _ _ _ _ _ hii]
    · simp only [Dat.len] at hi
      cases q <;> simp at hq
      subst hq
      simp only [Dat.cell]; rw [ge _ _ _ _ hi]
  · cases h
    refine ⟨rfl, by simp [Dat.len], by simp [Dat.sz], fun i' j' hi hj hor => ?_, fun q c hq hi => ?_⟩
    · simp only [Dat.sz, List.length_cons, List.length_nil] at hj hor
      simp only [Dat.len] at hi
      by_cases hii : i' = i
      · subst hii
        have : j' = 0 := by omega
        subst this
        simp only [Dat.cell]; rw [ge _ _ _ _ hi]
      · simp only [Dat.cell]; rw [gs _ _ _ _ _ hii]
    · simp only [Dat.len] at hi
      cases q <;> simp at hq
      subst hq
      simp only [Dat.cell]; rw [ge _ _ _ _ hi]
  · cases h
    refine ⟨rfl, by simp [Dat.len], by simp [Dat.sz], fun i' j' hi hj hor => ?_, fun q c hq hi => ?_⟩
    · simp only [Dat.sz, List.length_cons, List.length_nil] at hj hor
      simp only [Dat.cell]; rw [gs _ _ _ _ _ (by omega)]
    · simp only [Dat.len] at hi
      match q, hq with
      | 0, hq => simp at hq; subst hq; simp only [Dat.cell]; rw [ge _ _ _ _ hi]
      | 1, hq => simp at hq; subst hq; simp only [Dat.cell]; rw [ge _ _ _ _ hi]
      | 2, hq => simp at hq; subst hq; simp only [Dat.cell]; rw [ge _ _ _ _ hi]
      | q + 3, hq => simp at hq

theorem splice_get {us vs : List Value} {p : Nat} (h : p + vs.length ≤ us.length) (q : Nat) : (us.take p ++ vs ++ us.drop (p + vs.length))[q]? = if p ≤ q ∧ q < p + vs.length then vs[q - p]? else us[q]? := by
  have hp : (us.take p).length = p := by simp; omega
  split
  · rename_i hq
    rw [List.append_assoc, List.getElem?_append_right (by omega), hp, List.getElem?_append_left (by omega)]
  · rename_i hq
    by_cases hlt : q < p
    · rw [List.append_assoc, List.getElem?_append_left (by omega), List.getElem?_take, if_pos hlt]
    · rw [List.getElem?_append_right (by simp; omega), List.getElem?_drop]
      congr 1; simp; omega

theorem relD_put {D D' : Dat} {i j : Nat} {cs : List AC} (h : D.put i j cs = some D') (hi : i < D.len) {us vs : List Value} (hu : RelD D us) (hl : us.length = D.len * D.sz) {σ : List Value} (hv : RelCs σ cs vs) :
    RelD D' (us.take (i * D.sz + j) ++ vs ++ us.drop (i * D.sz + j + vs.length)) ∧ i * D.sz + j + vs.length ≤ us.length := by
  obtain ⟨h1, h2, h3, h4, h5⟩ := put_get h
  have hvl := hv.len
  have hfit : i * D.sz + j + vs.length ≤ us.length := by
    rw [hl]
    calc i * D.sz + j + vs.length ≤ i * D.sz + D.sz := by omega
      _ = (i + 1) * D.sz := by rw [Nat.add_mul]; omega
      _ ≤ D.len * D.sz := Nat.mul_le_mul_right _ hi
  refine ⟨fun i' j' hi' hj' => ?_, hfit⟩
  rw [h1] at hj' ⊢
  rw [h2] at hi'
  rw [splice_get hfit]
  split
  · rename_i hq
    have hii : i' = i := by
      rcases Nat.lt_trichotomy i' i with hlt | heq | hgt
      · have : (i' + 1) * D.sz ≤ i * D.sz := Nat.mul_le_mul_right _ hlt
        rw [Nat.add_mul] at this; omega
      · exact heq
      · have : (i + 1) * D.sz ≤ i' * D.sz := Nat.mul_le_mul_right _ hgt
        rw [Nat.add_mul] at this; omega
    subst hii
    obtain ⟨q, rfl⟩ : ∃ q, j' = j + q := ⟨j' - j, by omega⟩
    have hq' : q < cs.length := by omega
    obtain ⟨u, h6, h7⟩ := hv.get (List.getElem?_eq_getElem hq')
    refine ⟨u, ?_, ?_⟩
    · rw [← h6]; congr 1; omega
    · have e := h5 q _ (List.getElem?_eq_getElem hq') hi
      rw [← e] at h7
      exact relC_dat h7
  · rename_i hq
    rw [h4 i' j' hi' hj' (by
      by_cases hii : i' = i
      · subst hii; right; omega
      · left; exact hii)]
    exact hu i' j' hi' hj'

theorem kill_rel {σ : List Value} {k : Nat} {v' : Value} {c : AC} {u : Value} (h : RelC σ c u) : RelC (σ.set k v') (c.kill k) u := by
  have gs : ∀ (i : Nat), Nat.beq i k = false → (σ.set k v')[i]? = σ[i]? := fun i hi => by
    rw [List.getElem?_set_ne]; intro e; subst e; simp at hi
  have gp : ∀ {ks : List Nat} {us : List Value}, ks.contains k = false → RelPs σ ks us → RelPs (σ.set k v') ks us := by
    intro ks
    induction ks with
    | nil => intro us _ h; cases us; exact trivial; exact h.elim
    | cons q qs ih =>
      intro us hc h
      cases us with
      | nil => exact h.elim
      | cons u us =>
        simp only [List.contains_cons, Bool.or_eq_false_iff] at hc
        obtain ⟨⟨g, h1, h2⟩, h3⟩ := h
        refine ⟨⟨g, ?_, h2⟩, ih hc.2 h3⟩
        rw [List.getElem?_set_ne]
        · exact h1
        · intro e; subst e; simp at hc
  cases c with
  | sl k' =>
    simp only [AC.kill]
    cases hb : Nat.beq k' k
    · exact ⟨by rw [gs _ hb]; exact h.1, h.2⟩
    · exact trivial
  | pe k' sz i j =>
    simp only [AC.kill]
    cases hb : Nat.beq k' k
    · obtain ⟨ad, n, c, h1, h2⟩ := h; exact ⟨ad, n, c, by rw [gs _ hb]; exact h1, h2⟩
    · exact trivial
  | pv k' j =>
    simp only [AC.kill]
    cases hb : Nat.beq k' k
    · obtain ⟨g, h1, h2⟩ := h; exact ⟨g, by rw [gs _ hb]; exact h1, h2⟩
    · exact trivial
  | sv k' n =>
    simp only [AC.kill]
    cases hb : Nat.beq k' k
    · obtain ⟨g, h1, h2⟩ := h; exact ⟨g, by rw [gs _ hb]; exact h1, h2⟩
    · exact trivial
  | sw k' n c =>
    simp only [AC.kill]
    cases hb : Nat.beq k' k
    · obtain ⟨g, h1, h2⟩ := h; exact ⟨g, by rw [gs _ hb]; exact h1, h2⟩
    · exact trivial
  | fn f fs cs =>
    simp only [AC.kill]
    cases hb : (fs.contains k || cs.contains k)
    · rw [Bool.or_eq_false_iff] at hb
      obtain ⟨us, vs, h1, h2, h3⟩ := h
      exact ⟨us, vs, h1, gp hb.1 h2, gp hb.2 h3⟩
    · exact trivial
  | any => exact h
  | ex v => exact h
  | fl k x => exact h
  | cx k x y => exact h
  | bt x => exact h
  | e0 => exact h

theorem kill_rels {σ : List Value} {k : Nat} {v' : Value} : ∀ {cs : List AC} {us : List Value}, RelCs σ cs us → RelCs (σ.set k v') (cs.map (AC.kill k)) us
  | [], [], _ => trivial
  | _ :: _, _ :: _, ⟨h1, h2⟩ => ⟨kill_rel h1, kill_rels h2⟩
  | [], _ :: _, h => h.elim
  | _ :: _, [], h => h.elim
theorem kill_relA {σ : List Value} {k : Nat} {v' : Value} {x : A1} {u : Value} (h : RelA σ x u) : RelA (σ.set k v') (x.kill k) u := by
  cases x with
  | one c => exact kill_rel h
  | agg cs => obtain ⟨us, h1, h2⟩ := h; exact ⟨us, h1, kill_rels h2⟩
theorem kill_relAs {σ : List Value} {k : Nat} {v' : Value} : ∀ {cs : List A1} {us : List Value}, RelAs σ cs us → RelAs (σ.set k v') (cs.map (A1.kill k)) us
  | [], [], _ => trivial
  | _ :: _, _ :: _, ⟨h1, h2⟩ => ⟨kill_relA h1, kill_relAs h2⟩
  | [], _ :: _, h => h.elim
  | _ :: _, [], h => h.elim
theorem kill_relV {σ : List Value} {k : Nat} {v' : Value} {x : AV} {u : Value} (h : RelV σ x u) : RelV (σ.set k v') (x.kill k) u := by
  cases x with
  | v x => exact kill_relA h
  | tup xs => obtain ⟨us, h1, h2⟩ := h; exact ⟨us, h1, kill_relAs h2⟩
theorem kill_get (k : Nat) : ∀ (env : List (Nat × AV)) (t : Nat), envGet (envKill k env) t = (envGet env t).kill k
  | [], _ => rfl
  | (t', α) :: r, t => by
    simp only [envKill, List.map_cons, envGet]
    cases Nat.beq t' t
    · exact kill_get k r t
    · rfl
theorem kill_env {σ : List Value} {k : Nat} {v' : Value} {env : List (Nat × AV)} {a : Act} (h : EnvOK σ env a) : EnvOK (σ.set k v') (envKill k env) a := fun t => by
  rw [kill_get]; exact kill_relV (h t)
theorem kill_ownB (k : Nat) (E : Ent) (v : Value) : ownB (E.kill k) v = ownB E v ∧ blkB (E.kill k) v = blkB E v := by
  cases E with
  | dead => exact ⟨rfl, rfl⟩
  | var T cs => exact ⟨rfl, rfl⟩
  | arr own T D => exact ⟨rfl, rfl⟩
theorem kill_ent {σ : List Value} {k : Nat} {v' : Value} {E : Ent} {w : World} {v : Value} (h : EntOK σ w E v) : EntOK (σ.set k v') w (E.kill k) v := by
  cases E with
  | dead => trivial
  | var T cs => obtain ⟨g, us, h1, h2, h3⟩ := h; exact ⟨g, us, h1, h2, kill_rels h3⟩
  | arr own T D => cases own <;> exact h

/-- What a step that writes memory comes to. -/
def Writes (P : Program) (w0 : World) (σ0 : List Value) (L0 : List Ent) (n : Nat) (o : Oper) (a : Act) (w : World) (s' : St) : Prop :=
  ∃ v w' σ', ((execOp a.eval o).run P w = .ok (.value v) w' ∨ ((execOp a.eval o).run P w = .ok .skip w' ∧ v = undef)) ∧ At w0 σ0 L0 n s' σ' (a.put o.dst v) w'

theorem mOp_sound (hty : TyOK P ty) {w0 : World} {σ0 : List Value} {L0 : List Ent} {n : Nat} {o : Oper} {s s' : St} {φ : Option Prop} (h : mOp ty σ0.length o.dst s o.op = some (φ, s')) (hφ : owed φ) {σ : List Value} {w : World} {a : Act}
    (hA : At w0 σ0 L0 n s σ a w) (hd : okDst n o.dst = true) : Writes P w0 σ0 L0 n o a w s' := by
  obtain ⟨dst, op, t, pos, after, guard⟩ := o
  simp only at h hd
  have two : ∀ {φ φ' : Option Prop} {s s' : St}, some (φ, s) = some (φ', s') → φ = φ' ∧ s = s' := by
    intro _ _ _ _ h; injection h with h; injection h with h1 h2; exact ⟨h1, h2⟩
  have hs := hA.sat
  unfold mOp at h
  split at h
  · rename_i T x v
    have hx := hA.env.ev x
    have hv := hA.env.ev v
    split at h
    · rename_i ti k j y hT hx' hv'
      rw [hx'] at hx; rw [hv'] at hv
      split at h
      · rename_i T' cs hL
        cases hb : (Nat.beq y.cells.length ti.size && Nat.ble (j + ti.size) cs.length && y.solid && y.cells.all AC.solid)
        · simp [hb] at h
        · simp only [hb, cond_true] at h
          obtain ⟨e1, e2⟩ := two h; subst e1; subst e2
          simp only [Bool.and_eq_true] at hb
          obtain ⟨⟨⟨b1, b2⟩, b3⟩, b4⟩ := hb
          have b1' := Nat.eq_of_beq_eq_true b1
          have b2' : j + ti.size ≤ cs.length := Nat.le_of_ble_eq_true b2
          obtain ⟨g, hg, hxv⟩ := hx
          obtain ⟨g', us, e1, hheap, hrel⟩ := hs.ok _ _ _ hL hg
          have : g = g' := by simp [at0] at e1; exact e1
          subst this
          obtain ⟨vs, hvc, hvr⟩ := cells_rel hv b3
          have hvl := hvr.len
          have hul := hrel.len
          have hone : ∀ u ∈ vs, u.oneCell' = true := by
            intro u hu
            obtain ⟨q, hq⟩ := List.getElem?_of_mem hu
            have hlt : q < y.cells.length := by rw [hvl]; exact (List.getElem?_eq_some_iff.1 hq).1
            obtain ⟨u', h6, h7⟩ := hvr.get (List.getElem?_eq_getElem hlt)
            rw [hq] at h6; cases h6
            exact solid_one h7 (List.all_eq_true.1 b4 _ (List.getElem_mem hlt))
          have hrun := run_storeAt (P := P) hty hT g j T' _ vs hvc (by omega) us.toArray w hheap (by simp; omega) hone
          obtain ⟨q1, q2, q3, q4⟩ := setRow_os w g (us.toArray.toList.take j ++ vs ++ us.toArray.toList.drop (j + vs.length)).toArray
          obtain ⟨p1, p2⟩ := hs.put (w' := w.setRow g (us.toArray.toList.take j ++ vs ++ us.toArray.toList.drop (j + vs.length)).toArray) (E' := .var T' (cs.take j ++ y.cells ++ cs.drop (j + ti.size))) hL hg q1 q2 q3 (by rw [q4]; exact Nat.le_refl _)
            (fun b hb hne => setRow_other w g b _ (fun e => hne (by subst e; rfl)))
            ⟨g, _, rfl, setRow_heap w g us.toArray _ T' _ hheap, by
              have : j + vs.length = j + ti.size := by omega
              rw [this]
              exact ((hrel.take j).app hvr).app (hrel.drop _)⟩ (fun b h => h) (fun b h => h)
          refine ⟨undef, _, σ, .inr ⟨?_, rfl⟩, ⟨p1, hA.fr.trans p2, hA.env.put hA.size hd (α := one .any) trivial, by rw [put_defers]; exact hA.nodef, by rw [put_size]; exact hA.size⟩⟩
          simp only [execOp, hxv, Sem.run_bind, hrun, Result.andThen_ok, Sem.run_pure]
      · cases h
    · rename_i ti k sz i j y hT hx' hv'
      rw [hx'] at hx; rw [hv'] at hv
      split at h
      · rename_i T' D hL
        cases hb : (Nat.beq y.cells.length ti.size && Nat.beq D.sz sz && y.solid)
        · simp [hb] at h
        · simp only [hb, cond_true] at h
          simp only [Bool.and_eq_true] at hb
          obtain ⟨⟨b1, b2⟩, b3⟩ := hb
          have b1' := Nat.eq_of_beq_eq_true b1
          have b2' := Nat.eq_of_beq_eq_true b2
          subst b2'
          split at h
          · rename_i D' hput
            obtain ⟨e1, e2⟩ := two h; subst e1; subst e2
            have hi : i < D.len := hφ
            obtain ⟨ad, m, c, hg, hxv⟩ := hx
            obtain ⟨us, hown, hrel⟩ := hs.ok _ _ _ hL hg
            obtain ⟨vs, hvc, hvr⟩ := cells_rel hv b3
            have hvl := hvr.len
            obtain ⟨d1, d2, d3, d4, d5⟩ := put_get hput
            obtain ⟨r1, r2⟩ := relD_put hput hi hrel hown.1 hvr
            rcases hown.2 with ⟨hnil, _⟩ | ⟨g, cap, cur, hgv, hb0, hheap, hnc, hcm, hcs, htake⟩
            · cases hnil
            · injection hgv with hgv1 hgv2 hgv3
              injection hgv1 with hgv1
              subst hgv1; subst hgv2; subst hgv3
              have hone : ∀ u ∈ vs, u.oneCell' = true := by
                intro u hu
                obtain ⟨q, hq⟩ := List.getElem?_of_mem hu
                have hlt : q < y.cells.length := by rw [hvl]; exact (List.getElem?_eq_some_iff.1 hq).1
                obtain ⟨u', h6, h7⟩ := hvr.get (List.getElem?_eq_getElem hlt)
                rw [hq] at h6; cases h6
                refine solid_one h7 ?_
                rw [← d5 q _ (List.getElem?_eq_getElem hlt) hi]
                exact cell_solid _ _ _
              have haddr : ((⟨g, 0, none⟩ : Addr).add (i * D.sz)).add j = ⟨g, i * D.sz + j, none⟩ := by rw [add_lit', add_lit']; simp
              rw [haddr] at hxv
              have hul : us.length ≤ cur.size := by rw [hown.1, hcs]; exact Nat.mul_le_mul_right _ hnc
              have hrun := run_storeAt (P := P) hty hT g (i * D.sz + j) T' _ vs hvc (by omega) cur w hheap (by omega) hone
              obtain ⟨q1, q2, q3, q4⟩ := setRow_os w g (cur.toList.take (i * D.sz + j) ++ vs ++ cur.toList.drop (i * D.sz + j + vs.length)).toArray
              have hcl : us.length = D.len * D.sz := hown.1
              have hnew : (w.setRow g (cur.toList.take (i * D.sz + j) ++ vs ++ cur.toList.drop (i * D.sz + j + vs.length)).toArray).ownsRow 0 T' D'.sz (.slice (some ⟨g, 0, none⟩) D'.len c) D'.len (us.take (i * D.sz + j) ++ vs ++ us.drop (i * D.sz + j + vs.length)) := by
                rw [d1, d2]
                refine ⟨by simp; omega, .inr ⟨g, c, _, rfl, Nat.zero_le _, setRow_heap w g cur _ T' _ hheap, hnc, hcm, by simp; omega, ?_⟩⟩
                rw [← htake]
                apply List.ext_getElem?
                intro q
                rw [List.getElem?_take]
                have e1 := splice_get (us := cur.toList) (vs := vs) (p := i * D.sz + j) (by simp; omega) q
                have e2 := splice_get (us := cur.toList.take (D.len * D.sz)) (vs := vs) (p := i * D.sz + j) (by rw [htake]; omega) q
                rw [e1, e2]
                by_cases hq : q < D.len * D.sz
                · rw [if_pos hq]
                  split
                  · rfl
                  · rw [List.getElem?_take, if_pos hq]
                · rw [if_neg hq, if_neg (by omega), List.getElem?_take, if_neg hq]
              have hg' : σ[k]? = some (.slice (some ⟨g, 0, none⟩) D'.len c) := by rw [d2]; exact hg
              obtain ⟨p1, p2⟩ := hs.put (w' := w.setRow g (cur.toList.take (i * D.sz + j) ++ vs ++ cur.toList.drop (i * D.sz + j + vs.length)).toArray) (E' := .arr true T' D') hL hg' q1 q2 q3 (by rw [q4]; exact Nat.le_refl _)
                (fun b hb hne => setRow_other w g b _ (fun e => hne (by subst e; rfl))) ⟨_, hnew, r1⟩ (fun b h => h) (fun b h => h)
              refine ⟨undef, _, σ, .inr ⟨?_, rfl⟩, ⟨p1, hA.fr.trans p2, hA.env.put hA.size hd (α := one .any) trivial, by rw [put_defers]; exact hA.nodef, by rw [put_size]; exact hA.size⟩⟩
              simp only [execOp, hxv, Sem.run_bind, hrun, Result.andThen_ok, Sem.run_pure]
          · cases h
      · cases h
    · cases h
  · rename_i args argTypes
    split at h
    · rename_i ar x T T' hax hTT
      have ha : args = #[ar, x] := by apply Array.toList_inj.1; simpa using hax
      have hat : argTypes = #[T, T'] := by apply Array.toList_inj.1; simpa using hTT
      subst ha; subst hat
      have hva := hA.env.ev ar
      have hvx := hA.env.ev x
      split at h
      · rename_i sz b z e k k' hT ha' hx'
        rw [ha'] at hva; rw [hx'] at hvx
        obtain ⟨hva, hva2⟩ : σ[k]? = some (a.eval ar) ∧ isSl (a.eval ar) = true := hva
        obtain ⟨hvx, _⟩ : σ[k']? = some (a.eval x) ∧ isSl (a.eval x) = true := hvx
        split at h
        · rename_i te e' D own e'' D' hte hL hL'
          cases hb : (Nat.beq T T' && Nat.beq e' e && Nat.beq te.size D.sz && Nat.ble σ0.length k && !(Nat.beq k k'))
          · simp [hb] at h
          · simp only [hb, cond_true] at h
            simp only [Bool.and_eq_true] at hb
            obtain ⟨⟨⟨⟨b1, b2⟩, b3⟩, b4⟩, b5⟩ := hb
            have b1' := Nat.eq_of_beq_eq_true b1
            have b2' := Nat.eq_of_beq_eq_true b2
            have b3' := Nat.eq_of_beq_eq_true b3
            have b4' : σ0.length ≤ k := Nat.le_of_ble_eq_true b4
            subst b1'; subst b2'
            split at h
            · rename_i D'' hcat
              obtain ⟨e1, e2⟩ := two h; subst e1; subst e2
              have hφ' : D.len + D'.len ≤ 1099511627776 ∧ te.bytes ≤ 64 := hφ
              obtain ⟨us, hown, hrel⟩ := hs.ok _ _ _ hL hva
              have hrd := (hs.ok _ _ _ hL' hvx).reads
              obtain ⟨v', w', r1, ⟨us', r2, r3⟩, r4, r5, r6⟩ := run_append_dat hty hT hte t b3' hcat hown hrel hrd hφ'.1 hφ'.2
              have hlt : k < σ.length := (List.getElem?_eq_some_iff.1 hva).1
              have hlts : ∀ (i : Nat) (E : Ent) (v : Value), s.L[i]? = some E → σ[i]? = some v → ∀ b, blkB E v = some b → b < w.heap.size := fun i E v h1 h2 b hb => (hs.ok i E v h1 h2).lt hb
              have hent : EntOK (σ.set k v') w' (.arr true e' D'') v' := ⟨us', r2, r3⟩
              have getL : ∀ {i : Nat} {Ei : Ent}, ((s.L.map (Ent.kill k)).set k (.arr true e' D''))[i]? = some Ei → (i ≠ k ∧ ∃ E0, s.L[i]? = some E0 ∧ Ei = E0.kill k) ∨ (i = k ∧ Ei = .arr true e' D'') := by
                intro i Ei hi
                rcases get_set hi with ⟨h1, h2⟩ | ⟨h1, h2⟩
                · left; refine ⟨h1, ?_⟩
                  rw [List.getElem?_map] at h2
                  cases h0 : s.L[i]? with
                  | none => simp [h0] at h2
                  | some E0 => simp [h0] at h2; exact ⟨E0, rfl, h2.symm⟩
                · exact .inr ⟨h1, h2⟩
              have hsat : SatL (σ.set k v') ((s.L.map (Ent.kill k)).set k (.arr true e' D'')) w' := by
                refine ⟨by simp [hs.len], fun i Ei vi h1 h2 => ?_, fun i j Ei Ej vi vj b hij h1 h2 h3 h4 h5 => ?_⟩
                · rcases getL h1 with ⟨g1, E0, g2, rfl⟩ | ⟨rfl, rfl⟩
                  · rcases get_set h2 with ⟨_, g4⟩ | ⟨g4, _⟩
                    · refine kill_ent ((hs.ok i E0 vi g2 g4).keep fun b hb => r4.block b (hlts _ _ _ g2 g4 b hb) fun he => ?_)
                      exact hs.sep k i _ E0 _ vi b (Ne.symm g1) hL hva g2 g4 he.symm hb
                    · exact absurd g4 g1
                  · rcases get_set h2 with ⟨g4, _⟩ | ⟨_, rfl⟩
                    · exact absurd rfl g4
                    · exact hent
                · rcases getL h1 with ⟨g1, E0, g2, rfl⟩ | ⟨rfl, rfl⟩
                  · have g4 := (get_set h2).elim And.right (fun q => absurd q.1 g1)
                    rw [(kill_ownB k E0 vi).1] at h5
                    rcases getL h3 with ⟨f1, F0, f2, rfl⟩ | ⟨rfl, rfl⟩
                    · have f4 := (get_set h4).elim And.right (fun q => absurd q.1 f1)
                      rw [(kill_ownB k F0 vj).2]
                      exact hs.sep i j E0 F0 vi vj b hij g2 g4 f2 f4 h5
                    · rcases get_set h4 with ⟨f4, _⟩ | ⟨_, rfl⟩
                      · exact absurd rfl f4
                      · intro hb
                        have hb : blkV vj = some b := hb
                        rcases r5 with r5 | r5
                        · rw [r5] at hb
                          exact hs.sep i j E0 _ vi _ b hij g2 g4 hL hva h5 hb
                        · rw [r5] at hb
                          have := hlts _ _ _ g2 g4 b (blkB_of_ownB h5)
                          cases hb; omega
                  · rcases get_set h2 with ⟨g4, _⟩ | ⟨_, rfl⟩
                    · exact absurd rfl g4
                    · rcases getL h3 with ⟨f1, F0, f2, rfl⟩ | ⟨f1, _⟩
                      · have f4 := (get_set h4).elim And.right (fun q => absurd q.1 f1)
                        rw [(kill_ownB i F0 vj).2]
                        have h5 : blkV vi = some b := h5
                        intro hb
                        rcases r5 with r5 | r5
                        · rw [r5] at h5
                          exact hs.sep i j _ F0 _ vj b hij hL hva f2 f4 h5 hb
                        · rw [r5] at h5
                          have := hlts _ _ _ f2 f4 b hb
                          cases h5; omega
                      · exact absurd f1.symm hij
              have hfr : Fr w0 σ0 L0 w' (σ.set k v') ((s.L.map (Ent.kill k)).set k (.arr true e' D'')) := by
                have f := hA.fr
                refine ⟨r4.os.trans f.os, r4.tape.trans f.tape, r4.output.trans f.output, Nat.le_trans f.size r4.size, fun b hb hno => ?_, ?_, fun i v hi => ?_⟩
                · have hb' : b < w.heap.size := Nat.lt_of_lt_of_le hb f.size
                  rw [r4.block b hb' (fun he => ?_)]
                  · exact f.blk b hb hno
                  · rcases f.own b ⟨k, _, _, hL, hva, he.symm⟩ with h6 | h6
                    · exact hno h6
                    · omega
                · rintro b ⟨i, Ei, vi, h1, h2, h3⟩
                  rcases getL h1 with ⟨g1, E0, g2, rfl⟩ | ⟨rfl, rfl⟩
                  · have g4 := (get_set h2).elim And.right (fun q => absurd q.1 g1)
                    rw [(kill_ownB k E0 vi).1] at h3
                    exact f.own b ⟨i, E0, vi, g2, g4, h3⟩
                  · rcases get_set h2 with ⟨g4, _⟩ | ⟨_, rfl⟩
                    · exact absurd rfl g4
                    · have h3 : blkV vi = some b := h3
                      rcases r5 with r5 | r5
                      · rw [r5] at h3
                        exact f.own b ⟨i, _, _, hL, hva, h3⟩
                      · rw [r5] at h3; cases h3
                        exact .inr f.size
                · have hlt' : i < σ0.length := (List.getElem?_eq_some_iff.1 hi).1
                  rw [List.getElem?_set_ne (by omega)]
                  exact f.pre i v hi
              refine ⟨v', w', σ.set k v', .inl ?_, ⟨hsat, hfr, (kill_env hA.env).put hA.size hd ⟨by simp [hlt], r6⟩, by rw [put_defers]; exact hA.nodef, by rw [put_size]; exact hA.size⟩⟩
              simp only [execOp, resolve, invoke, builtin, List.map_toArray, List.map_cons, List.map_nil, Sem.run_bind, Sem.run_pure, r1, Result.andThen_ok]
            · cases h
        · cases h
      · rename_i sz b z e k hT ha' hx'
        rw [ha'] at hva; rw [hx'] at hvx
        obtain ⟨hva, hva2⟩ : σ[k]? = some (a.eval ar) ∧ isSl (a.eval ar) = true := hva
        have hvx : a.eval x = .slice none 0 0 := hvx
        split at h
        · rename_i te e' D hte hL
          cases hb : (Nat.beq T T' && Nat.beq e' e && Nat.beq te.size D.sz)
          · simp [hb] at h
          · simp only [hb, cond_true] at h
            simp only [Bool.and_eq_true] at hb
            obtain ⟨⟨b1, b2⟩, b3⟩ := hb
            have b1' := Nat.eq_of_beq_eq_true b1
            have b2' := Nat.eq_of_beq_eq_true b2
            subst b1'; subst b2'
            obtain ⟨e1, e2⟩ := two h; subst e1; subst e2
            obtain ⟨us, hown, hrel⟩ := hs.ok _ _ _ hL hva
            obtain ⟨⟨i, zz, h1, h2, h3, h4, h5⟩, h6, _⟩ := hty _ _ hte
            obtain ⟨_, _, hu, _⟩ := hty _ _ hT
            have hrun := run_append_owned_none (P := P) w 0 T t e' i D.sz hu h1 _ D.len us hown
            refine ⟨a.eval ar, w, σ, .inl ?_, ⟨hs, hA.fr, hA.env.put hA.size hd ⟨hva, hva2⟩, by rw [put_defers]; exact hA.nodef, by rw [put_size]; exact hA.size⟩⟩
            simp only [execOp, resolve, invoke, builtin, List.map_toArray, List.map_cons, List.map_nil, hvx, Sem.run_bind, Sem.run_pure, hrun, Result.andThen_ok]
        · cases h
      · cases h
    · cases h
  · cases h

end
end
end Go.AX
