/- A symbolic walk over the code of one function, and that it tells no more than the model does: no condition. -/
import Derived.Test.YtfhgggjpdimaoaaSqAxC
set_option linter.unusedVariables false
set_option linter.unusedSimpArgs false
namespace Go.AX
noncomputable section
open Go.RowKit
section
variable {P : Program} {ty : TyT}

/-- An operation yields what is told, drawing at most. -/
def Yields (P : Program) (s : Sem Value) (σ : List Value) (w : World) (α : AV) : Prop := ∃ v d, s.run P w = .ok v (w.drewN d) ∧ RelV σ α v

theorem yields_pure {σ : List Value} {w : World} {α : AV} {v : Value} (h : RelV σ α v) : Yields P (pure v) σ w α := ⟨v, 0, rfl, h⟩
theorem yields_run {σ : List Value} {w : World} {α : AV} {v : Value} {s : Sem Value} (hr : s.run P w = .ok v w) (h : RelV σ α v) : Yields P s σ w α := ⟨v, 0, hr, h⟩

theorem some_pair {φ φ' : Option Prop} {α α' : AV} (h : (some (φ, α) : Ans) = some (φ', α')) : φ = φ' ∧ α = α' := by injection h with h; injection h with h1 h2; exact ⟨h1, h2⟩

theorem tyScal (hty : TyOK P ty) {T : TypeId} {d : TypeDesc} {s b : Nat} {z : List Value} (h : ty T = some { k := .scal d, size := s, bytes := b, zero := z }) : P.underlying T = some d := (hty _ _ h).2.2.1

theorem ty_some (hty : TyOK P ty) {T : TypeId} {ti : TI} (h : ty T = some ti) : (P.underlying T).isSome = true := by
  have := (hty _ _ h).2.2
  cases hk : ti.k with
  | scal d => simp only [hk] at this; simp [this.1]
  | st fs => simp only [hk] at this; obtain ⟨f, h1, _⟩ := this; simp [h1]
  | sli e => simp only [hk] at this; simp [this.1]

theorem qBin_sound (hty : TyOK P ty) {op : BinOp} {T : TypeId} {x y : AV} {φ : Option Prop} {α : AV} (h : qBin ty op T x y = some (φ, α)) (hφ : owed φ) {σ : List Value} (w : World) {u v : Value}
    (hx : RelV σ x u) (hy : RelV σ y v) : Yields P (binOp op T u v) σ w α := by
  unfold qBin at h
  split at h
  · split at h
    · rename_i k m k' n hk; subst hk
      cases hx; cases hy
      exact iBin_sound h hφ T σ w
    · cases h
  · split at h
    · rename_i k m k' n hk; subst hk
      obtain ⟨a, rfl, ha⟩ := hx
      obtain ⟨b, rfl, hb⟩ := hy
      exact fBin_sound h ha hb T σ w
    · cases h
  · split at h
    · rename_i k a b k' c d hk; subst hk
      obtain ⟨a', b', rfl, ha, hb⟩ := hx
      obtain ⟨c', d', rfl, hc, hd⟩ := hy
      exact cBin_sound h ha hb hc hd T σ w
    · cases h
  · rename_i a b
    cases hx; cases hy
    cases hb : isBoolT ty T
    · simp [hb] at h
    · simp only [hb, cond_true] at h
      have hu : P.underlying T = some .bool := by
        unfold isBoolT at hb
        split at hb
        · rename_i hT; exact tyScal hty hT
        · cases hb
      cases op <;> simp only [bBin] at h <;> first | (cases h; done) | skip
      all_goals (obtain ⟨h1, h2⟩ := some_pair h; subst h1; subst h2)
      · exact yields_run (run_eql_bool w T a b hu) rfl
      · exact yields_run (run_neq_bool w T a b hu) rfl
  · cases h

theorem eqGuard_run {op : BinOp} {T : TypeId} {x y : Operand} {a b : Value} (h : ∀ p q, ¬ (a = .agg p ∧ b = .agg q)) (h' : ¬ (a = .nilIface ∧ b = .nilIface)) (w : World) : (eqGuard op T x y a b).run P w = .ok () w := by
  unfold eqGuard
  split <;> simp only [Bool.not_true, Bool.not_false, Bool.false_eq_true, if_true, if_false] <;> first | rfl | (cases a <;> cases b <;> first | rfl | exact absurd ⟨rfl, rfl⟩ h' | exact absurd ⟨rfl, rfl⟩ (h _ _))

theorem qBin_noagg {op : BinOp} {T : TypeId} {x y : AV} {φ : Option Prop} {α : AV} (h : qBin ty op T x y = some (φ, α)) {σ : List Value} {u : Value} (hx : RelV σ x u) : (∀ p, u ≠ .agg p) ∧ u ≠ .nilIface := by
  unfold qBin at h
  split at h
  · cases hx; exact ⟨fun p => by simp, by simp⟩
  · obtain ⟨a, rfl, ha⟩ := hx; exact ⟨fun p => by simp, by simp⟩
  · obtain ⟨a', b', rfl, ha, hb⟩ := hx; exact ⟨fun p => by simp, by simp⟩
  · cases hx; exact ⟨fun p => by simp, by simp⟩
  · cases h

theorem qUn_sound {op : UnOp} {x : AV} {φ : Option Prop} {α : AV} (h : qUn op x = some (φ, α)) {σ : List Value} (w : World) {u : Value}
    (hx : RelV σ x u) : Yields P (Op.unary op u) σ w α := by
  unfold qUn at h
  split at h <;> first | (cases h; done) | skip
  · obtain ⟨h1, h2⟩ := some_pair h; subst h1; subst h2
    cases hx; exact yields_run (by simp [Op.unary]) rfl
  · obtain ⟨h1, h2⟩ := some_pair h; subst h1; subst h2
    cases hx; exact yields_run (by simp [Op.unary, Op.intArith]) rfl
  · obtain ⟨h1, h2⟩ := some_pair h; subst h1; subst h2
    obtain ⟨a, rfl, ha⟩ := hx
    exact yields_run (by simp [Op.unary]) ⟨_, rfl, ha.neg⟩
  · obtain ⟨h1, h2⟩ := some_pair h; subst h1; subst h2
    obtain ⟨a, b, rfl, ha, hb⟩ := hx
    exact yields_run (by simp [Op.unary]) ⟨_, _, rfl, ha.neg, hb.neg⟩

theorem floatToIntVal_cn (s : FloatKind) (b : Nat) (k : IntKind) : floatToIntVal s (cn s b) k = floatToIntVal s b k := by
  unfold floatToIntVal FloatKind.decode
  rcases read_cn s b with hx | ⟨_, t, f, t', f', h1, h2⟩
  · rw [hx]
  · rw [h1, h2]; rfl

theorem qConv_sound (hty : TyOK P ty) {src dst : TypeId} {x : AV} {φ : Option Prop} {α : AV} (h : qConv ty src dst x = some (φ, α)) (hφ : owed φ) {σ : List Value} (w : World) {u : Value}
    (hx : RelV σ x u) : Yields P (convert src dst u) σ w α := by
  unfold qConv at h
  split at h
  · rename_i ti s b z k hs hd
    obtain ⟨ds, hs'⟩ := Option.isSome_iff_exists.1 (ty_some hty hs)
    have hd' := tyScal hty hd
    split at h
    · obtain ⟨h1, h2⟩ := some_pair h; subst h1; subst h2
      cases hx
      exact yields_run (by cases ds <;> simp [convert, run_underlying hs', run_underlying hd', Conv.intToInt]) rfl
    · rename_i sk b'
      obtain ⟨h1, h2⟩ := some_pair h; subst h1; subst h2
      obtain ⟨a, rfl, ha⟩ := hx
      obtain ⟨n, hn⟩ := Option.isSome_iff_exists.1 (show (floatToIntVal sk b' k).isSome = true from hφ)
      have e : ftoi sk b' k = n := by rw [ftoi_def, hn]; rfl
      rw [← ha.1, floatToIntVal_cn] at hn
      rw [e]
      exact yields_run (run_convert_float_int w src dst sk k a n (by simp [hs']) hd' hn) rfl
    · cases h
  · rename_i ti s b z k hs hd
    obtain ⟨ds, hs'⟩ := Option.isSome_iff_exists.1 (ty_some hty hs)
    have hd' := tyScal hty hd
    have conv : ∀ (fk : FloatKind) (a : Nat), (convert src dst (.float fk a)).run P w = (Conv.floatToFloat fk a k).run P w := by
      intro fk a
      cases ds <;> simp [convert, run_underlying hs', run_underlying hd']
    split at h
    · obtain ⟨h1, h2⟩ := some_pair h; subst h1; subst h2
      cases hx
      exact yields_run (run_convert_int_float w src dst _ _ _ (by simp [hs']) hd') ⟨_, rfl, isF_fint _ _⟩
    · obtain ⟨h1, h2⟩ := some_pair h; subst h1; subst h2
      obtain ⟨a, rfl, ha⟩ := hx
      obtain ⟨r, d, h3, h4⟩ := run_wide (P := P) ha w
      exact ⟨_, d, by rw [conv]; exact h3, r, rfl, h4⟩
    · obtain ⟨h1, h2⟩ := some_pair h; subst h1; subst h2
      obtain ⟨a, rfl, ha⟩ := hx
      obtain ⟨r, d, h3, h4⟩ := run_narrow (P := P) ha hφ w
      exact ⟨_, d, by rw [conv]; exact h3, r, rfl, h4⟩
    · obtain ⟨h1, h2⟩ := some_pair h; subst h1; subst h2
      obtain ⟨a, rfl, ha⟩ := hx
      exact yields_run (by rw [conv]; simp [Conv.floatToFloat]) ⟨a, rfl, ha⟩
    · obtain ⟨h1, h2⟩ := some_pair h; subst h1; subst h2
      obtain ⟨a, rfl, ha⟩ := hx
      exact yields_run (by rw [conv]; simp [Conv.floatToFloat]) ⟨a, rfl, ha⟩
    · cases h
  · rename_i ti s b z hs hd
    obtain ⟨ds, hs'⟩ := Option.isSome_iff_exists.1 (ty_some hty hs)
    have hd' := tyScal hty hd
    split at h
    · obtain ⟨h1, h2⟩ := some_pair h; subst h1; subst h2
      obtain ⟨a, b, rfl, ha, hb⟩ := hx
      obtain ⟨r, d, h3, h4⟩ := run_wide (P := P) ha w
      obtain ⟨r', d', h5, h6⟩ := run_wide (P := P) hb (w.drewN d)
      refine ⟨.complex .f64 r r', d + d', ?_, r, r', rfl, h4, h6⟩
      have e : (convert src dst (.complex .f32 a b)).run P w = (Conv.complexToComplex .f32 a b .f64).run P w := by
        cases ds <;> simp [convert, run_underlying hs', run_underlying hd']
      rw [e]
      simp only [Conv.complexToComplex, Sem.run_bind, h3, h5, Result.andThen_ok, Sem.run_pure, World.drewN_drewN]
    · cases h
  · rename_i ti s b z hs hd
    obtain ⟨ds, hs'⟩ := Option.isSome_iff_exists.1 (ty_some hty hs)
    have hd' := tyScal hty hd
    split at h
    · obtain ⟨h1, h2⟩ := some_pair h; subst h1; subst h2
      obtain ⟨a, b, rfl, ha, hb⟩ := hx
      obtain ⟨r, d, h3, h4⟩ := run_narrow (P := P) ha hφ.1 w
      obtain ⟨r', d', h5, h6⟩ := run_narrow (P := P) hb hφ.2 (w.drewN d)
      refine ⟨.complex .f32 r r', d + d', ?_, r, r', rfl, h4, h6⟩
      have e : (convert src dst (.complex .f64 a b)).run P w = (Conv.complexToComplex .f64 a b .f32).run P w := by
        cases ds <;> simp [convert, run_underlying hs', run_underlying hd']
      rw [e]
      simp only [Conv.complexToComplex, Sem.run_bind, h3, h5, Result.andThen_ok, Sem.run_pure, World.drewN_drewN]
    · cases h
  · cases h

theorem run_isAgg_st {T : TypeId} {fields : Array Field} (h : P.underlying T = some (.struct fields)) (w : World) : (isAgg T).run P w = .ok true w := by
  simp [isAgg, run_underlying h]
theorem run_isAgg_not (hty : TyOK P ty) {T : TypeId} {ti : TI} (h : ty T = some ti) (hk : ti.k.isSt = false) (w : World) : (isAgg T).run P w = .ok false w := by
  have := (hty _ _ h).2.2
  cases hkk : ti.k with
  | scal d =>
    simp only [hkk] at this
    have hp := this.2.1
    cases d <;> simp [isAgg, run_underlying this.1] <;> simp [plainD] at hp
  | st fs => simp [hkk, TK.isSt] at hk
  | sli e => simp only [hkk] at this; simp [isAgg, run_underlying this.1]

theorem run_size (hty : TyOK P ty) {T : TypeId} {ti : TI} (h : ty T = some ti) (w : World) : (sizeOf T).run P w = .ok ti.size w := by
  obtain ⟨⟨i, z, h1, h2, h3, h4, h5⟩, _⟩ := hty _ _ h
  simp [sizeOf, typeInfo, h1, h2]

theorem isSt_fields (hty : TyOK P ty) {T : TypeId} {ti : TI} (h : ty T = some ti) (hk : ti.k.isSt = true) : ∃ fields, P.underlying T = some (.struct fields) := by
  have := (hty _ _ h).2.2
  cases hkk : ti.k with
  | scal d => simp [hkk, TK.isSt] at hk
  | st fs => simp only [hkk] at this; obtain ⟨f, h1, _⟩ := this; exact ⟨f, h1⟩
  | sli e => simp [hkk, TK.isSt] at hk

theorem run_loadVar_agg (hty : TyOK P ty) {T : TypeId} {ti : TI} (h : ty T = some ti) (hk : ti.k.isSt = true) (a : Addr) (us : List Value) (hl : us.length = ti.size) (w : World)
    (hc : ∀ (j : Nat) v, us[j]? = some v → w.cell? (a.add j) = some v) : (loadVar T a).run P w = .ok (.agg us.toArray) w := by
  obtain ⟨fields, hf⟩ := isSt_fields hty h hk
  have := run_loadCells_list (P := P) w a us hc
  rw [hl] at this
  simp [loadVar, run_isAgg_st hf, run_size hty h, this]

theorem run_loadVar_one (hty : TyOK P ty) {T : TypeId} {ti : TI} (h : ty T = some ti) (hk : ti.k.isSt = false) (a : Addr) (u : Value) (w : World)
    (hc : w.cell? a = some u) : (loadVar T a).run P w = .ok u w := by
  simp [loadVar, run_isAgg_not hty h hk, hc]

theorem var_cells {σ : List Value} {w : World} {T : TypeId} {cs : List AC} {v : Value} (h : EntOK σ w (.var T cs) v) : ∃ g us, v = at0 g ∧ w.heap[g]? = some (.cells us.toArray T (0, 0)) ∧ RelCs σ cs us ∧ ∀ (j : Nat) u, us[j]? = some u → w.cell? ⟨g, j, none⟩ = some u := by
  obtain ⟨g, us, h1, h2, h3⟩ := h
  refine ⟨g, us, h1, h2, h3, fun j u hj => ?_⟩
  simp [World.cell?, h2, hj]

theorem add_lit' (g j n : Nat) : (⟨g, j, none⟩ : Addr).add n = ⟨g, j + n, none⟩ := by
  unfold Addr.add; split
  · rename_i h; simp [h]
  · rfl

theorem relCs_range {σ : List Value} {f : Nat → AC} {g : Nat → Value} : ∀ n, (∀ j, j < n → RelC σ (f j) (g j)) → RelCs σ ((List.range n).map f) ((List.range n).map g)
  | 0, _ => by simp [RelCs]
  | n + 1, h => by
    rw [List.range_succ, List.map_append, List.map_append]
    exact (relCs_range n fun j hj => h j (by omega)).app ⟨h n (by omega), trivial⟩

theorem qLoad_sound (hty : TyOK P ty) {L : List Ent} {T : TypeId} {x : AV} {φ : Option Prop} {α : AV} (h : qLoad ty L T x = some (φ, α)) (hφ : owed φ) {σ : List Value} {w : World} (hs : SatL σ L w) {u : Value}
    (hx : RelV σ x u) : Yields P (Instr.loadAt T u) σ w α := by
  unfold qLoad at h
  split at h
  · rename_i ti k j hT
    split at h
    · rename_i T' cs hL
      obtain ⟨g, hg, rfl⟩ := hx
      obtain ⟨g', us, h1, h2, h3, h4⟩ := var_cells (hs.ok _ _ _ hL hg)
      have : g = g' := by simp [at0] at h1; exact h1
      subst this
      cases hst : ti.k.isSt
      · simp only [hst, cond_false] at h
        split at h
        · rename_i c hc
          obtain ⟨e1, e2⟩ := some_pair h; subst e1; subst e2
          obtain ⟨u, hu, hr⟩ := h3.get hc
          refine yields_run ?_ hr
          simp only [Instr.loadAt, Instr.sureAddr, Sem.run_bind, Sem.run_pure, Result.andThen_ok]
          exact run_loadVar_one hty hT hst _ _ w (h4 _ _ hu)
        · cases h
      · simp only [hst, cond_true] at h
        cases hle : Nat.ble (j + ti.size) cs.length
        · simp [hle] at h
        · simp only [hle, cond_true] at h
          obtain ⟨e1, e2⟩ := some_pair h; subst e1; subst e2
          have hle' : j + ti.size ≤ cs.length := Nat.le_of_ble_eq_true hle
          refine yields_run (v := .agg ((us.drop j).take ti.size).toArray) ?_ ⟨_, rfl, (h3.drop j).take ti.size⟩
          simp only [Instr.loadAt, Instr.sureAddr, Sem.run_bind, Sem.run_pure, Result.andThen_ok]
          refine run_loadVar_agg hty hT hst _ _ ?_ w ?_
          · have := h3.len; simp; omega
          · intro i v hi
            rw [add_lit']
            apply h4
            rw [List.getElem?_take] at hi
            split at hi
            · rw [List.getElem?_drop] at hi; exact hi
            · cases hi
    · cases h
  · rename_i ti k sz i j hT
    split at h
    · rename_i own T' D hL
      cases hsz : Nat.beq D.sz sz
      · simp [hsz] at h
      · simp only [hsz, cond_true] at h
        have hsz' : D.sz = sz := Nat.eq_of_beq_eq_true hsz
        subst hsz'
        obtain ⟨ad, n, c, hg, rfl⟩ := hx
        have hrd : Reads w (.slice (some ad) n c) D := (hs.ok _ _ _ hL hg).reads
        obtain ⟨A, n', c', e1, e2, e3, _, hcell⟩ := hrd
        injection e1 with e1 e4 e5
        subst e1
        cases hst : ti.k.isSt
        · simp only [hst, cond_false] at h
          cases hj : Nat.blt j D.sz
          · simp [hj] at h
          · simp only [hj, cond_true] at h
            obtain ⟨f1, f2⟩ := some_pair h; subst f1; subst f2
            have hi : i < D.len := hφ
            obtain ⟨ad', u, h1, h2, h3⟩ := hcell i j hi (Nat.lt_of_succ_le (Nat.le_of_ble_eq_true hj))
            cases h1
            refine yields_run ?_ (RelC.pre (Pre.nil σ) h3)
            simp only [Instr.loadAt, Instr.sureAddr, Sem.run_bind, Sem.run_pure, Result.andThen_ok]
            exact run_loadVar_one hty hT hst _ _ w h2
        · simp only [hst, cond_true] at h
          cases hj : (Nat.beq j 0 && Nat.beq ti.size D.sz)
          · simp [hj] at h
          · simp only [hj, cond_true] at h
            obtain ⟨f1, f2⟩ := some_pair h; subst f1; subst f2
            have hi : i < D.len := hφ
            simp only [Bool.and_eq_true] at hj
            have hj0 : j = 0 := Nat.eq_of_beq_eq_true hj.1
            have hts : ti.size = D.sz := Nat.eq_of_beq_eq_true hj.2
            subst hj0
            have hv : ∀ q, q < D.sz → ∃ u, w.cell? ((ad.add (i * D.sz)).add q) = some u ∧ RelC [] (D.cell i q) u := fun q hq => by
              obtain ⟨ad', u, h1, h2, h3⟩ := hcell i q hi hq
              cases h1; exact ⟨u, h2, h3⟩
            let f : Nat → Value := fun q => if hq : q < D.sz then (hv q hq).choose else undef
            have hf : ∀ q, q < D.sz → w.cell? ((ad.add (i * D.sz)).add q) = some (f q) ∧ RelC [] (D.cell i q) (f q) := fun q hq => by
              simp only [f, dif_pos hq]; exact (hv q hq).choose_spec
            refine yields_run (v := .agg ((List.range D.sz).map f).toArray) ?_ ⟨_, rfl, RelCs.pre (Pre.nil σ) (relCs_range _ fun q hq => (hf q hq).2)⟩
            simp only [Instr.loadAt, Instr.sureAddr, Sem.run_bind, Sem.run_pure, Result.andThen_ok]
            refine run_loadVar_agg hty hT hst _ _ (by simp [hts]) w ?_
            intro q v hq
            simp only [List.getElem?_map] at hq
            by_cases hlt : q < D.sz
            · rw [List.getElem?_range hlt] at hq
              simp at hq
              subst hq
              simpa [add_add] using (hf q hlt).1
            · rw [List.getElem?_eq_none (by simp; omega)] at hq; simp at hq
    · cases h
  · cases h

theorem qField_sound (hty : TyOK P ty) {T : TypeId} {x : AV} {i : Nat} {φ : Option Prop} {α : AV} (h : qField ty T x i = some (φ, α)) {σ : List Value} (w : World) {u : Value}
    (hx : RelV σ x u) : Yields P (Instr.field T u i) σ w α := by
  unfold qField at h
  split at h
  · rename_i s b z fs cs hT
    obtain ⟨us, rfl, hr⟩ := hx
    obtain ⟨_, _, fields, hu, hfl0⟩ := hty _ _ hT
    have hfs := fields_get hfl0
    split at h
    · rename_i o t ho
      obtain ⟨f, hf1, hf2, hf3⟩ := hfs _ _ _ ho
      split at h
      · rename_i ti ht
        cases hst : ti.k.isSt
        · simp only [hst, cond_false] at h
          split at h
          · rename_i c hc
            obtain ⟨e1, e2⟩ := some_pair h; subst e1; subst e2
            obtain ⟨u, hu', hr'⟩ := hr.get hc
            refine yields_run ?_ hr'
            simp [Instr.field, run_underlying hu, hf1, hf2, hf3, asAgg, part, run_isAgg_not hty ht hst, hu']
          · cases h
        · simp only [hst, cond_true] at h
          obtain ⟨e1, e2⟩ := some_pair h; subst e1; subst e2
          obtain ⟨fl, hfl⟩ := isSt_fields hty ht hst
          refine yields_run (v := .agg ((us.drop o).take ti.size).toArray) ?_ ⟨_, rfl, (hr.drop o).take ti.size⟩
          simp [Instr.field, run_underlying hu, hf1, hf2, hf3, asAgg, part, run_isAgg_st hfl, run_size hty ht]
      · cases h
    · cases h
  · cases h

theorem run_fieldPlace (hty : TyOK P ty) {t : TypeId} {ti : TI} (ht : ty t = some ti) (h0 : ti.size ≠ 0) (a : Addr) (f : Field) (hf : f.type = t) (w : World) : (fieldPlace a f).run P w = .ok (a.add f.offset) w := by
  subst hf
  simp [fieldPlace, run_size hty ht, h0]

theorem qFieldAddr_sound (hty : TyOK P ty) {T : TypeId} {x : AV} {i : Nat} {φ : Option Prop} {α : AV} (h : qFieldAddr ty T x i = some (φ, α)) {σ : List Value} (w : World) {u : Value}
    (hx : RelV σ x u) : Yields P (Instr.fieldAt T u i) σ w α := by
  unfold qFieldAddr at h
  split at h
  · rename_i s b z fs hT
    obtain ⟨_, _, fields, hu, hfl0⟩ := hty _ _ hT
    have hfs := fields_get hfl0
    split at h
    · rename_i o t ho
      obtain ⟨f, hf1, hf2, hf3⟩ := hfs _ _ _ ho
      split at h
      · rename_i ti ht
        cases h0 : Nat.beq ti.size 0
        · simp only [h0, cond_false] at h
          have h0' : ti.size ≠ 0 := fun e => by rw [e] at h0; cases h0
          split at h
          · obtain ⟨e1, e2⟩ := some_pair h; subst e1; subst e2
            obtain ⟨g, hg, rfl⟩ := hx
            refine yields_run (v := .pointer (some ((⟨g, _, none⟩ : Addr).add o))) ?_ ⟨g, hg, by rw [add_lit']⟩
            simp [Instr.fieldAt, run_underlying hu, hf1, Instr.sureAddr, run_fieldPlace hty ht h0' _ f hf3, hf2]
          · rename_i k sz ii jj
            obtain ⟨e1, e2⟩ := some_pair h; subst e1; subst e2
            obtain ⟨ad, n, c, hg, rfl⟩ := hx
            refine ⟨.pointer (some (((ad.add (ii * sz)).add jj).add o)), 0, ?_, ad, n, c, hg, by rw [← add_add]⟩
            simp only [Instr.fieldAt, run_underlying hu, hf1, Instr.sureAddr, run_fieldPlace hty ht h0' _ f hf3, hf2, Sem.run_bind, Result.andThen_ok, Sem.run_pure]
            rfl
          · cases h
        · simp [h0] at h
      · cases h
    · cases h
  · cases h

theorem qIndexAddr_sound (hty : TyOK P ty) {L : List Ent} {T : TypeId} {x i : AV} {φ : Option Prop} {α : AV} (h : qIndexAddr ty L T x i = some (φ, α)) (hφ : owed φ) {σ : List Value} {w : World} (hs : SatL σ L w) {u v : Value}
    (hx : RelV σ x u) (hi : RelV σ i v) : Yields P (Instr.indexAt T u v) σ w α := by
  unfold qIndexAddr at h
  split at h
  · rename_i s b z e k ik n hT
    obtain ⟨_, _, hu, _⟩ := hty _ _ hT
    have hx : σ[k]? = some u := hx.1
    cases hi
    split at h
    · rename_i te own T' D he hL
      cases hsz : Nat.beq te.size D.sz
      · simp [hsz] at h
      · simp only [hsz, cond_true] at h
        obtain ⟨e1, e2⟩ := some_pair h; subst e1; subst e2
        have hsz' : te.size = D.sz := Nat.eq_of_beq_eq_true hsz
        have hφ' : 0 ≤ n ∧ n < D.len := hφ
        obtain ⟨A, m, c, rfl, rfl, e3, _, hcell⟩ := (hs.ok _ _ _ hL hx).reads
        obtain ⟨ad, u, rfl, _, _⟩ := hcell 0 0 (by omega) D.sz_pos
        refine yields_run (v := .pointer (some ((ad.add (n.toNat * D.sz)).add 0))) ?_ ⟨ad, _, c, hx, rfl⟩
        simp only [Instr.indexAt, asIntOf, run_underlying hu, Sem.run_bind, Result.andThen_ok, Sem.run_pure, Bool.and_false, if_pos hφ', run_size hty he, hsz', add_add, Nat.add_zero]
    · cases h
  · rename_i s b z e k m ik n hT
    obtain ⟨_, _, hu, _⟩ := hty _ _ hT
    cases hi
    split at h
    · rename_i te he
      obtain ⟨e1, e2⟩ := some_pair h; subst e1; subst e2
      have hφ' : 0 ≤ n ∧ n < m := hφ
      obtain ⟨g, hg, rfl⟩ := hx
      refine yields_run (v := .pointer (some ((⟨g, 0, none⟩ : Addr).add (n.toNat * te.size)))) ?_ ⟨g, hg, by rw [add_lit']; simp⟩
      simp [Instr.indexAt, asIntOf, run_underlying hu, hφ', run_size hty he]
    · cases h
  · rename_i s b z e k m cap ik n hT
    obtain ⟨_, _, hu, _⟩ := hty _ _ hT
    cases hi
    split at h
    · rename_i te he
      obtain ⟨e1, e2⟩ := some_pair h; subst e1; subst e2
      have hφ' : 0 ≤ n ∧ n < m := hφ
      obtain ⟨g, hg, rfl⟩ := hx
      refine yields_run (v := .pointer (some ((⟨g, 0, none⟩ : Addr).add (n.toNat * te.size)))) ?_ ⟨g, hg, by rw [add_lit']; simp⟩
      simp [Instr.indexAt, asIntOf, run_underlying hu, hφ', run_size hty he]
    · cases h
  · cases h

theorem qLen_sound (hty : TyOK P ty) {L : List Ent} {T t' : TypeId} {x : AV} {φ : Option Prop} {α : AV} (hT : isSli ty T = true) (h : qLen L x = some (φ, α)) {σ : List Value} {w : World} (hs : SatL σ L w) {u : Value}
    (hx : RelV σ x u) : Yields P (Builtin.len_ #[T] t' #[u]) σ w α := by
  unfold isSli at hT
  split at hT
  case h_2 => cases hT
  rename_i s b z e hT'
  obtain ⟨_, _, hu, _⟩ := hty _ _ hT'
  unfold qLen at h
  split at h
  · split at h
    · rename_i own T' D hL
      obtain ⟨e1, e2⟩ := some_pair h; subst e1; subst e2
      have hx : σ[_]? = some u := hx.1
      obtain ⟨A, m, c, rfl, rfl, e3, _, hcell⟩ := (hs.ok _ _ _ hL hx).reads
      exact yields_run (by simp [Builtin.len_, run_underlying hu]; rfl) rfl
    · cases h
  · obtain ⟨e1, e2⟩ := some_pair h; subst e1; subst e2
    obtain ⟨g, hg, rfl⟩ := hx
    exact yields_run (by simp [Builtin.len_, run_underlying hu]; rfl) rfl
  · obtain ⟨e1, e2⟩ := some_pair h; subst e1; subst e2
    obtain ⟨g, hg, rfl⟩ := hx
    exact yields_run (by simp [Builtin.len_, run_underlying hu]; rfl) rfl
  · obtain ⟨e1, e2⟩ := some_pair h; subst e1; subst e2
    cases hx
    exact yields_run (by simp [Builtin.len_, run_underlying hu]; rfl) rfl
  · cases h

theorem solid_one {σ : List Value} {c : AC} {v : Value} (h : RelC σ c v) (hs : c.solid = true) : v.oneCell' = true := by
  cases c with
  | any => cases hs
  | ex u => cases h; exact hs
  | fl k x => obtain ⟨b, rfl, _⟩ := h; rfl
  | cx k x y => obtain ⟨a, b, rfl, _⟩ := h; rfl
  | bt x => obtain ⟨b, rfl, _⟩ := h; rfl
  | pv k j => obtain ⟨g, _, rfl⟩ := h; rfl
  | pe k sz i j => obtain ⟨ad, n, c, _, rfl⟩ := h; rfl
  | sl k => have h2 := h.2; cases v <;> first | rfl | (simp [isSl] at h2)
  | sv k n => obtain ⟨g, _, rfl⟩ := h; rfl
  | sw k n c => obtain ⟨g, _, rfl⟩ := h; rfl
  | e0 => obtain ⟨A, rfl⟩ := h; rfl
  | fn f fs cs => obtain ⟨us, vs, rfl, _⟩ := h; rfl

theorem cells_rel {σ : List Value} {x : A1} {v : Value} (h : RelA σ x v) (hs : x.solid = true) : ∃ us, v.cells = us.toArray ∧ RelCs σ x.cells us := by
  cases x with
  | one c =>
    have h1 := solid_one h hs
    refine ⟨[v], ?_, ⟨h, trivial⟩⟩
    cases v <;> first | rfl | cases h1
  | agg cs =>
    obtain ⟨us, rfl, h2⟩ := h
    exact ⟨us, rfl, h2⟩

theorem fold_splice (off : Nat) : ∀ (us : List Value) (j : Nat) (cs : Array Value), off + j + us.length ≤ cs.size →
    ((us.zipIdx j).foldl (fun cs (x : Value × Nat) => cs.setIfInBounds (off + x.2) x.1) cs).toList = cs.toList.take (off + j) ++ us ++ cs.toList.drop (off + j + us.length)
  | [], j, cs, _ => by simp
  | u :: us, j, cs, h => by
    simp only [List.length_cons] at h
    simp only [List.zipIdx_cons, List.foldl_cons]
    rw [fold_splice off us (j + 1) _ (by simp; omega)]
    have hlt : off + j < cs.toList.length := by simp; omega
    rw [Array.toList_setIfInBounds, List.length_cons, show off + (j + 1) = off + j + 1 by omega, List.take_succ_eq_append_getElem (by simp; omega), show off + j + 1 + us.length = off + j + (us.length + 1) by omega]
    rw [List.drop_set_of_lt (by omega)]
    simp [List.take_set_of_le]

theorem lay_sound {pl : List (Nat × Nat)} {σ : List Value} : ∀ {parts : List (Nat × AV)} {vs : List (Nat × Value)} {cs cs' : List AC} {us : List Value}, lay pl parts cs = some cs' → RelCs σ cs us →
    parts.length = vs.length → (∀ (i : Nat) (p : Nat × AV) (q : Nat × Value), parts[i]? = some p → vs[i]? = some q → p.1 = q.1 ∧ RelV σ p.2 q.2) →
    ∃ us', Instr.fill (pl.toArray[·]?) us.toArray vs = some us'.toArray ∧ RelCs σ cs' us'
  | [], [], cs, cs', us, h, hr, _, _ => by
    simp only [lay] at h; cases h
    exact ⟨us, by simp [Instr.fill], hr⟩
  | [], _ :: _, _, _, _, _, _, hl, _ => by simp at hl
  | _ :: _, [], _, _, _, _, _, hl, _ => by simp at hl
  | (i, .tup xs) :: r, _ :: _, cs, cs', us, h, hr, hl, hp => by simp [lay] at h
  | (i, .v x) :: r, (i', v) :: vs, cs, cs', us, h, hr, hl, hp => by
    obtain ⟨e1, e2⟩ := hp 0 _ _ rfl rfl
    simp at e1; subst e1
    simp only [lay] at h
    cases hpl : pl[i]? with
    | none => simp [hpl] at h
    | some oz =>
      obtain ⟨o, z⟩ := oz
      simp only [hpl] at h
      cases hb : (Nat.beq x.cells.length z && Nat.ble (o + z) cs.length && x.solid)
      · simp [hb] at h
      · simp only [hb, cond_true] at h
        simp only [Bool.and_eq_true] at hb
        obtain ⟨⟨b1, b2⟩, b3⟩ := hb
        have b1' : x.cells.length = z := Nat.eq_of_beq_eq_true b1
        have b2' : o + z ≤ cs.length := Nat.le_of_ble_eq_true b2
        obtain ⟨ws, hw1, hw2⟩ := cells_rel e2 b3
        have hl1 := hw2.len
        have hl2 := hr.len
        have hnew : RelCs σ (cs.take o ++ x.cells ++ cs.drop (o + z)) (us.take o ++ ws ++ us.drop (o + z)) := ((hr.take o).app hw2).app (hr.drop _)
        obtain ⟨us', f1, f2⟩ := lay_sound h hnew (by simpa using hl) (fun j p q h1 h2 => hp (j + 1) p q (by simpa using h1) (by simpa using h2))
        refine ⟨us', ?_, f2⟩
        simp only [Instr.fill, List.getElem?_toArray, hpl, hw1]
        rw [if_neg (by simp; omega)]
        have hsp := fold_splice o ws 0 us.toArray (by simp; omega)
        simp only [Nat.add_zero] at hsp
        have : (ws.toArray.zipIdx.foldl (fun cs (x : Value × Nat) => cs.setIfInBounds (o + x.2) x.1) us.toArray) = (us.take o ++ ws ++ us.drop (o + z)).toArray := by
          apply Array.toList_inj.1
          rw [← Array.foldl_toList, Array.toList_zipIdx, hsp]
          simp [← hl1, b1']
        rw [this]
        simpa using f1

theorem placesOf_sound (hty : TyOK P ty) : ∀ {fields : List Field} {fs : List (Nat × TypeId)} {pl : List (Nat × Nat)}, fields.map (fun f => (f.offset, f.type)) = fs → placesOf ty fs = some pl →
    fields.mapM (fun f => (P.info? f.type).map fun i => (f.offset, i.size)) = some pl
  | [], fs, pl, h, hp => by subst h; simp [placesOf] at hp; subst hp; rfl
  | f :: fields, fs, pl, h, hp => by
    subst h
    simp only [List.map_cons, placesOf] at hp
    cases ht : ty f.type with
    | none => simp [ht] at hp
    | some ti =>
      simp only [ht] at hp
      cases hr : placesOf ty (fields.map fun f => (f.offset, f.type)) with
      | none => simp [hr] at hp
      | some ps =>
        simp only [hr] at hp
        cases hp
        obtain ⟨⟨i, z, h1, h2, _⟩, _⟩ := hty _ _ ht
        have ih := placesOf_sound hty (fields := fields) rfl hr
        simp [List.mapM_cons, h1, ih, h2]

theorem rel_csts (σ : List Value) : ∀ vs : List Value, RelCs σ (vs.map cst) vs
  | [] => trivial
  | v :: vs => ⟨rel_cst σ v, rel_csts σ vs⟩

theorem qBuild_sound (hty : TyOK P ty) {T : TypeId} {parts : List (Nat × AV)} {φ : Option Prop} {α : AV} (h : qBuild ty T parts = some (φ, α)) {σ : List Value} (w : World) {vs : Array (Nat × Value)}
    (hl : parts.length = vs.toList.length) (hp : ∀ (i : Nat) (p : Nat × AV) (q : Nat × Value), parts[i]? = some p → vs.toList[i]? = some q → p.1 = q.1 ∧ RelV σ p.2 q.2) : Yields P (Instr.build T vs) σ w α := by
  unfold qBuild at h
  split at h
  · rename_i s b z fs hT
    obtain ⟨⟨i, zv, h1, h2, h3, h4, h5⟩, _, fields, hu, hfl0⟩ := hty _ _ hT
    split at h
    · rename_i pl hpl
      split at h
      · rename_i cs hcs
        obtain ⟨e1, e2⟩ := some_pair h; subst e1; subst e2
        obtain ⟨us', f1, f2⟩ := lay_sound hcs (rel_csts σ z) hl hp
        refine yields_run (v := .agg us'.toArray) ?_ ⟨us', rfl, f2⟩
        apply run_build
        have hm := placesOf_sound hty hfl0 hpl
        have h5' : zv.cells = z.toArray := h5
        simp only [Program.built, h1, hu, h4, hm, h5', f1]
      · cases h
    · cases h
  · cases h

theorem ptrsOf_sound {σ : List Value} {env : List (Nat × AV)} {a : Act} : ∀ {xs : List Operand} {ks : List Nat}, ptrsOf env xs = some ks → EvOK σ env a xs → RelPs σ ks (xs.map a.eval)
  | [], ks, h, _ => by simp [ptrsOf] at h; subst h; trivial
  | x :: xs, ks, h, he => by
    simp only [ptrsOf] at h
    split at h
    · rename_i k hk
      split at h
      · rename_i ks' hks
        cases h
        have hx := he x (by simp)
        rw [hk] at hx
        exact ⟨hx, ptrsOf_sound hks fun y hy => he y (by simp [hy])⟩
      · cases h
    · cases h

theorem qCmp_noagg {L : List Ent} {op : BinOp} {T : TypeId} {x y : AV} {φ : Option Prop} {α : AV} (h : qCmp ty L op T x y = some (φ, α)) {σ : List Value} {u : Value} (hx : RelV σ x u) : (∀ p, u ≠ .agg p) ∧ u ≠ .nilIface := by
  unfold qCmp at h
  split at h
  · have h2 : isSl u = true := hx.2
    exact ⟨fun p e => by subst e; simp [isSl] at h2, fun e => by subst e; simp [isSl] at h2⟩
  · exact qBin_noagg h hx
theorem qCmp_sound (hty : TyOK P ty) {L : List Ent} {op : BinOp} {T : TypeId} {x y : AV} {φ : Option Prop} {α : AV} (h : qCmp ty L op T x y = some (φ, α)) (hφ : owed φ) {σ : List Value} {w : World} (hs : SatL σ L w) {u v : Value}
    (hx : RelV σ x u) (hy : RelV σ y v) : Yields P (binOp op T u v) σ w α := by
  unfold qCmp at h
  split at h
  · rename_i k
    split at h
    · rename_i s b z e own T' D hT hL
      have hx : σ[k]? = some u := hx.1
      have hy : v = .slice none 0 0 := hy
      subst hy
      obtain ⟨_, _, hu, _⟩ := hty _ _ hT
      obtain ⟨A, m, c, rfl, rfl, e3, _, hcell⟩ := (hs.ok _ _ _ hL hx).reads
      split at h
      · obtain ⟨e1, e2⟩ := some_pair h; subst e1; subst e2
        obtain ⟨ad, u, rfl, _, _⟩ := hcell 0 0 hφ D.sz_pos
        refine yields_run ?_ rfl
        simp only [binOp]
        simp [run_equal_slice_nil w T e _ _ _ hu]
      · obtain ⟨e1, e2⟩ := some_pair h; subst e1; subst e2
        obtain ⟨ad, u, rfl, _, _⟩ := hcell 0 0 hφ D.sz_pos
        exact yields_run (run_neq_slice_nil w T e _ _ _ hu) rfl
      · cases h
    · cases h
  · exact qBin_sound hty h hφ w hx hy

/-- What a step without a call of a Go function comes to. -/
def Runs (P : Program) (o : Oper) (a : Act) (σ : List Value) (w : World) (α : AV) : Prop := ∃ v d, (execOp a.eval o).run P w = .ok (.value v) (w.drewN d) ∧ RelV σ α v

theorem runs_of {o : Oper} {a : Act} {σ : List Value} {w : World} {α : AV} {s : Sem Value} (h : execOp a.eval o = (do pure (.value (← s)))) (hy : Yields P s σ w α) : Runs P o a σ w α := by
  obtain ⟨v, d, h1, h2⟩ := hy
  exact ⟨v, d, by rw [h]; simp [h1], h2⟩

theorem qOp_sound (hty : TyOK P ty) {env : List (Nat × AV)} {L : List Ent} {o : Oper} {φ : Option Prop} {α : AV} (h : qOp ty env L o.op = some (φ, α)) (hφ : owed φ) {σ : List Value} {w : World} (hs : SatL σ L w)
    {a : Act} (he : EvOK σ env a o.op.operands.toList) : Runs P o a σ w α := by
  obtain ⟨dst, op, t, pos, after, guard⟩ := o
  simp only at h he
  unfold qOp at h
  split at h
  · obtain ⟨e1, e2⟩ := some_pair h; subst e1; subst e2
    exact ⟨_, 0, rfl, he _ (by simp [Op.operands])⟩
  · obtain ⟨e1, e2⟩ := some_pair h; subst e1; subst e2
    exact ⟨_, 0, rfl, he _ (by simp [Op.operands])⟩
  · rename_i c x y
    split at h
    · rename_i β hc
      obtain ⟨e1, e2⟩ := some_pair h; subst e1; subst e2
      have h1 := he c (by simp [Op.operands])
      rw [hc] at h1
      have h1 : a.eval c = .bool β := h1
      refine ⟨if β then a.eval x else a.eval y, 0, by simp [execOp, h1, asBool, World.drewN_zero], ?_⟩
      cases β
      · exact he y (by simp [Op.operands])
      · exact he x (by simp [Op.operands])
    · cases h
  · rename_i T x
    exact runs_of rfl (qLoad_sound hty h hφ hs (he x (by simp [Op.operands])))
  · rename_i x
    have hx := he x (by simp [Op.operands])
    split at h
    · rename_i k j hk
      obtain ⟨e1, e2⟩ := some_pair h; subst e1; subst e2
      rw [hk] at hx
      obtain ⟨g, hg, hv⟩ := hx
      exact ⟨_, 0, by simp [execOp, hv, World.drewN_zero], g, hg, rfl⟩
    · rename_i k sz i j hk
      obtain ⟨e1, e2⟩ := some_pair h; subst e1; subst e2
      rw [hk] at hx
      obtain ⟨ad, n, c, hg, hv⟩ := hx
      exact ⟨_, 0, by simp [execOp, hv, World.drewN_zero], ad, n, c, hg, rfl⟩
    · cases h
  · rename_i bop T x y yT
    have hx := he x (by simp [Op.operands])
    have hy := he y (by simp [Op.operands])
    obtain ⟨g1, g2⟩ := qCmp_noagg h hx
    have hb := qCmp_sound hty h hφ hs hx hy
    obtain ⟨v, d, h1, h2⟩ := hb
    refine ⟨v, d, ?_, h2⟩
    have hg := eqGuard_run (P := P) (op := bop) (T := T) (x := x) (y := y) (a := a.eval x) (b := a.eval y) (fun p q hpq => g1 _ hpq.1) (fun hpq => g2 hpq.1) w
    simp only [execOp, Sem.run_bind, hg, h1, Result.andThen_ok, Sem.run_pure]
  · rename_i uop T x
    exact runs_of rfl (qUn_sound h w (he x (by simp [Op.operands])))
  · rename_i src d x
    exact runs_of rfl (qConv_sound hty h hφ w (he x (by simp [Op.operands])))
  · rename_i f first caps
    split at h
    · rename_i ks cs hk hc
      obtain ⟨e1, e2⟩ := some_pair h; subst e1; subst e2
      have h1 := ptrsOf_sound hk (a := a) (σ := σ) fun x hx => he x (by simp [Op.operands]; left; simpa using hx)
      have h2 := ptrsOf_sound hc (a := a) (σ := σ) fun x hx => he x (by simp [Op.operands]; right; simpa using hx)
      exact ⟨.func (.func f) (first.map a.eval) (caps.map a.eval), 0, rfl, _, _, by rw [← Array.toList_map, ← Array.toList_map], h1, h2⟩
    · cases h
  · rename_i T x i
    exact runs_of rfl (qFieldAddr_sound hty h w (he x (by simp [Op.operands])))
  · rename_i T x i
    exact runs_of rfl (qField_sound hty h w (he x (by simp [Op.operands])))
  · rename_i T parts
    refine runs_of rfl (qBuild_sound hty h w (by simp) ?_)
    intro i p q h1 h2
    simp only [Array.toList_map, List.getElem?_map] at h1 h2
    cases hp : parts.toList[i]? with
    | none => simp [hp] at h1
    | some pq =>
      simp [hp] at h1 h2
      subst h1; subst h2
      refine ⟨rfl, he _ ?_⟩
      simp only [Op.operands, List.mem_map]
      exact ⟨pq, List.mem_of_getElem? hp, rfl⟩
  · rename_i T x i
    exact runs_of rfl (qIndexAddr_sound hty h hφ hs (he x (by simp [Op.operands])) (he i (by simp [Op.operands])))
  · rename_i x i
    have hx := he x (by simp [Op.operands])
    split at h
    · rename_i xs hxs
      rw [hxs] at hx
      obtain ⟨us, hu, hr⟩ := hx
      split at h
      · rename_i y hy
        obtain ⟨e1, e2⟩ := some_pair h; subst e1; subst e2
        obtain ⟨u, h1, h2⟩ := hr.get hy
        exact ⟨u, 0, by simp [execOp, hu, Instr.extract, h1, World.drewN_zero], h2⟩
      · cases h
    · cases h
  · rename_i args argTypes
    split at h
    · rename_i x T hx hT
      cases hb : isSli ty T
      · simp [hb] at h
      · simp only [hb, cond_true] at h
        have ha : args = #[x] := by apply Array.toList_inj.1; simpa using hx
        have hat : argTypes = #[T] := by apply Array.toList_inj.1; simpa using hT
        subst ha; subst hat
        have := qLen_sound (P := P) hty (t' := t) hb h hs (he x (by simp [Op.operands, Call.operands]))
        obtain ⟨v, d, h1, h2⟩ := this
        exact ⟨v, d, by simp [execOp, resolve, invoke, builtin, h1], h2⟩
    · cases h
  · rename_i args argTypes
    split at h
    · rename_i x y hx
      have ha : args = #[x, y] := by apply Array.toList_inj.1; simpa using hx
      subst ha
      have h1 := he x (by simp [Op.operands, Call.operands])
      have h2 := he y (by simp [Op.operands, Call.operands])
      split at h
      · rename_i p q hp hq
        obtain ⟨e1, e2⟩ := some_pair h; subst e1; subst e2
        rw [hp] at h1; rw [hq] at h2
        obtain ⟨b1, h3, h4⟩ := h1
        obtain ⟨b2, h5, h6⟩ := h2
        exact ⟨.complex .f32 b1 b2, 0, by simp [execOp, resolve, invoke, builtin, h3, h5, run_complex, World.drewN_zero], b1, b2, rfl, h4, h6⟩
      · rename_i p q hp hq
        obtain ⟨e1, e2⟩ := some_pair h; subst e1; subst e2
        rw [hp] at h1; rw [hq] at h2
        obtain ⟨b1, h3, h4⟩ := h1
        obtain ⟨b2, h5, h6⟩ := h2
        exact ⟨.complex .f64 b1 b2, 0, by simp [execOp, resolve, invoke, builtin, h3, h5, run_complex, World.drewN_zero], b1, b2, rfl, h4, h6⟩
      · cases h
    · cases h
  · rename_i args argTypes
    split at h
    · rename_i x hx
      have ha : args = #[x] := by apply Array.toList_inj.1; simpa using hx
      subst ha
      have h1 := he x (by simp [Op.operands, Call.operands])
      split at h
      · rename_i k p q hp
        obtain ⟨e1, e2⟩ := some_pair h; subst e1; subst e2
        rw [hp] at h1
        obtain ⟨b1, b2, h3, h4, h5⟩ := h1
        exact ⟨.float k b1, 0, by simp [execOp, resolve, invoke, builtin, h3, run_real, World.drewN_zero], b1, rfl, h4⟩
      · cases h
    · cases h
  · rename_i args argTypes
    split at h
    · rename_i x hx
      have ha : args = #[x] := by apply Array.toList_inj.1; simpa using hx
      subst ha
      have h1 := he x (by simp [Op.operands, Call.operands])
      split at h
      · rename_i k p q hp
        obtain ⟨e1, e2⟩ := some_pair h; subst e1; subst e2
        rw [hp] at h1
        obtain ⟨b1, b2, h3, h4, h5⟩ := h1
        exact ⟨.float k b2, 0, by simp [execOp, resolve, invoke, builtin, h3, run_imag, World.drewN_zero], b2, rfl, h5⟩
      · cases h
    · cases h
  · cases h

end
end
end Go.AX
