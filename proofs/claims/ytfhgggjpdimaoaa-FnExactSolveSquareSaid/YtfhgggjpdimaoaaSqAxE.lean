/- A symbolic walk over the code of one function, and that it tells no more than the model does: no condition. -/
import Derived.Test.YtfhgggjpdimaoaaSqAxD
import Derived.Maps.AppendAt
import Derived.Laws.OwnMore
import Derived.Great.BuildSlice
set_option linter.unusedVariables false
set_option linter.unusedSimpArgs false
namespace Go.AX
noncomputable section
open Go.RowKit

/-! ## Operations that make memory, and that write it -/

def datF : List AC → Option (List Nat)
  | [] => some []
  | .fl .f32 x :: r => match datF r with
    | some xs => some (x :: xs)
    | none => none
  | _ => none
def datC : List AC → Option (List (Nat × Nat))
  | [] => some []
  | .cx .f32 x y :: r => match datC r with
    | some xs => some ((x, y) :: xs)
    | none => none
  | _ => none
def datW : List AC → Option (List (Nat × Nat × Nat))
  | [] => some []
  | .cx .f32 x y :: .fl .f32 z :: r => match datW r with
    | some xs => some ((x, y, z) :: xs)
    | none => none
  | _ => none
def datP : List AC → Option (List (Nat × Nat × Nat))
  | [] => some []
  | .fl .f32 x :: .fl .f32 y :: .fl .f32 z :: r => match datP r with
    | some xs => some ((x, y, z) :: xs)
    | none => none
  | _ => none
/-- What an array of such cells holds. -/
def mkDat (sz : Nat) (cs : List AC) : Option Dat :=
  match sz with
  | 1 => match datF cs with
    | some xs => some (.f xs)
    | none => match datC cs with
      | some xs => some (.c xs)
      | none => none
  | 2 => match datW cs with
    | some xs => some (.w xs)
    | none => none
  | 3 => match datP cs with
    | some xs => some (.p xs)
    | none => none
  | _ => none

def zeroDat (z : List Value) (n : Nat) : Option Dat :=
  match z with
  | [.float .f32 0] => some (.f (List.replicate n 0))
  | [.complex .f32 0 0] => some (.c (List.replicate n (0, 0)))
  | [.complex .f32 0 0, .float .f32 0] => some (.w (List.replicate n (0, 0, 0)))
  | [.float .f32 0, .float .f32 0, .float .f32 0] => some (.p (List.replicate n (0, 0, 0)))
  | _ => none

def Dat.cat : Dat → Dat → Option Dat
  | .f xs, .f ys => some (.f (xs ++ ys))
  | .c xs, .c ys => some (.c (xs ++ ys))
  | .w xs, .w ys => some (.w (xs ++ ys))
  | .p xs, .p ys => some (.p (xs ++ ys))
  | _, _ => none

/-- Some cells of element i, from cell j on. -/
def Dat.put : Dat → Nat → Nat → List AC → Option Dat
  | .f xs, i, 0, [.fl .f32 x] => some (.f (xs.set i x))
  | .c xs, i, 0, [.cx .f32 x y] => some (.c (xs.set i (x, y)))
  | .w xs, i, 0, [.cx .f32 x y, .fl .f32 z] => some (.w (xs.set i (x, y, z)))
  | .w xs, i, 0, [.cx .f32 x y] => some (.w (xs.set i (x, y, (xs.getD i (0, 0, 0)).2.2)))
  | .w xs, i, 1, [.fl .f32 z] => some (.w (xs.set i ((xs.getD i (0, 0, 0)).1, (xs.getD i (0, 0, 0)).2.1, z)))
  | .p xs, i, 0, [.fl .f32 x, .fl .f32 y, .fl .f32 z] => some (.p (xs.set i (x, y, z)))
  | _, _, _, _ => none

def placesN (n sz : Nat) : List (Nat × Nat) := (List.range n).map fun i => (i * sz, sz)

def gOp (ty : TyT) (env : List (Nat × AV)) (L : List Ent) (op : Op) : Option (Option Prop × AV × Ent) :=
  match op with
  | .alloc T => match ty T with
    | some ti => some (none, one (.pv L.length 0), .var T (ti.zero.map cst))
    | none => none
  | .box T x => match ev env x with
    | .v y => bif y.solid then some (none, one (.pv L.length 0), .var T y.cells) else none
    | _ => none
  | .buildSlice T n parts => match ty T with
    | some { k := .sli e, .. } => match ty e with
      | some te => bif Nat.beq n 0 && parts.toList.isEmpty then
          match zeroDat te.zero 0 with
          | some D => some (none, one (.sl L.length), .arr true e D)
          | none => some (none, one (.sw L.length 0 0), .var e [])
        else bif Nat.blt 0 (n * te.size) && Nat.ble (n * te.size) 16777216 then
          match lay (placesN n te.size) (parts.toList.map fun p => (p.1, ev env p.2)) (List.replicate (n * te.size) .any) with
          | some cs => match mkDat te.size cs with
            | some D => some (none, one (.sl L.length), .arr true e D)
            | none => some (none, one (.sv L.length n), .var e cs)
          | none => none
        else none
      | none => none
    | _ => none
  | .makeSlice T l c => match ty T, ev env l, ev env c with
    | some { k := .sli e, .. }, .v (.one (.ex (.int _ m))), .v (.one (.ex (.int _ m'))) => match ty e with
      | some te => match zeroDat te.zero m.toNat with
        | some D => some (some (m = m' ∧ 0 ≤ m ∧ m ≤ 1099511627776 ∧ te.bytes ≤ 64), one (.sl L.length), .arr true e D)
        | none => none
      | none => none
    | _, _, _ => none
  | .call { callee := .builtin .append, args, argTypes } => match args.toList, argTypes.toList with
    | [s, x], [T, T'] => match ty T, ev env s, ev env x with
      | some { k := .sli e, .. }, .v (.one (.ex (.slice none 0 0))), .v (.one (.sl k)) => match ty e, L[k]? with
        | some te, some (.arr _ _ D) => bif Nat.beq T T' && Nat.beq te.size D.sz then some (some (D.len ≤ 1099511627776 ∧ te.bytes ≤ 64), one (.sl L.length), .arr true e D) else none
        | _, _ => none
      | _, _, _ => none
    | _, _ => none
  | _ => none

/-- An array has moved: what pointed to it is told no more. -/
def AC.kill (k : Nat) : AC → AC
  | .sl k' => bif Nat.beq k' k then .any else .sl k'
  | .pe k' sz i j => bif Nat.beq k' k then .any else .pe k' sz i j
  | .pv k' j => bif Nat.beq k' k then .any else .pv k' j
  | .sv k' n => bif Nat.beq k' k then .any else .sv k' n
  | .sw k' n c => bif Nat.beq k' k then .any else .sw k' n c
  | .fn f fs cs => bif fs.contains k || cs.contains k then .any else .fn f fs cs
  | c => c
def A1.kill (k : Nat) : A1 → A1
  | .one c => .one (c.kill k)
  | .agg cs => .agg (cs.map (AC.kill k))
def AV.kill (k : Nat) : AV → AV
  | .v x => .v (x.kill k)
  | .tup xs => .tup (xs.map (A1.kill k))
def Ent.kill (k : Nat) : Ent → Ent
  | .var T cs => .var T (cs.map (AC.kill k))
  | E => E
def envKill (k : Nat) (env : List (Nat × AV)) : List (Nat × AV) := env.map fun p => (p.1, p.2.kill k)

def mOp (ty : TyT) (m0 : Nat) (dst : Option Nat) (s : St) (op : Op) : Option (Option Prop × St) :=
  match op with
  | .store T x v => match ty T, ev s.env x, ev s.env v with
    | some ti, .v (.one (.pv k j)), .v y => match s.L[k]? with
      | some (.var T' cs) => bif Nat.beq y.cells.length ti.size && Nat.ble (j + ti.size) cs.length && y.solid && y.cells.all AC.solid then
          some (none, { s with env := envPut s.env dst (one .any), L := s.L.set k (.var T' (cs.take j ++ y.cells ++ cs.drop (j + ti.size))) }) else none
      | _ => none
    | some ti, .v (.one (.pe k sz i j)), .v y => match s.L[k]? with
      | some (.arr true T' D) => bif Nat.beq y.cells.length ti.size && Nat.beq D.sz sz && y.solid then
          match D.put i j y.cells with
          | some D' => some (some (i < D.len), { s with env := envPut s.env dst (one .any), L := s.L.set k (.arr true T' D') })
          | none => none
        else none
      | _ => none
    | _, _, _ => none
  | .call { callee := .builtin .append, args, argTypes } => match args.toList, argTypes.toList with
    | [a, x], [T, T'] => match ty T, ev s.env a, ev s.env x with
      | some { k := .sli e, .. }, .v (.one (.sl k)), .v (.one (.sl k')) => match ty e, s.L[k]?, s.L[k']? with
        | some te, some (.arr true e' D), some (.arr _ _ D') =>
          bif Nat.beq T T' && Nat.beq e' e && Nat.beq te.size D.sz && Nat.ble m0 k && !(Nat.beq k k') then
            match D.cat D' with
            | some D'' => some (some (D.len + D'.len ≤ 1099511627776 ∧ te.bytes ≤ 64), { env := envPut (envKill k s.env) dst (one (.sl k)), L := (s.L.map (Ent.kill k)).set k (.arr true e D'') })
            | none => none
          else none
        | _, _, _ => none
      | some { k := .sli e, .. }, .v (.one (.sl k)), .v (.one (.ex (.slice none 0 0))) => match ty e, s.L[k]? with
        | some te, some (.arr true e' D) => bif Nat.beq T T' && Nat.beq e' e && Nat.beq te.size D.sz then some (none, s.put dst (one (.sl k))) else none
        | _, _ => none
      | _, _, _ => none
    | _, _ => none
  | _ => none

section
variable {P : Program} {ty : TyT}

theorem relC_dat {σ : List Value} {D : Dat} {i j : Nat} {u : Value} (h : RelC σ (D.cell i j) u) : RelC [] (D.cell i j) u := by
  cases D with
  | f xs => exact h
  | c xs => exact h
  | w xs => cases j <;> exact h
  | p xs =>
    match j with
    | 0 => exact h
    | 1 => exact h
    | _ + 2 => exact h

theorem datF_get : ∀ {cs : List AC} {xs : List Nat}, datF cs = some xs → cs = xs.map (.fl .f32 ·)
  | [], xs, h => by simp [datF] at h; subst h; rfl
  | c :: cs, xs, h => by
    unfold datF at h
    split at h
    · rename_i heq; cases heq
    · rename_i x r heq
      injection heq with h1 h2
      subst h1; subst h2
      split at h
      · rename_i ys hy; cases h; simp [datF_get hy]
      · cases h
    · cases h
theorem datC_get : ∀ {cs : List AC} {xs : List (Nat × Nat)}, datC cs = some xs → cs = xs.map (fun e => .cx .f32 e.1 e.2)
  | [], xs, h => by simp [datC] at h; subst h; rfl
  | c :: cs, xs, h => by
    unfold datC at h
    split at h
    · rename_i heq; cases heq
    · rename_i x y r heq
      injection heq with h1 h2
      subst h1; subst h2
      split at h
      · rename_i ys hy; cases h; simp [datC_get hy]
      · cases h
    · cases h
theorem datW_get : ∀ {cs : List AC} {xs : List (Nat × Nat × Nat)}, datW cs = some xs → cs = xs.flatMap (fun e => [.cx .f32 e.1 e.2.1, .fl .f32 e.2.2])
  | [], xs, h => by simp [datW] at h; subst h; rfl
  | [c], xs, h => by unfold datW at h; split at h <;> simp_all
  | c :: d :: cs, xs, h => by
    unfold datW at h
    split at h
    · rename_i heq; cases heq
    · rename_i x y z r heq
      injection heq with h1 h2
      injection h2 with h2 h3
      subst h1; subst h2; subst h3
      split at h
      · rename_i ys hy; cases h; simp [datW_get hy]
      · cases h
    · cases h
theorem datP_get : ∀ {cs : List AC} {xs : List (Nat × Nat × Nat)}, datP cs = some xs → cs = xs.flatMap (fun e => [.fl .f32 e.1, .fl .f32 e.2.1, .fl .f32 e.2.2])
  | [], xs, h => by simp [datP] at h; subst h; rfl
  | [c], xs, h => by unfold datP at h; split at h <;> simp_all
  | [c, d], xs, h => by unfold datP at h; split at h <;> simp_all
  | c :: d :: e :: cs, xs, h => by
    unfold datP at h
    split at h
    · rename_i heq; cases heq
    · rename_i x y z r heq
      injection heq with h1 h2
      injection h2 with h2 h3
      injection h3 with h3 h4
      subst h1; subst h2; subst h3; subst h4
      split at h
      · rename_i ys hy; cases h; simp [datP_get hy]
      · cases h
    · cases h

theorem flat_get {α β : Type} (f : α → List β) (sz : Nat) (hf : ∀ x, (f x).length = sz) : ∀ (xs : List α) (i j : Nat) (x : α) , xs[i]? = some x → j < sz → (xs.flatMap f)[i * sz + j]? = (f x)[j]?
  | [], i, j, x, h, _ => by simp at h
  | y :: ys, 0, j, x, h, hj => by
    simp at h; subst h
    rw [List.flatMap_cons, List.getElem?_append_left (by rw [hf]; omega)]
    simp
  | y :: ys, i + 1, j, x, h, hj => by
    rw [List.flatMap_cons, List.getElem?_append_right (by rw [hf, Nat.add_mul]; omega), hf]
    have := flat_get f sz hf ys i j x (by simpa using h) hj
    rw [← this]; congr 1; rw [Nat.add_mul]; omega
theorem flat_len {α β : Type} (f : α → List β) (sz : Nat) (hf : ∀ x, (f x).length = sz) : ∀ (xs : List α), (xs.flatMap f).length = xs.length * sz
  | [] => by simp
  | y :: ys => by rw [List.flatMap_cons, List.length_append, hf, flat_len f sz hf ys, List.length_cons, Nat.add_mul]; omega

theorem getD_of {α : Type} {xs : List α} {i : Nat} (h : i < xs.length) (d : α) : xs[i]? = some (xs.getD i d) := by
  simp [List.getD, List.getElem?_eq_getElem h]

theorem mkDat_get {sz : Nat} {cs : List AC} {D : Dat} (h : mkDat sz cs = some D) : D.sz = sz ∧ D.len * sz = cs.length ∧ ∀ i j, i < D.len → j < D.sz → cs[i * D.sz + j]? = some (D.cell i j) := by
  unfold mkDat at h
  split at h
  · split at h
    · rename_i xs hx
      cases h
      have := datF_get hx
      subst this
      refine ⟨rfl, by simp [Dat.len], fun i j hi hj => ?_⟩
      simp only [Dat.sz] at hj ⊢
      have hj0 : j = 0 := by omega
      subst hj0
      simp only [Dat.len] at hi
      simp only [Dat.cell, Nat.mul_one, Nat.add_zero, List.getElem?_map, getD_of hi 0, Option.map_some]
    · split at h
      · rename_i xs hx
        cases h
        have := datC_get hx
        subst this
        refine ⟨rfl, by simp [Dat.len], fun i j hi hj => ?_⟩
        simp only [Dat.sz] at hj ⊢
        have hj0 : j = 0 := by omega
        subst hj0
        simp only [Dat.len] at hi
        simp only [Dat.cell, Nat.mul_one, Nat.add_zero, List.getElem?_map, getD_of hi (0, 0), Option.map_some]
      · cases h
  · split at h
    · rename_i xs hx
      cases h
      have := datW_get hx
      subst this
      refine ⟨rfl, by simp only [Dat.len]; rw [flat_len _ 2 (fun _ => rfl)], fun i j hi hj => ?_⟩
      simp only [Dat.sz] at hj ⊢
      simp only [Dat.len] at hi
      rw [flat_get _ 2 (fun _ => rfl) _ i j _ (getD_of hi (0, 0, 0)) hj]
      match j, hj with
      | 0, _ => rfl
      | 1, _ => rfl
    · cases h
  · split at h
    · rename_i xs hx
      cases h
      have := datP_get hx
      subst this
      refine ⟨rfl, by simp only [Dat.len]; rw [flat_len _ 3 (fun _ => rfl)], fun i j hi hj => ?_⟩
      simp only [Dat.sz] at hj ⊢
      simp only [Dat.len] at hi
      rw [flat_get _ 3 (fun _ => rfl) _ i j _ (getD_of hi (0, 0, 0)) hj]
      match j, hj with
      | 0, _ => rfl
      | 1, _ => rfl
      | 2, _ => rfl
    · cases h
  · cases h

theorem fill_mono {pl pl' : Nat → Option (Nat × Nat)} (h : ∀ i p, pl i = some p → pl' i = some p) : ∀ (vs : List (Nat × Value)) (cs r : Array Value), Instr.fill pl cs vs = some r → Instr.fill pl' cs vs = some r
  | [], cs, r, hf => by simpa [Instr.fill] using hf
  | (i, v) :: vs, cs, r, hf => by
    simp only [Instr.fill] at hf ⊢
    cases hp : pl i with
    | none => simp [hp] at hf
    | some oz =>
      obtain ⟨o, z⟩ := oz
      rw [h i _ hp]
      simp only [hp] at hf ⊢
      split at hf
      · cases hf
      · rename_i hc
        rw [if_neg hc]
        exact fill_mono h vs _ r hf

/-- What an operation that makes memory comes to. -/
def Grows (P : Program) (o : Oper) (a : Act) (σ : List Value) (L : List Ent) (w : World) (α : AV) (E : Ent) : Prop :=
  ∃ v u w', (execOp a.eval o).run P w = .ok (.value v) w' ∧ Ext w w' ∧ EntOK (σ ++ [u]) w' E u ∧ (∀ b, blkB E u = some b → w.heap.size ≤ b) ∧ RelV (σ ++ [u]) α v

theorem grows_alloc {o : Oper} {a : Act} {σ : List Value} {L : List Ent} {w : World} {T : TypeId} {cs : List AC} {us : List Value} (hs : SatL σ L w) (hr : RelCs σ cs us)
    (h : (execOp a.eval o).run P w = .ok (.value (at0 w.heap.size)) (w.alloc (.cells us.toArray T))) : Grows P o a σ L w (one (.pv L.length 0)) (.var T cs) := by
  refine ⟨_, at0 w.heap.size, _, h, Ext.alloc _ _, ⟨_, us, rfl, heap_alloc_new w _, hr.pre (Pre.app _ _)⟩, fun b hb => ?_, ⟨w.heap.size, ?_, rfl⟩⟩
  · simp [blkB, blkV, at0] at hb; omega
  · rw [← hs.len]; simp

theorem relCs_any (σ : List Value) : ∀ us : List Value, RelCs σ (List.replicate us.length .any) us
  | [] => trivial
  | u :: us => ⟨trivial, relCs_any σ us⟩

theorem ent_made {σ : List Value} {w : World} {T : TypeId} {D : Dat} {us : List Value} (hr : RelD D us) (hl : us.length = D.len * D.sz) (hm : D.len ≤ maxLen) :
    EntOK σ (w.alloc (.cells us.toArray T)) (.arr true T D) (.slice (some ⟨w.heap.size, 0, none⟩) D.len D.len) := by
  refine ⟨us, ⟨hl, .inr ⟨w.heap.size, D.len, us.toArray, rfl, Nat.zero_le _, heap_alloc_new w _, Nat.le_refl _, hm, by simp [hl], ?_⟩⟩, hr⟩
  simp [← hl]

theorem relD_of {σ : List Value} {sz : Nat} {cs : List AC} {D : Dat} {us : List Value} (h : mkDat sz cs = some D) (hr : RelCs σ cs us) : RelD D us ∧ us.length = D.len * D.sz := by
  obtain ⟨h1, h2, h3⟩ := mkDat_get h
  refine ⟨fun i j hi hj => ?_, by rw [← hr.len, ← h2, h1]⟩
  obtain ⟨u, h4, h5⟩ := hr.get (h3 i j hi hj)
  exact ⟨u, h4, relC_dat h5⟩

theorem made_toList (z : Array Value) (n : Nat) (q : Nat) (hq : q < n) : (madeCells z n).toList[q]? = some (z[q % z.size]!) := by
  simp [madeCells, hq]

theorem repD {α : Type} (n i : Nat) (x : α) : (List.replicate n x).getD i x = x := by
  simp only [List.getD, List.getElem?_replicate]
  split <;> rfl
theorem cn0 (k : FloatKind) : IsF k 0 0 := by cases k <;> exact ⟨by decide, by decide⟩

theorem zeroDat_get {z : List Value} {n : Nat} {D : Dat} (h : zeroDat z n = some D) : D.sz = z.length ∧ D.len = n ∧ ∀ i j, j < D.sz → ∃ u, z[j]? = some u ∧ RelC [] (D.cell i j) u := by
  unfold zeroDat at h
  split at h <;> first | (cases h; done) | skip
  · cases h
    refine ⟨rfl, by simp [Dat.len], fun i j hj => ?_⟩
    have : j = 0 := by simp only [Dat.sz] at hj; omega
    subst this
    refine ⟨_, rfl, 0, rfl, ?_⟩
    rw [repD]; exact cn0 _
  · cases h
    refine ⟨rfl, by simp [Dat.len], fun i j hj => ?_⟩
    have : j = 0 := by simp only [Dat.sz] at hj; omega
    subst this
    refine ⟨_, rfl, 0, 0, rfl, ?_⟩
    rw [repD]; exact ⟨cn0 _, cn0 _⟩
  · cases h
    refine ⟨rfl, by simp [Dat.len], fun i j hj => ?_⟩
    simp only [Dat.sz] at hj
    match j, hj with
    | 0, _ => refine ⟨_, rfl, 0, 0, rfl, ?_⟩; rw [repD]; exact ⟨cn0 _, cn0 _⟩
    | 1, _ => refine ⟨_, rfl, 0, rfl, ?_⟩; rw [repD]; exact cn0 _
  · cases h
    refine ⟨rfl, by simp [Dat.len], fun i j hj => ?_⟩
    simp only [Dat.sz] at hj
    match j, hj with
    | 0, _ => refine ⟨_, rfl, 0, rfl, ?_⟩; rw [repD]; exact cn0 _
    | 1, _ => refine ⟨_, rfl, 0, rfl, ?_⟩; rw [repD]; exact cn0 _
    | 2, _ => refine ⟨_, rfl, 0, rfl, ?_⟩; rw [repD]; exact cn0 _

/-- The cells of an array, one behind another. -/
theorem reads_news {w : World} {v : Value} {D : Dat} (h : Reads w v D) : (v = .slice none 0 0 ∧ D.len = 0) ∨ ∃ ad c news, v = .slice (some ad) D.len c ∧ news.length = D.len * D.sz ∧ (∀ (j : Nat) (u : Value), news[j]? = some u → w.cell? (ad.add j) = some u) ∧ RelD D news := by
  obtain ⟨A, n, c, rfl, rfl, h3, hA, hcell⟩ := h
  cases A with
  | none =>
    left
    by_cases h0 : D.len = 0
    · rw [hA rfl, h0]; exact ⟨rfl, rfl⟩
    · obtain ⟨ad, _, h, _⟩ := hcell 0 0 (by omega) D.sz_pos
      cases h
  | some ad =>
    right
    have hv : ∀ q, q < D.len * D.sz → ∃ u, w.cell? (ad.add q) = some u ∧ RelC [] (D.cell (q / D.sz) (q % D.sz)) u := fun q hq => by
      have h1 : q / D.sz < D.len := by rw [Nat.div_lt_iff_lt_mul D.sz_pos]; exact hq
      obtain ⟨ad', u, e, h4, h5⟩ := hcell (q / D.sz) (q % D.sz) h1 (Nat.mod_lt _ D.sz_pos)
      cases e
      refine ⟨u, ?_, h5⟩
      rw [add_add, Nat.mul_comm, Nat.div_add_mod] at h4
      exact h4
    let f : Nat → Value := fun q => if hq : q < D.len * D.sz then (hv q hq).choose else undef
    have hf : ∀ q, q < D.len * D.sz → w.cell? (ad.add q) = some (f q) ∧ RelC [] (D.cell (q / D.sz) (q % D.sz)) (f q) := fun q hq => by
      simp only [f, dif_pos hq]; exact (hv q hq).choose_spec
    refine ⟨ad, c, (List.range (D.len * D.sz)).map f, rfl, by simp, fun j u hj => ?_, fun i j hi hj => ?_⟩
    · rw [List.getElem?_map] at hj
      by_cases hlt : j < D.len * D.sz
      · rw [List.getElem?_range hlt] at hj
        simp at hj; subst hj
        exact (hf j hlt).1
      · rw [List.getElem?_eq_none (by simp; omega)] at hj; simp at hj
    · have hq : i * D.sz + j < D.len * D.sz := by
        calc i * D.sz + j < i * D.sz + D.sz := by omega
          _ = (i + 1) * D.sz := by rw [Nat.add_mul]; omega
          _ ≤ D.len * D.sz := Nat.mul_le_mul_right _ hi
      refine ⟨f (i * D.sz + j), by rw [List.getElem?_map, List.getElem?_range hq]; rfl, ?_⟩
      have h2 := (hf _ hq).2
      have e1 : (i * D.sz + j) / D.sz = i := by
        rw [Nat.mul_comm, Nat.mul_add_div D.sz_pos, Nat.div_eq_of_lt hj]; omega
      have e2 : (i * D.sz + j) % D.sz = j := by
        rw [Nat.mul_comm, Nat.mul_add_mod, Nat.mod_eq_of_lt hj]
      rw [e1, e2] at h2
      exact h2

theorem cell_solid (D : Dat) (i j : Nat) : (D.cell i j).solid = true := by
  cases D with
  | f xs => rfl
  | c xs => rfl
  | w xs => match j with
    | 0 => rfl
    | _ + 1 => rfl
  | p xs => match j with
    | 0 => rfl
    | 1 => rfl
    | _ + 2 => rfl

theorem relD_one {D : Dat} {us : List Value} (h : RelD D us) (hl : us.length = D.len * D.sz) : ∀ u ∈ us, u.oneCell' = true := by
  intro u hu
  obtain ⟨q, hq⟩ := List.getElem?_of_mem hu
  have hlt : q < D.len * D.sz := by rw [← hl]; exact (List.getElem?_eq_some_iff.1 hq).1
  have h1 : q / D.sz < D.len := by rw [Nat.div_lt_iff_lt_mul D.sz_pos]; exact hlt
  obtain ⟨v, h2, h3⟩ := h (q / D.sz) (q % D.sz) h1 (Nat.mod_lt _ D.sz_pos)
  rw [Nat.mul_comm, Nat.div_add_mod, hq] at h2
  cases h2
  exact solid_one h3 (cell_solid D _ _)

theorem cat_get {D D' D'' : Dat} (h : D.cat D' = some D'') : D.sz = D''.sz ∧ D'.sz = D''.sz ∧ D''.len = D.len + D'.len ∧ (∀ i j, i < D.len → D''.cell i j = D.cell i j) ∧ (∀ i j, D''.cell (D.len + i) j = D'.cell i j) := by
  have gl : ∀ {α : Type} (xs ys : List α) (i : Nat) (d : α), i < xs.length → (xs ++ ys).getD i d = xs.getD i d := fun xs ys i d h => by
    simp [List.getD, List.getElem?_append_left h]
  have gr : ∀ {α : Type} (xs ys : List α) (i : Nat) (d : α), (xs ++ ys).getD (xs.length + i) d = ys.getD i d := fun xs ys i d => by
    simp [List.getD, List.getElem?_append_right]
  cases D <;> cases D' <;> simp only [Dat.cat] at h <;> first | (cases h; done) | skip
  all_goals (cases h; refine ⟨rfl, rfl, by simp [Dat.len], fun i j hi => ?_, fun i j => ?_⟩)
  all_goals (simp only [Dat.len] at *; simp only [Dat.cell])
  all_goals first | rw [gr] | rw [gl _ _ _ _ hi]

theorem relD_cat {D D' D'' : Dat} (h : D.cat D' = some D'') {us vs : List Value} (hu : RelD D us) (hl : us.length = D.len * D.sz) (hv : RelD D' vs) : RelD D'' (us ++ vs) := by
  obtain ⟨h1, h2, h3, h4, h5⟩ := cat_get h
  intro i j hi hj
  rw [← h1] at hj ⊢
  by_cases hlt : i < D.len
  · obtain ⟨u, h6, h7⟩ := hu i j hlt hj
    refine ⟨u, ?_, by rw [h4 i j hlt]; exact h7⟩
    rw [List.getElem?_append_left (List.getElem?_eq_some_iff.1 h6).1]; exact h6
  · obtain ⟨q, rfl⟩ : ∃ q, i = D.len + q := ⟨i - D.len, by omega⟩
    obtain ⟨u, h6, h7⟩ := hv q j (by omega) (by omega)
    refine ⟨u, ?_, by rw [h5]; exact h7⟩
    rw [List.getElem?_append_right (by rw [hl, Nat.add_mul]; omega), hl, Nat.add_mul, ← h6, h2, h1]
    congr 1; omega

theorem parts_rel {σ : List Value} {env : List (Nat × AV)} {a : Act} {parts : Array (Nat × Operand)} (he : ∀ p ∈ parts.toList, RelV σ (ev env p.2) (a.eval p.2)) :
    (parts.toList.map fun p => (p.1, ev env p.2)).length = (parts.map fun (i, x) => (i, a.eval x)).toList.length ∧
    ∀ (i : Nat) (p : Nat × AV) (q : Nat × Value), (parts.toList.map fun p => (p.1, ev env p.2))[i]? = some p → (parts.map fun (i, x) => (i, a.eval x)).toList[i]? = some q → p.1 = q.1 ∧ RelV σ p.2 q.2 := by
  refine ⟨by simp, fun i p q h1 h2 => ?_⟩
  simp only [Array.toList_map, List.getElem?_map] at h1 h2
  cases hp : parts.toList[i]? with
  | none => simp [hp] at h1
  | some pq =>
    simp [hp] at h1 h2
    subst h1; subst h2
    exact ⟨rfl, he _ (List.mem_of_getElem? hp)⟩

theorem rows_eq (n sz : Nat) : ∀ i p, (placesN n sz).toArray[i]? = some p → (fun i => some (i * sz, sz)) i = some p := by
  intro i p h
  simp only [placesN, List.getElem?_toArray, List.getElem?_map] at h
  by_cases hi : i < n
  · rw [List.getElem?_range hi] at h; simpa using h
  · rw [List.getElem?_eq_none (by simp; omega)] at h; cases h

theorem run_append_dat (hty : TyOK P ty) {T e : TypeId} {s b : Nat} {z : List Value} {te : TI} (hT : ty T = some { k := .sli e, size := s, bytes := b, zero := z }) (he : ty e = some te) (t' : TypeId) {w : World}
    {D D' D'' : Dat} (hsz : te.size = D.sz) (hc : D.cat D' = some D'') {v x : Value} {us : List Value} (hown : w.ownsRow 0 e D.sz v D.len us) (hr : RelD D us) (hx : Reads w x D') (hn : D.len + D'.len ≤ 1099511627776) (hb : te.bytes ≤ 64) :
    ∃ v' w', (Builtin.append_ #[T, T] t' #[v, x]).run P w = .ok v' w' ∧ (∃ us', w'.ownsRow 0 e D''.sz v' D''.len us' ∧ RelD D'' us') ∧ w.grownBy w' (blkV v) ∧ (blkV v' = blkV v ∨ blkV v' = some w.heap.size) ∧ isSl v' = true := by
  obtain ⟨⟨i, zz, h1, h2, h3, h4, h5⟩, h6, _⟩ := hty _ _ he
  obtain ⟨_, _, hu, _⟩ := hty _ _ hT
  obtain ⟨c1, c2, c3, c4, c5⟩ := cat_get hc
  have sl_of : ∀ {w : World} {v : Value} {n : Nat} {us : List Value}, w.ownsRow 0 e D''.sz v n us → isSl v = true := by
    intro w v n us h
    rcases h.2 with ⟨rfl, _⟩ | ⟨g, cap, cur, rfl, _⟩ <;> rfl
  rcases reads_news hx with ⟨rfl, h0⟩ | ⟨ad, c, news, rfl, hl, hcell, hrel⟩
  · have hrun := run_append_owned_none (P := P) w 0 T t' e i D.sz hu h1 v D.len us hown
    have hown' : w.ownsRow 0 e D''.sz v D''.len us := by rw [c3, h0, ← c1]; exact hown
    refine ⟨v, w, hrun, ⟨us, hown', ?_⟩, ⟨rfl, rfl, rfl, Nat.le_refl _, fun _ _ _ => rfl⟩, .inl rfl, sl_of hown'⟩
    have := relD_cat hc hr hown.1 (vs := []) (fun i j hi _ => absurd hi (by omega))
    simpa using this
  · have hmax : D.len + D'.len ≤ maxLen := by simp only [maxLen]; omega
    have hbytes : (D.len + D'.len) * te.bytes ≤ 140737488355328 := by
      calc (D.len + D'.len) * te.bytes ≤ 1099511627776 * 64 := Nat.mul_le_mul hn hb
        _ ≤ _ := by decide
    obtain ⟨v', w', r1, r2, r3, r4, r5⟩ := run_append_own_at (P := P) w 0 T t' e i zz D.sz te.bytes hu h1 h4 (by rw [h2]; exact hsz) h3 (by rw [h5]; simp [h6, hsz]) D.sz_pos v D.len us hown ad D'.len c news (by rw [hl, c2, c1]) hcell (relD_one hrel hl) hmax hbytes (Nat.zero_le _)
    have hown' : w'.ownsRow 0 e D''.sz v' D''.len (us ++ news) := by rw [c3, ← c1]; exact r2
    rw [ownsRow_blk hown] at r3 r5
    rw [ownsRow_blk hown'] at r5
    exact ⟨v', w', r1, ⟨us ++ news, hown', relD_cat hc hr hown.1 hrel⟩, r3, r5, sl_of hown'⟩

theorem gOp_sound (hty : TyOK P ty) {env : List (Nat × AV)} {L : List Ent} {o : Oper} {φ : Option Prop} {α : AV} {E : Ent} (h : gOp ty env L o.op = some (φ, α, E)) (hφ : owed φ) {σ : List Value} {w : World} (hs : SatL σ L w)
    {a : Act} (he : EvOK σ env a o.op.operands.toList) : Grows P o a σ L w α E := by
  obtain ⟨dst, op, t, pos, after, guard⟩ := o
  simp only at h he
  have tri : ∀ {φ φ' : Option Prop} {α α' : AV} {E E' : Ent}, some (φ, α, E) = some (φ', α', E') → φ = φ' ∧ α = α' ∧ E = E' := by
    intro _ _ _ _ _ _ h; injection h with h; injection h with h1 h2; injection h2 with h2 h3; exact ⟨h1, h2, h3⟩
  unfold gOp at h
  split at h
  · rename_i T
    split at h
    · rename_i ti hT
      obtain ⟨e1, e2, e3⟩ := tri h; subst e1; subst e2; subst e3
      obtain ⟨⟨i, z, h1, h2, h3, h4, h5⟩, _⟩ := hty _ _ hT
      refine grows_alloc hs (rel_csts σ ti.zero) ?_
      simp [execOp, Instr.alloc, zeroValue, typeInfo, h1, h4, newVar, newRow, h5, at0]
    · cases h
  · rename_i T x
    split at h
    · rename_i y hy
      cases hb : y.solid
      · simp [hb] at h
      · simp only [hb, cond_true] at h
        obtain ⟨e1, e2, e3⟩ := tri h; subst e1; subst e2; subst e3
        have hx := he x (by simp [Op.operands])
        rw [hy] at hx
        obtain ⟨us, h1, h2⟩ := cells_rel hx hb
        refine grows_alloc hs h2 ?_
        simp [execOp, Instr.box, newVar, newRow, h1, at0]
    · cases h
  · rename_i T n parts
    split at h
    · rename_i s b z e hT
      obtain ⟨_, _, hu, _⟩ := hty _ _ hT
      split at h
      · rename_i te hte
        obtain ⟨⟨i, zz, h1, h2, h3, h4, h5⟩, h6, _⟩ := hty _ _ hte
        cases hn0 : (Nat.beq n 0 && parts.toList.isEmpty)
        case true =>
          simp only [hn0, cond_true] at h
          simp only [Bool.and_eq_true, List.isEmpty_iff] at hn0
          have hn := Nat.eq_of_beq_eq_true hn0.1
          subst hn
          have hparts : parts = #[] := by apply Array.toList_inj.1; simpa using hn0.2
          subst hparts
          split at h
          · rename_i D hD
            obtain ⟨e1, e2, e3⟩ := tri h; subst e1; subst e2; subst e3
            obtain ⟨g1, g2, g3⟩ := zeroDat_get hD
            have hrun : (execOp a.eval ⟨dst, .buildSlice T 0 #[], t, pos, after, guard⟩).run P w = .ok (.value (.slice (some ⟨w.heap.size, 0, none⟩) 0 0)) (w.alloc (.cells ([] : List Value).toArray e)) := by
              simp [execOp, Instr.buildSlice, run_underlying hu, sizeOf, typeInfo, h1, Instr.fill, newRow]; congr 2; apply Array.toList_inj.1; simp
            have hE := ent_made (σ := σ ++ [.slice (some ⟨w.heap.size, 0, none⟩) D.len D.len]) (w := w) (T := e) (D := D) (us := []) (fun i j hi => by omega) (by simp [g2]) (by omega)
            rw [g2] at hE
            refine ⟨_, _, _, hrun, Ext.alloc _ _, hE, fun b hb => ?_, ?_⟩
            · simp [blkB, blkV] at hb; omega
            · exact ⟨by rw [← hs.len]; simp, rfl⟩
          · obtain ⟨e1, e2, e3⟩ := tri h; subst e1; subst e2; subst e3
            have hrun : (execOp a.eval ⟨dst, .buildSlice T 0 #[], t, pos, after, guard⟩).run P w = .ok (.value (.slice (some ⟨w.heap.size, 0, none⟩) 0 0)) (w.alloc (.cells ([] : List Value).toArray e)) := by
              simp [execOp, Instr.buildSlice, run_underlying hu, sizeOf, typeInfo, h1, Instr.fill, newRow]; congr 2; apply Array.toList_inj.1; simp
            refine ⟨_, at0 w.heap.size, _, hrun, Ext.alloc _ _, ⟨_, [], rfl, heap_alloc_new w _, trivial⟩, fun b hb => ?_, ⟨w.heap.size, ?_, rfl⟩⟩
            · simp [blkB, blkV, at0] at hb; omega
            · rw [← hs.len]; simp
        simp only [hn0, cond_false] at h
        cases hb : (Nat.blt 0 (n * te.size) && Nat.ble (n * te.size) 16777216)
        · simp [hb] at h
        · simp only [hb, cond_true] at h
          simp only [Bool.and_eq_true] at hb
          have hb1 : 0 < n * te.size := Nat.lt_of_succ_le (Nat.le_of_ble_eq_true hb.1)
          have hb2 : n * te.size ≤ 16777216 := Nat.le_of_ble_eq_true hb.2
          split at h
          · rename_i cs hcs
            have hp := parts_rel (σ := σ) (env := env) (a := a) (parts := parts) fun p hp => he _ (by simp only [Op.operands, List.mem_map]; exact ⟨p, hp, rfl⟩)
            let zs : List Value := ((Array.range (n * i.size)).map (zz.cells[· % zz.cells.size]!)).toList
            have hzl : zs.length = n * te.size := by simp [zs, h2]
            have hany : RelCs σ (List.replicate (n * te.size) .any) zs := by rw [← hzl]; exact relCs_any σ zs
            obtain ⟨us', f1, f2⟩ := lay_sound hcs hany hp.1 hp.2
            have f3 := fill_mono (rows_eq n te.size) _ _ _ f1
            have hrun := run_buildSlice (P := P) w T e n (parts.map fun (i, x) => (i, a.eval x)) us'.toArray i zz hu h1 h4 (by rw [h2]; omega) (by rw [h2]; omega) (by rw [← Array.toArray_toList (xs := Array.map _ (Array.range (n * i.size)))]; rw [h2]; rw [← h2]; simpa only [zs, h2] using f3)
            have hrun' : (execOp a.eval ⟨dst, .buildSlice T n parts, t, pos, after, guard⟩).run P w = .ok (.value (.slice (some ⟨w.heap.size, 0, none⟩) n n)) (w.alloc (.cells us'.toArray e)) := by
              simp only [execOp, Sem.run_bind, hrun, Result.andThen_ok, Sem.run_pure]
            split at h
            · rename_i D hD
              obtain ⟨e1, e2, e3⟩ := tri h; subst e1; subst e2; subst e3
              obtain ⟨r1, r2⟩ := relD_of (σ := σ) hD f2
              have hlen := f2.len
              obtain ⟨m1, m2, m3⟩ := mkDat_get hD
              have hcsl : cs.length = n * te.size := by
                have h7 : ∀ {pl : List (Nat × Nat)} {parts : List (Nat × AV)} {cs cs' : List AC}, lay pl parts cs = some cs' → cs'.length = cs.length := by
                  intro pl parts
                  induction parts with
                  | nil => intro cs cs' h; simp [lay] at h; subst h; rfl
                  | cons p ps ih =>
                    intro cs cs' h
                    obtain ⟨pi, pv⟩ := p
                    cases pv with
                    | tup xs => simp [lay] at h
                    | v x =>
                      simp only [lay] at h
                      split at h
                      · rename_i o z _
                        cases hbb : (Nat.beq x.cells.length z && Nat.ble (o + z) cs.length && x.solid)
                        · simp [hbb] at h
                        · simp only [hbb, cond_true] at h
                          simp only [Bool.and_eq_true] at hbb
                          have q1 := Nat.eq_of_beq_eq_true hbb.1.1
                          have q2 := Nat.le_of_ble_eq_true hbb.1.2
                          rw [ih h]; simp; omega
                      · cases h
                rw [h7 hcs]; simp
              have hp0 : 0 < te.size := by
                rcases Nat.eq_zero_or_pos te.size with h0 | h0
                · rw [h0] at hb1; simp at hb1
                · exact h0
              have hn0 : n ≤ n * te.size := Nat.le_mul_of_pos_right _ hp0
              have hDn : D.len = n := by
                have hp : 0 < te.size := hp0
                exact Nat.eq_of_mul_eq_mul_right hp (by rw [m2, hcsl])
              have hE := ent_made (σ := σ ++ [.slice (some ⟨w.heap.size, 0, none⟩) D.len D.len]) (w := w) (T := e) r1 r2 (by rw [hDn]; simp only [maxLen]; omega)
              refine ⟨_, _, _, hrun', Ext.alloc _ _, hE, fun b hb => ?_, ?_⟩
              · simp [blkB, blkV] at hb; omega
              · refine ⟨?_, rfl⟩
                rw [← hs.len, hDn]; simp
            · obtain ⟨e1, e2, e3⟩ := tri h; subst e1; subst e2; subst e3
              refine ⟨_, at0 w.heap.size, _, hrun', Ext.alloc _ _, ⟨_, us', rfl, heap_alloc_new w _, f2.pre (Pre.app _ _)⟩, fun b hb => ?_, ⟨w.heap.size, ?_, rfl⟩⟩
              · simp [blkB, blkV, at0] at hb; omega
              · rw [← hs.len]; simp
          · cases h
      · cases h
    · cases h
  · rename_i T l c
    split at h
    · rename_i s b z e kl m kc m' hT hl hc
      obtain ⟨_, _, hu, _⟩ := hty _ _ hT
      split at h
      · rename_i te hte
        obtain ⟨⟨i, zz, h1, h2, h3, h4, h5⟩, h6, _⟩ := hty _ _ hte
        split at h
        · rename_i D hD
          obtain ⟨e1, e2, e3⟩ := tri h; subst e1; subst e2; subst e3
          obtain ⟨g1, g2, g3⟩ := zeroDat_get hD
          have hφ' : m = m' ∧ 0 ≤ m ∧ m ≤ 1099511627776 ∧ te.bytes ≤ 64 := hφ
          obtain ⟨rfl, q1, q2, q3⟩ := hφ'
          obtain ⟨n, rfl⟩ := Int.eq_ofNat_of_zero_le q1
          have hvl := he l (by simp [Op.operands]); rw [hl] at hvl
          have hvc := he c (by simp [Op.operands]); rw [hc] at hvc
          have hvl : a.eval l = .int kl n := hvl
          have hvc : a.eval c = .int kc n := hvc
          simp only [Int.toNat_natCast] at hD g2
          have hb' : i.bytes * n ≤ 281474976710656 := by
            calc i.bytes * n ≤ 64 * 1099511627776 := Nat.mul_le_mul (by omega) (by omega)
              _ ≤ _ := by decide
          have hsz : D.sz = te.size := by rw [g1, h6]
          obtain ⟨w', r1, r2, r3⟩ := run_make_full (P := P) w 0 T e i zz D.sz hu h1 h4 (by rw [h2, hsz]) kl kc n hb' (by simp only [maxLen]; omega) (Nat.zero_le _)
          have hrel : RelD D (madeCells zz.cells (n * D.sz)).toList := by
            intro ii j hi hj
            have hq : ii * D.sz + j < n * D.sz := by
              calc ii * D.sz + j < ii * D.sz + D.sz := by omega
                _ = (ii + 1) * D.sz := by rw [Nat.add_mul]; omega
                _ ≤ n * D.sz := Nat.mul_le_mul_right _ (by omega)
            obtain ⟨u, z1, z2⟩ := g3 ii j hj
            refine ⟨u, ?_, z2⟩
            rw [made_toList _ _ _ hq, h5]
            have : (ii * D.sz + j) % te.zero.toArray.size = j := by
              rw [List.size_toArray, ← g1, Nat.mul_comm, Nat.mul_add_mod, Nat.mod_eq_of_lt hj]
            rw [this]
            have hlt := (List.getElem?_eq_some_iff.1 z1).1
            rw [List.getElem?_eq_getElem hlt] at z1
            simp [hlt] at z1 ⊢
            exact z1
          refine ⟨.slice (some ⟨w.heap.size, 0, none⟩) n n, .slice (some ⟨w.heap.size, 0, none⟩) n n, w', ?_, Ext.grown r3, ⟨_, by rw [g2]; exact r2, hrel⟩, fun b hb => ?_, ?_⟩
          · simp only [execOp, hvl, hvc, Sem.run_bind, r1, Result.andThen_ok, Sem.run_pure]
          · simp [blkB, blkV] at hb; omega
          · refine ⟨?_, rfl⟩
            rw [← hs.len]; simp
        · cases h
      · cases h
    · cases h
  · rename_i args argTypes
    split at h
    · rename_i s x T T' hx hTT
      have ha : args = #[s, x] := by apply Array.toList_inj.1; simpa using hx
      have hat : argTypes = #[T, T'] := by apply Array.toList_inj.1; simpa using hTT
      subst ha; subst hat
      split at h
      · rename_i sz b z e k hT hs' hx'
        split at h
        · rename_i te own T2 D hte hL
          cases hb : (Nat.beq T T' && Nat.beq te.size D.sz)
          · simp [hb] at h
          · simp only [hb, cond_true] at h
            obtain ⟨e1, e2, e3⟩ := tri h; subst e1; subst e2; subst e3
            simp only [Bool.and_eq_true] at hb
            have hTT' : T = T' := Nat.eq_of_beq_eq_true hb.1
            subst hTT'
            have hsz : te.size = D.sz := Nat.eq_of_beq_eq_true hb.2
            have hφ' : D.len ≤ 1099511627776 ∧ te.bytes ≤ 64 := hφ
            have hvs := he s (by simp [Op.operands, Call.operands]); rw [hs'] at hvs
            have hvx := he x (by simp [Op.operands, Call.operands]); rw [hx'] at hvx
            have hvs : a.eval s = .slice none 0 0 := hvs
            obtain ⟨hvx, _⟩ : σ[k]? = some (a.eval x) ∧ isSl (a.eval x) = true := hvx
            have hrd := (hs.ok _ _ _ hL hvx).reads
            obtain ⟨D0, hD0, hl0, hz0⟩ : ∃ D0 : Dat, D0.cat D = some D ∧ D0.len = 0 ∧ D0.sz = D.sz := by
              cases D with
              | f xs => exact ⟨.f [], rfl, rfl, rfl⟩
              | c xs => exact ⟨.c [], rfl, rfl, rfl⟩
              | w xs => exact ⟨.w [], rfl, rfl, rfl⟩
              | p xs => exact ⟨.p [], rfl, rfl, rfl⟩
            obtain ⟨v', w', r1, ⟨us', r2, r3⟩, r4, r5, r6⟩ := run_append_dat hty hT hte t (w := w) (v := .slice none 0 0) (us := []) (by rw [hsz, hz0]) hD0 (by rw [hl0]; exact World.ownsRow_nil _ _ _ _) (fun i j hi _ => absurd hi (by omega)) hrd (by omega) hφ'.2
            refine ⟨v', v', w', ?_, Ext.grown r4, ⟨us', r2, r3⟩, fun b hb => ?_, ⟨by rw [← hs.len]; simp, r6⟩⟩
            · simp only [execOp, resolve, invoke, builtin, List.map_toArray, List.map_cons, List.map_nil, hvs, Sem.run_bind, Sem.run_pure, r1, Result.andThen_ok]
            · rcases r5 with r5 | r5
              · have hb : blkV v' = some b := hb
                rw [r5] at hb; cases hb
              · have hb : blkV v' = some b := hb
                rw [r5] at hb; cases hb; exact Nat.le_refl _
        · cases h
      · cases h
    · cases h
  · cases h

end
end
end Go.AX
