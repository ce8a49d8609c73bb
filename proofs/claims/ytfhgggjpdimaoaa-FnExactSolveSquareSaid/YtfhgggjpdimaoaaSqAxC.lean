/- A symbolic walk over the code of one function, and that it tells no more than the model does: no condition. -/
import Derived.Test.YtfhgggjpdimaoaaSqAxB
set_option linter.unusedVariables false
set_option linter.unusedSimpArgs false
namespace Go.AX
noncomputable section
open Go.RowKit

/-! ## Types, states, operations that leave memory alone -/

inductive TK where
  | scal (d : TypeDesc)
  | st (fs : List (Nat × TypeId))
  | sli (e : TypeId)

structure TI where
  size : Nat
  bytes : Nat
  zero : List Value
  k : TK

abbrev TyT := TypeId → Option TI

def TK.isSt : TK → Bool
  | .st _ => true
  | _ => false

/-- No struct, array or slice. -/
def plainD : TypeDesc → Bool
  | .struct _ | .array _ _ | .slice _ => false
  | _ => true

def TIOK (P : Program) (T : TypeId) (ti : TI) : Prop :=
  (∃ i z, P.info? T = some i ∧ i.size = ti.size ∧ i.bytes = ti.bytes ∧ i.zero = some z ∧ z.cells = ti.zero.toArray) ∧ ti.zero.length = ti.size ∧
  match ti.k with
  | .scal d => P.underlying T = some d ∧ plainD d = true ∧ ti.size = 1
  | .st fs => ∃ fields, P.underlying T = some (.struct fields) ∧ fields.toList.map (fun f => (f.offset, f.type)) = fs
  | .sli e => P.underlying T = some (.slice e) ∧ ti.size = 1

theorem fields_get {fields : Array Field} {fs : List (Nat × TypeId)} (h : fields.toList.map (fun f => (f.offset, f.type)) = fs) (i : Nat) (o : Nat) (t : TypeId) (hi : fs[i]? = some (o, t)) : ∃ f, fields[i]? = some f ∧ f.offset = o ∧ f.type = t := by
  rw [← h, List.getElem?_map] at hi
  cases hf : fields.toList[i]? with
  | none => simp [hf] at hi
  | some f =>
    simp [hf] at hi
    exact ⟨f, by simpa using hf, hi.1, hi.2⟩

def TyOK (P : Program) (ty : TyT) : Prop := ∀ T ti, ty T = some ti → TIOK P T ti

def envGet : List (Nat × AV) → Nat → AV
  | [], _ => .v (.one .any)
  | (t', α) :: r, t => bif Nat.beq t' t then α else envGet r t

structure St where
  env : List (Nat × AV)
  L : List Ent

def envPut (env : List (Nat × AV)) (dst : Option Nat) (α : AV) : List (Nat × AV) :=
  match dst with
  | some d => (d, α) :: env
  | none => env
def St.put (s : St) (dst : Option Nat) (α : AV) : St := { s with env := envPut s.env dst α }

def cst : Value → AC
  | .float k b => bif Nat.blt b (2 ^ wd k) then .fl k (cn k b) else .any
  | .complex k a b => bif Nat.blt a (2 ^ wd k) && Nat.blt b (2 ^ wd k) then .cx k (cn k a) (cn k b) else .any
  | v => .ex v

def ev (env : List (Nat × AV)) : Operand → AV
  | .tmp t => envGet env t
  | .const v => .v (.one (cst v))
  | .func f => .v (.one (.fn f [] []))
  | .global _ => .v (.one .any)

def EnvOK (σ : List Value) (env : List (Nat × AV)) (a : Act) : Prop := ∀ t, RelV σ (envGet env t) (a.tmps.getD t undef)
def EvOK (σ : List Value) (env : List (Nat × AV)) (a : Act) (xs : List Operand) : Prop := ∀ x, x ∈ xs → RelV σ (ev env x) (a.eval x)

theorem rel_cst (σ : List Value) (v : Value) : RelC σ (cst v) v := by
  unfold cst
  split
  · rename_i k b
    cases h : Nat.blt b (2 ^ wd k)
    · exact trivial
    · exact ⟨b, rfl, rfl, Nat.lt_of_succ_le (by simpa [Nat.blt] using h)⟩
  · rename_i k a b
    cases h : (Nat.blt a (2 ^ wd k) && Nat.blt b (2 ^ wd k))
    · exact trivial
    · simp only [Nat.blt, Bool.and_eq_true, Nat.ble_eq] at h
      exact ⟨a, b, rfl, ⟨rfl, Nat.lt_of_succ_le h.1⟩, ⟨rfl, Nat.lt_of_succ_le h.2⟩⟩
  · rfl

theorem EnvOK.ev {σ : List Value} {env : List (Nat × AV)} {a : Act} (h : EnvOK σ env a) (x : Operand) : RelV σ (ev env x) (a.eval x) := by
  cases x with
  | tmp t => exact h t
  | const v => exact rel_cst σ v
  | func f => exact ⟨[], [], rfl, trivial, trivial⟩
  | global g => exact trivial

abbrev exi (k : IntKind) (n : Int) : AV := .v (.one (.ex (.int k n)))
abbrev exb (b : Bool) : AV := .v (.one (.ex (.bool b)))
abbrev one (c : AC) : AV := .v (.one c)
abbrev fl32 (x : Nat) : AV := .v (.one (.fl .f32 x))
abbrev fl64 (x : Nat) : AV := .v (.one (.fl .f64 x))

/-- An answer: what is owed, and what the operation yields. -/
abbrev Ans := Option (Option Prop × AV)
def owed : Option Prop → Prop
  | none => True
  | some p => p

def andNI (k : IntKind) (m n : Int) : Int := k.wrap ((BitVec.ofInt k.bits m &&& ~~~(BitVec.ofInt k.bits n)).toNat : Int)
def iBin (op : BinOp) (k : IntKind) (m n : Int) : Ans :=
  match op with
  | .add => some (none, exi k (k.wrap (m + n)))
  | .sub => some (none, exi k (k.wrap (m - n)))
  | .mul => some (none, exi k (k.wrap (m * n)))
  | .quo => some (some (n ≠ 0), exi k (k.wrap (m.tdiv n)))
  | .rem => some (some (n ≠ 0), exi k (m.tmod n))
  | .eql => some (none, exb (m == n))
  | .neq => some (none, exb (m != n))
  | .lss => some (none, exb (decide (m < n)))
  | .leq => some (none, exb (decide (m ≤ n)))
  | .gtr => some (none, exb (decide (m > n)))
  | .geq => some (none, exb (decide (m ≥ n)))
  | .andNot => some (none, exi k (andNI k m n))
  | _ => none

def fBin (op : BinOp) (k : FloatKind) (x y : Nat) : Ans :=
  match op with
  | .add | .sub | .mul | .quo => some (none, .v (.one (.fl k (fop op k x y))))
  | .eql | .neq | .lss | .leq | .gtr | .geq => some (none, exb (fcmp op k x y))
  | _ => none

def cBin (op : BinOp) (k : FloatKind) (a b c d : Nat) : Ans :=
  match op with
  | .add | .sub => some (none, .v (.one (.cx k (fop op k a c) (fop op k b d))))
  | .eql => some (none, exb (fcmp .eql k a c && fcmp .eql k b d))
  | .neq => some (none, exb (!(fcmp .eql k a c && fcmp .eql k b d)))
  | _ => none

def bBin (op : BinOp) (x y : Bool) : Ans :=
  match op with
  | .eql => some (none, exb (x == y))
  | .neq => some (none, exb (!(x == y)))
  | _ => none

def isBoolT (ty : TyT) (T : TypeId) : Bool :=
  match ty T with
  | some { k := .scal .bool, .. } => true
  | _ => false

def qBin (ty : TyT) (op : BinOp) (T : TypeId) (x y : AV) : Ans :=
  match x, y with
  | .v (.one (.ex (.int k m))), .v (.one (.ex (.int k' n))) => if k = k' then iBin op k m n else none
  | .v (.one (.fl k x)), .v (.one (.fl k' y)) => if k = k' then fBin op k x y else none
  | .v (.one (.cx k a b)), .v (.one (.cx k' c d)) => if k = k' then cBin op k a b c d else none
  | .v (.one (.ex (.bool x))), .v (.one (.ex (.bool y))) => bif isBoolT ty T then bBin op x y else none
  | _, _ => none

def qUn (op : UnOp) (x : AV) : Ans :=
  match op, x with
  | .not, .v (.one (.ex (.bool b))) => some (none, exb (!b))
  | .neg, .v (.one (.ex (.int k n))) => some (none, exi k (k.wrap (0 - n)))
  | .neg, .v (.one (.fl k x)) => some (none, .v (.one (.fl k (fneg k x))))
  | .neg, .v (.one (.cx k x y)) => some (none, .v (.one (.cx k (fneg k x) (fneg k y))))
  | _, _ => none

def qConv (ty : TyT) (src dst : TypeId) (x : AV) : Ans :=
  match ty src, ty dst with
  | some _, some { k := .scal (.int k), .. } =>
    match x with
    | .v (.one (.ex (.int _ n))) => some (none, exi k (k.wrap n))
    | .v (.one (.fl s b)) => some (some ((floatToIntVal s b k).isSome = true), exi k (ftoi s b k))
    | _ => none
  | some _, some { k := .scal (.float k), .. } =>
    match x, k with
    | .v (.one (.ex (.int _ n))), _ => some (none, .v (.one (.fl k (fint k n))))
    | .v (.one (.fl .f32 b)), .f64 => some (none, fl64 (fwide b))
    | .v (.one (.fl .f64 b)), .f32 => some (some (narrows b = true), fl32 (fnarrow b))
    | .v (.one (.fl .f32 b)), .f32 => some (none, fl32 b)
    | .v (.one (.fl .f64 b)), .f64 => some (none, fl64 b)
    | _, _ => none
  | some _, some { k := .scal (.complex .f64), .. } =>
    match x with
    | .v (.one (.cx .f32 a b)) => some (none, .v (.one (.cx .f64 (fwide a) (fwide b))))
    | _ => none
  | some _, some { k := .scal (.complex .f32), .. } =>
    match x with
    | .v (.one (.cx .f64 a b)) => some (some (narrows a = true ∧ narrows b = true), .v (.one (.cx .f32 (fnarrow a) (fnarrow b))))
    | _ => none
  | _, _ => none

def ptrsOf (env : List (Nat × AV)) : List Operand → Option (List Nat)
  | [] => some []
  | x :: xs => match ev env x with
    | .v (.one (.pv k 0)) => match ptrsOf env xs with
      | some ks => some (k :: ks)
      | none => none
    | _ => none

def qLoad (ty : TyT) (L : List Ent) (T : TypeId) (x : AV) : Ans :=
  match ty T, x with
  | some ti, .v (.one (.pv k j)) =>
    match L[k]? with
    | some (.var _ cs) =>
      bif ti.k.isSt then (bif Nat.ble (j + ti.size) cs.length then some (none, .v (.agg ((cs.drop j).take ti.size))) else none)
      else match cs[j]? with
        | some c => some (none, one c)
        | none => none
    | _ => none
  | some ti, .v (.one (.pe k sz i j)) =>
    match L[k]? with
    | some (.arr _ _ D) =>
      bif Nat.beq D.sz sz then
        (bif ti.k.isSt then (bif Nat.beq j 0 && Nat.beq ti.size sz then some (some (i < D.len), .v (.agg ((List.range sz).map (D.cell i)))) else none)
        else (bif Nat.blt j sz then some (some (i < D.len), one (D.cell i j)) else none))
      else none
    | _ => none
  | _, _ => none

def qField (ty : TyT) (T : TypeId) (x : AV) (i : Nat) : Ans :=
  match ty T, x with
  | some { k := .st fs, .. }, .v (.agg cs) =>
    match fs[i]? with
    | some (o, t) => match ty t with
      | some ti => bif ti.k.isSt then some (none, .v (.agg ((cs.drop o).take ti.size)))
        else match cs[o]? with
          | some c => some (none, one c)
          | none => none
      | none => none
    | none => none
  | _, _ => none

def qFieldAddr (ty : TyT) (T : TypeId) (x : AV) (i : Nat) : Ans :=
  match ty T with
  | some { k := .st fs, .. } =>
    match fs[i]? with
    | some (o, t) => match ty t with
      | some ti => bif Nat.beq ti.size 0 then none else
        match x with
        | .v (.one (.pv k j)) => some (none, one (.pv k (j + o)))
        | .v (.one (.pe k sz i j)) => some (none, one (.pe k sz i (j + o)))
        | _ => none
      | none => none
    | none => none
  | _ => none

def qIndexAddr (ty : TyT) (L : List Ent) (T : TypeId) (x i : AV) : Ans :=
  match ty T, x, i with
  | some { k := .sli e, .. }, .v (.one (.sl k)), .v (.one (.ex (.int _ n))) =>
    match ty e, L[k]? with
    | some te, some (.arr _ _ D) => bif Nat.beq te.size D.sz then some (some (0 ≤ n ∧ n < D.len), one (.pe k D.sz n.toNat 0)) else none
    | _, _ => none
  | some { k := .sli e, .. }, .v (.one (.sv k m)), .v (.one (.ex (.int _ n))) =>
    match ty e with
    | some te => some (some (0 ≤ n ∧ n < m), one (.pv k (n.toNat * te.size)))
    | _ => none
  | some { k := .sli e, .. }, .v (.one (.sw k m _)), .v (.one (.ex (.int _ n))) =>
    match ty e with
    | some te => some (some (0 ≤ n ∧ n < m), one (.pv k (n.toNat * te.size)))
    | _ => none
  | _, _, _ => none

def qLen (L : List Ent) (x : AV) : Ans :=
  match x with
  | .v (.one (.sl k)) => match L[k]? with
    | some (.arr _ _ D) => some (none, exi .i64 D.len)
    | _ => none
  | .v (.one (.sv _ n)) => some (none, exi .i64 n)
  | .v (.one (.sw _ n _)) => some (none, exi .i64 n)
  | .v (.one (.ex (.slice _ n _))) => some (none, exi .i64 n)
  | _ => none

def isSli (ty : TyT) (T : TypeId) : Bool :=
  match ty T with
  | some { k := .sli _, .. } => true
  | _ => false

/-- The cells of a value. -/
def A1.cells : A1 → List AC
  | .one c => [c]
  | .agg cs => cs

/-- One cell's worth, for sure. -/
def AC.solid : AC → Bool
  | .any => false
  | .ex v => v.oneCell'
  | _ => true
def A1.solid : A1 → Bool
  | .one c => c.solid
  | .agg _ => true

/-- A struct's parts laid over its zero. -/
def lay (pl : List (Nat × Nat)) : List (Nat × AV) → List AC → Option (List AC)
  | [], cs => some cs
  | (i, .v x) :: r, cs =>
    match pl[i]? with
    | some (o, z) => bif Nat.beq x.cells.length z && Nat.ble (o + z) cs.length && x.solid then lay pl r (cs.take o ++ x.cells ++ cs.drop (o + z)) else none
    | none => none
  | _ :: _, _ => none

def placesOf (ty : TyT) : List (Nat × TypeId) → Option (List (Nat × Nat))
  | [] => some []
  | (o, t) :: r => match ty t with
    | some ti => match placesOf ty r with
      | some ps => some ((o, ti.size) :: ps)
      | none => none
    | none => none

def qBuild (ty : TyT) (T : TypeId) (parts : List (Nat × AV)) : Ans :=
  match ty T with
  | some { k := .st fs, zero := z, .. } => match placesOf ty fs with
    | some pl => match lay pl parts (z.map cst) with
      | some cs => some (none, .v (.agg cs))
      | none => none
    | none => none
  | _ => none

/-- 's == nil' of an array that has elements. -/
def qCmp (ty : TyT) (L : List Ent) (op : BinOp) (T : TypeId) (x y : AV) : Ans :=
  match x with
  | .v (.one (.sl k)) => match ty T, y, L[k]? with
    | some { k := .sli _, .. }, .v (.one (.ex (.slice none 0 0))), some (.arr _ _ D) => match op with
      | .eql => some (some (0 < D.len), exb false)
      | .neq => some (some (0 < D.len), exb true)
      | _ => none
    | _, _, _ => none
  | _ => qBin ty op T x y

def qOp (ty : TyT) (env : List (Nat × AV)) (L : List Ent) (op : Op) : Ans :=
  match op with
  | .move x | .assign x => some (none, ev env x)
  | .pick c a b => match ev env c with
    | .v (.one (.ex (.bool β))) => some (none, bif β then ev env a else ev env b)
    | _ => none
  | .load T x => qLoad ty L T (ev env x)
  | .nilCheck x => match ev env x with
    | .v (.one (.pv k j)) => some (none, one (.pv k j))
    | .v (.one (.pe k sz i j)) => some (none, one (.pe k sz i j))
    | _ => none
  | .binOp op T x y _ => qCmp ty L op T (ev env x) (ev env y)
  | .unOp op _ x => qUn op (ev env x)
  | .convert src dst x => qConv ty src dst (ev env x)
  | .makeFunc (.func f) first caps => match ptrsOf env first.toList, ptrsOf env caps.toList with
    | some ks, some cs => some (none, one (.fn f ks cs))
    | _, _ => none
  | .fieldAddr T x i => qFieldAddr ty T (ev env x) i
  | .field T x i => qField ty T (ev env x) i
  | .build T parts => qBuild ty T (parts.toList.map fun p => (p.1, ev env p.2))
  | .indexAddr T x i => qIndexAddr ty L T (ev env x) (ev env i)
  | .extract x i => match ev env x with
    | .tup xs => match xs[i]? with
      | some y => some (none, .v y)
      | none => none
    | _ => none
  | .call { callee := .builtin .len, args, argTypes } => match args.toList, argTypes.toList with
    | [x], [T] => bif isSli ty T then qLen L (ev env x) else none
    | _, _ => none
  | .call { callee := .builtin .complex, args, .. } => match args.toList with
    | [x, y] => match ev env x, ev env y with
      | .v (.one (.fl .f32 a)), .v (.one (.fl .f32 b)) => some (none, .v (.one (.cx .f32 a b)))
      | .v (.one (.fl .f64 a)), .v (.one (.fl .f64 b)) => some (none, .v (.one (.cx .f64 a b)))
      | _, _ => none
    | _ => none
  | .call { callee := .builtin .real, args, .. } => match args.toList with
    | [x] => match ev env x with
      | .v (.one (.cx k a _)) => some (none, .v (.one (.fl k a)))
      | _ => none
    | _ => none
  | .call { callee := .builtin .imag, args, .. } => match args.toList with
    | [x] => match ev env x with
      | .v (.one (.cx k _ b)) => some (none, .v (.one (.fl k b)))
      | _ => none
    | _ => none
  | _ => none

/-! ### They do what is told -/
section
variable {P : Program} {ty : TyT}

theorem iBin_sound {op : BinOp} {k : IntKind} {m n : Int} {φ : Option Prop} {α : AV} (h : iBin op k m n = some (φ, α)) (hφ : owed φ) (T : TypeId) (σ : List Value) (w : World) :
    ∃ v d, (binOp op T (.int k m) (.int k n)).run P w = .ok v (w.drewN d) ∧ RelV σ α v := by
  cases op <;> simp only [iBin] at h <;> first | (cases h; done) | skip
  all_goals (injection h with h; injection h with h1 h2; subst h1; subst h2)
  all_goals (refine ⟨_, 0, ?_, rfl⟩)
  all_goals (simp only [World.drewN_zero])
  all_goals first
    | (simp [binOp, Op.intArith]; done)
    | (simp [binOp, Op.intCmp]; done)
    | (simp only [owed] at hφ; simp [binOp, Op.intDiv, hφ]; done)
    | (simp [binOp, Op.intBits, andNI]; done)

theorem fBin_sound {op : BinOp} {k : FloatKind} {x y a b : Nat} {φ : Option Prop} {α : AV} (h : fBin op k x y = some (φ, α)) (ha : IsF k x a) (hb : IsF k y b) (T : TypeId) (σ : List Value) (w : World) :
    ∃ v d, (binOp op T (.float k a) (.float k b)).run P w = .ok v (w.drewN d) ∧ RelV σ α v := by
  have arith : ∀ op : BinOp, (op = .add ∨ op = .sub ∨ op = .mul ∨ op = .quo) → ∃ v d, (binOp op T (.float k a) (.float k b)).run P w = .ok v (w.drewN d) ∧ RelV σ (.v (.one (.fl k (fop op k x y)))) v := by
    intro op hop
    have e : (binOp op T (.float k a) (.float k b)) = Op.floatArith op k a b := by rcases hop with rfl | rfl | rfl | rfl <;> simp [binOp]
    rw [e]
    obtain ⟨r, d, h3, h4⟩ := run_floatArith_any (P := P) op hop k ha hb w
    exact ⟨_, d, h3, r, rfl, h4⟩
  have cmp : ∀ op : BinOp, (op = .eql ∨ op = .neq ∨ op = .lss ∨ op = .leq ∨ op = .gtr ∨ op = .geq) → ∃ v d, (binOp op T (.float k a) (.float k b)).run P w = .ok v (w.drewN d) ∧ RelV σ (exb (fcmp op k x y)) v := by
    intro op hop
    have e : (binOp op T (.float k a) (.float k b)).run P w = (Op.floatCmp op k a b).run P w := by rcases hop with rfl | rfl | rfl | rfl | rfl | rfl <;> simp [binOp, Op.floatCmp]
    rw [e, run_floatCmp op hop k ha hb w]
    exact ⟨_, 0, rfl, rfl⟩
  cases op <;> simp only [fBin] at h <;> first | (cases h; done) | skip
  all_goals (injection h with h; injection h with h1 h2; subst h1; subst h2)
  all_goals first | exact arith _ (by simp) | exact cmp _ (by simp)

theorem cBin_sound {op : BinOp} {k : FloatKind} {x y z t a b c d : Nat} {φ : Option Prop} {α : AV} (h : cBin op k x y z t = some (φ, α)) (ha : IsF k x a) (hb : IsF k y b) (hc : IsF k z c) (hd : IsF k t d) (T : TypeId) (σ : List Value) (w : World) :
    ∃ v e, (binOp op T (.complex k a b) (.complex k c d)).run P w = .ok v (w.drewN e) ∧ RelV σ α v := by
  have arith : ∀ op : BinOp, (op = .add ∨ op = .sub) → ∃ v e, (binOp op T (.complex k a b) (.complex k c d)).run P w = .ok v (w.drewN e) ∧ RelV σ (.v (.one (.cx k (fop op k x z) (fop op k y t)))) v := by
    intro op hop
    obtain ⟨r, n, h3, h4⟩ := run_floatArith_any (P := P) op (by rcases hop with rfl | rfl <;> simp) k ha hc w
    obtain ⟨r', n', h5, h6⟩ := run_floatArith_any (P := P) op (by rcases hop with rfl | rfl <;> simp) k hb hd (w.drewN n)
    refine ⟨.complex k r r', n + n', ?_, r, r', rfl, h4, h6⟩
    have e1 : (binOp op T (.complex k a b) (.complex k c d)) = Op.complexOp op k a b c d := by rcases hop with rfl | rfl <;> simp [binOp]
    rw [e1]
    rcases hop with rfl | rfl <;> simp only [Op.complexOp, Op.Complex.arith, Sem.run_bind, h3, h5, Result.andThen_ok, Sem.run_pure, World.drewN_drewN]
  have eqr : ((k.format.order a c == some .eq) && (k.format.order b d == some .eq)) = (fcmp .eql k x z && fcmp .eql k y t) := by
    rw [fcmp_def, fcmp_def]; unfold fcmp0
    rw [← ha.1, ← hb.1, ← hc.1, ← hd.1, order_cn, order_cn]
  cases op <;> simp only [cBin] at h <;> first | (cases h; done) | skip
  all_goals (injection h with h; injection h with h1 h2; subst h1; subst h2)
  · exact arith .add (.inl rfl)
  · exact arith .sub (.inr rfl)
  · rw [run_eql_complex, eqr]; exact ⟨_, 0, rfl, rfl⟩
  · rw [run_neq_complex, eqr]; exact ⟨_, 0, rfl, rfl⟩

end
end
end Go.AX
