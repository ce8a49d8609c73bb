/- A symbolic walk over the code of one function, and that it tells no more than the model does: no condition. -/
import Derived.Test.YtfhgggjpdimaoaaSqAxA
set_option linter.unusedVariables false
set_option linter.unusedSimpArgs false
namespace Go.AX
open Go.RowKit

/-! ## What is told of a value -/

inductive AC where
  | any
  | ex (v : Value)
  | fl (k : FloatKind) (x : Nat)
  | cx (k : FloatKind) (x y : Nat)
  | bt (x : Nat)
  | pv (k j : Nat)
  | pe (k sz i j : Nat)
  | sl (k : Nat)
  | sv (k n : Nat)
  | sw (k n c : Nat)
  | e0
  | fn (f : Nat) (first caps : List Nat)

inductive A1 where
  | one (c : AC)
  | agg (cs : List AC)

inductive AV where
  | v (x : A1)
  | tup (xs : List A1)

/-- An array's elements. -/
inductive Dat where
  | f (xs : List Nat)
  | c (xs : List (Nat × Nat))
  | w (xs : List (Nat × Nat × Nat))
  | p (xs : List (Nat × Nat × Nat))

def Dat.len : Dat → Nat
  | .f xs => xs.length
  | .c xs => xs.length
  | .w xs => xs.length
  | .p xs => xs.length
def Dat.sz : Dat → Nat
  | .f _ => 1
  | .c _ => 1
  | .w _ => 2
  | .p _ => 3
def Dat.cell (D : Dat) (i j : Nat) : AC :=
  match D with
  | .f xs => .fl .f32 (xs.getD i 0)
  | .c xs => .cx .f32 (xs.getD i (0, 0)).1 (xs.getD i (0, 0)).2
  | .w xs => match j with
    | 0 => .cx .f32 (xs.getD i (0, 0, 0)).1 (xs.getD i (0, 0, 0)).2.1
    | _ => .fl .f32 (xs.getD i (0, 0, 0)).2.2
  | .p xs => match j with
    | 0 => .fl .f32 (xs.getD i (0, 0, 0)).1
    | 1 => .fl .f32 (xs.getD i (0, 0, 0)).2.1
    | _ => .fl .f32 (xs.getD i (0, 0, 0)).2.2

theorem Dat.sz_pos (D : Dat) : 0 < D.sz := by cases D <;> simp [Dat.sz]

inductive Ent where
  | dead
  | var (T : TypeId) (cs : List AC)
  | arr (own : Bool) (T : TypeId) (D : Dat)

/-- The place of a block of its own. -/
def at0 (g : Nat) : Value := .pointer (some ⟨g, 0, none⟩)

def isSl : Value → Bool
  | .slice .. => true
  | _ => false

def RelPs (σ : List Value) : List Nat → List Value → Prop
  | [], [] => True
  | k :: ks, u :: us => (∃ g, σ[k]? = some (at0 g) ∧ u = at0 g) ∧ RelPs σ ks us
  | _, _ => False

def RelC (σ : List Value) : AC → Value → Prop
  | .any, _ => True
  | .ex u, v => v = u
  | .fl k x, v => ∃ b, v = .float k b ∧ IsF k x b
  | .cx k x y, v => ∃ a b, v = .complex k a b ∧ IsF k x a ∧ IsF k y b
  | .bt x, v => ∃ b : Nat, v = .int .u32 b ∧ IsF .f32 x b
  | .pv k j, v => ∃ g, σ[k]? = some (at0 g) ∧ v = .pointer (some ⟨g, j, none⟩)
  | .pe k sz i j, v => ∃ ad n c, σ[k]? = some (.slice (some ad) n c) ∧ v = .pointer (some ((ad.add (i * sz)).add j))
  | .sl k, v => σ[k]? = some v ∧ isSl v = true
  | .sv k n, v => ∃ g, σ[k]? = some (at0 g) ∧ v = .slice (some ⟨g, 0, none⟩) n n
  | .sw k n c, v => ∃ g, σ[k]? = some (at0 g) ∧ v = .slice (some ⟨g, 0, none⟩) n c
  | .e0, v => ∃ A, v = .slice A 0 0
  | .fn f fs cs, v => ∃ us vs, v = .func (.func f) us.toArray vs.toArray ∧ RelPs σ fs us ∧ RelPs σ cs vs

def RelCs (σ : List Value) : List AC → List Value → Prop
  | [], [] => True
  | c :: cs, u :: us => RelC σ c u ∧ RelCs σ cs us
  | _, _ => False

def RelA (σ : List Value) : A1 → Value → Prop
  | .one c, v => RelC σ c v
  | .agg cs, v => ∃ us, v = .agg us.toArray ∧ RelCs σ cs us

def RelAs (σ : List Value) : List A1 → List Value → Prop
  | [], [] => True
  | c :: cs, u :: us => RelA σ c u ∧ RelAs σ cs us
  | _, _ => False

def RelV (σ : List Value) : AV → Value → Prop
  | .v x, u => RelA σ x u
  | .tup xs, u => ∃ us, u = .tuple us.toArray ∧ RelAs σ xs us

/-- σ' tells all that σ tells. -/
def Pre (σ σ' : List Value) : Prop := ∀ (k : Nat) (v : Value), σ[k]? = some v → σ'[k]? = some v
theorem Pre.refl (σ : List Value) : Pre σ σ := fun _ _ h => h
theorem Pre.trans {a b c : List Value} (h : Pre a b) (k : Pre b c) : Pre a c := fun i v hi => k i v (h i v hi)
theorem Pre.app (σ τ : List Value) : Pre σ (σ ++ τ) := fun k v h => by
  rw [List.getElem?_append_left (List.getElem?_eq_some_iff.1 h).1]; exact h
theorem Pre.nil (σ : List Value) : Pre [] σ := fun k v h => by simp at h

theorem RelPs.pre {σ σ' : List Value} (hp : Pre σ σ') : ∀ {ks us}, RelPs σ ks us → RelPs σ' ks us
  | [], [], _ => trivial
  | k :: ks, u :: us, ⟨⟨g, h1, h2⟩, h3⟩ => ⟨⟨g, hp _ _ h1, h2⟩, RelPs.pre hp h3⟩
  | [], _ :: _, h => h.elim
  | _ :: _, [], h => h.elim

theorem RelC.pre {σ σ' : List Value} (hp : Pre σ σ') {c : AC} {v : Value} (h : RelC σ c v) : RelC σ' c v := by
  cases c with
  | pv k j => obtain ⟨g, h1, h2⟩ := h; exact ⟨g, hp _ _ h1, h2⟩
  | pe k sz i j => obtain ⟨ad, n, c, h1, h2⟩ := h; exact ⟨ad, n, c, hp _ _ h1, h2⟩
  | sl k => exact ⟨hp _ _ h.1, h.2⟩
  | sv k n => obtain ⟨g, h1, h2⟩ := h; exact ⟨g, hp _ _ h1, h2⟩
  | sw k n c => obtain ⟨g, h1, h2⟩ := h; exact ⟨g, hp _ _ h1, h2⟩
  | fn f fs cs => obtain ⟨us, vs, h1, h2, h3⟩ := h; exact ⟨us, vs, h1, h2.pre hp, h3.pre hp⟩
  | _ => exact h

theorem RelCs.pre {σ σ' : List Value} (hp : Pre σ σ') : ∀ {cs us}, RelCs σ cs us → RelCs σ' cs us
  | [], [], _ => trivial
  | _ :: _, _ :: _, ⟨h1, h2⟩ => ⟨h1.pre hp, RelCs.pre hp h2⟩
  | [], _ :: _, h => h.elim
  | _ :: _, [], h => h.elim

theorem RelA.pre {σ σ' : List Value} (hp : Pre σ σ') {c : A1} {v : Value} (h : RelA σ c v) : RelA σ' c v := by
  cases c with
  | one c => exact RelC.pre hp h
  | agg cs => obtain ⟨us, h1, h2⟩ := h; exact ⟨us, h1, h2.pre hp⟩

theorem RelAs.pre {σ σ' : List Value} (hp : Pre σ σ') : ∀ {cs us}, RelAs σ cs us → RelAs σ' cs us
  | [], [], _ => trivial
  | _ :: _, _ :: _, ⟨h1, h2⟩ => ⟨h1.pre hp, RelAs.pre hp h2⟩
  | [], _ :: _, h => h.elim
  | _ :: _, [], h => h.elim

theorem RelV.pre {σ σ' : List Value} (hp : Pre σ σ') {c : AV} {v : Value} (h : RelV σ c v) : RelV σ' c v := by
  cases c with
  | v x => exact RelA.pre hp h
  | tup xs => obtain ⟨us, h1, h2⟩ := h; exact ⟨us, h1, h2.pre hp⟩

theorem RelCs.len {σ : List Value} : ∀ {cs us}, RelCs σ cs us → cs.length = us.length
  | [], [], _ => rfl
  | _ :: _, _ :: _, ⟨_, h⟩ => by simp [RelCs.len h]
  | [], _ :: _, h => h.elim
  | _ :: _, [], h => h.elim
theorem RelAs.len {σ : List Value} : ∀ {cs us}, RelAs σ cs us → cs.length = us.length
  | [], [], _ => rfl
  | _ :: _, _ :: _, ⟨_, h⟩ => by simp [RelAs.len h]
  | [], _ :: _, h => h.elim
  | _ :: _, [], h => h.elim
theorem RelCs.get {σ : List Value} : ∀ {cs us}, RelCs σ cs us → ∀ {j : Nat} {c}, cs[j]? = some c → ∃ u, us[j]? = some u ∧ RelC σ c u
  | [], [], _, j, c, hj => by simp at hj
  | c0 :: cs, u0 :: us, ⟨h1, h2⟩, 0, c, hj => by
    simp at hj; subst hj; exact ⟨u0, rfl, h1⟩
  | _ :: cs, _ :: us, ⟨_, h2⟩, j + 1, c, hj => by
    simp at hj
    obtain ⟨u, h3, h4⟩ := RelCs.get h2 hj
    exact ⟨u, by simpa using h3, h4⟩
  | [], _ :: _, h, _, _, _ => h.elim
  | _ :: _, [], h, _, _, _ => h.elim
theorem RelCs.app {σ : List Value} : ∀ {cs us cs' us'}, RelCs σ cs us → RelCs σ cs' us' → RelCs σ (cs ++ cs') (us ++ us')
  | [], [], _, _, _, h => h
  | _ :: _, _ :: _, _, _, ⟨h1, h2⟩, h => ⟨h1, RelCs.app h2 h⟩
  | [], _ :: _, _, _, h, _ => h.elim
  | _ :: _, [], _, _, h, _ => h.elim
theorem RelCs.drop {σ : List Value} : ∀ {cs us} (n : Nat), RelCs σ cs us → RelCs σ (cs.drop n) (us.drop n)
  | _, _, 0, h => by simpa using h
  | [], [], n + 1, _ => by simp [RelCs]
  | _ :: cs, _ :: us, n + 1, ⟨_, h⟩ => by simpa using RelCs.drop n h
  | [], _ :: _, _ + 1, h => h.elim
  | _ :: _, [], _ + 1, h => h.elim
theorem RelCs.take {σ : List Value} : ∀ {cs us} (n : Nat), RelCs σ cs us → RelCs σ (cs.take n) (us.take n)
  | _, _, 0, h => by simp [RelCs]
  | [], [], n + 1, _ => by simp [RelCs]
  | _ :: cs, _ :: us, n + 1, ⟨h1, h⟩ => by simpa [RelCs] using ⟨h1, RelCs.take n h⟩
  | [], _ :: _, _ + 1, h => h.elim
  | _ :: _, [], _ + 1, h => h.elim
theorem RelCs.set {σ : List Value} : ∀ {cs us} (j : Nat) {c u}, RelCs σ cs us → RelC σ c u → RelCs σ (cs.set j c) (us.set j u)
  | [], [], _, _, _, _, _ => by simp [RelCs]
  | _ :: cs, _ :: us, 0, _, _, ⟨_, h⟩, h' => by simpa [RelCs] using ⟨h', h⟩
  | _ :: cs, _ :: us, j + 1, _, _, ⟨h1, h⟩, h' => by simpa [RelCs] using ⟨h1, RelCs.set j h h'⟩
  | [], _ :: _, _, _, _, h, _ => h.elim
  | _ :: _, [], _, _, _, h, _ => h.elim
theorem RelAs.get {σ : List Value} : ∀ {cs us}, RelAs σ cs us → ∀ {j : Nat} {c}, cs[j]? = some c → ∃ u, us[j]? = some u ∧ RelA σ c u
  | [], [], _, j, c, hj => by simp at hj
  | c0 :: cs, u0 :: us, ⟨h1, h2⟩, 0, c, hj => by
    simp at hj; subst hj; exact ⟨u0, rfl, h1⟩
  | _ :: cs, _ :: us, ⟨_, h2⟩, j + 1, c, hj => by
    simp at hj
    obtain ⟨u, h3, h4⟩ := RelAs.get h2 hj
    exact ⟨u, by simpa using h3, h4⟩
  | [], _ :: _, h, _, _, _ => h.elim
  | _ :: _, [], h, _, _, _ => h.elim
theorem RelAs.app {σ : List Value} : ∀ {cs us cs' us'}, RelAs σ cs us → RelAs σ cs' us' → RelAs σ (cs ++ cs') (us ++ us')
  | [], [], _, _, _, h => h
  | _ :: _, _ :: _, _, _, ⟨h1, h2⟩, h => ⟨h1, RelAs.app h2 h⟩
  | [], _ :: _, _, _, h, _ => h.elim
  | _ :: _, [], _, _, h, _ => h.elim

/-! ## What is told of memory -/

/-- The array's cells lie in memory. -/
def Reads (w : World) (v : Value) (D : Dat) : Prop :=
  ∃ A n c, v = .slice A n c ∧ n = D.len ∧ n ≤ maxLen ∧ (A = none → c = 0) ∧
    ∀ i j, i < D.len → j < D.sz → ∃ ad u, A = some ad ∧ w.cell? ((ad.add (i * D.sz)).add j) = some u ∧ RelC [] (D.cell i j) u

def RelD (D : Dat) (us : List Value) : Prop := ∀ i j, i < D.len → j < D.sz → ∃ u, us[i * D.sz + j]? = some u ∧ RelC [] (D.cell i j) u

def EntOK (σ : List Value) (w : World) : Ent → Value → Prop
  | .dead, _ => True
  | .var T cs, v => ∃ g us, v = at0 g ∧ w.heap[g]? = some (.cells us.toArray T (0, 0)) ∧ RelCs σ cs us
  | .arr true T D, v => ∃ us, w.ownsRow 0 T D.sz v D.len us ∧ RelD D us
  | .arr false _ D, v => Reads w v D

def blkV : Value → Option Nat
  | .pointer (some a) => some a.block
  | .slice (some a) _ _ => some a.block
  | _ => none
def ownB : Ent → Value → Option Nat
  | .var _ _, v => blkV v
  | .arr true _ _, v => blkV v
  | _, _ => none
def blkB : Ent → Value → Option Nat
  | .dead, _ => none
  | .arr false _ D, v => if D.len = 0 then none else blkV v
  | _, v => blkV v

theorem blkB_of_ownB {E : Ent} {v : Value} {b : Nat} (h : ownB E v = some b) : blkB E v = some b := by
  cases E with
  | dead => cases h
  | var T cs => exact h
  | arr own T D => cases own; cases h; exact h

theorem ownBlock_eq {A : Option Addr} {n c : Nat} : (Value.slice A n c).ownBlock = blkV (.slice A n c) := by cases A <;> rfl

theorem ownsRow_blk {w : World} {T sz n : Nat} {v : Value} {us : List Value} (h : w.ownsRow 0 T sz v n us) : v.ownBlock = blkV v := by
  rcases h.2 with ⟨rfl, _⟩ | ⟨g, cap, cur, rfl, _⟩ <;> rfl

theorem add_block (a : Addr) (n : Nat) : (a.add n).block = a.block := by unfold Addr.add; split <;> rfl
theorem add_add (a : Addr) (n m : Nat) : (a.add n).add m = a.add (n + m) := by
  unfold Addr.add
  by_cases hn : n = 0
  · subst hn; simp
  · by_cases hm : m = 0
    · subst hm; simp
    · simp [hn, hm, Nat.add_assoc]

theorem EntOK.keep {σ : List Value} {w w' : World} {E : Ent} {v : Value} (h : EntOK σ w E v) (hk : ∀ b, blkB E v = some b → w'.heap[b]? = w.heap[b]?) : EntOK σ w' E v := by
  cases E with
  | dead => trivial
  | var T cs =>
    obtain ⟨g, us, rfl, h2, h3⟩ := h
    exact ⟨g, us, rfl, by rw [hk g rfl]; exact h2, h3⟩
  | arr own T D =>
    cases own with
    | true =>
      obtain ⟨us, h1, h2⟩ := h
      refine ⟨us, ⟨h1.1, ?_⟩, h2⟩
      rcases h1.2 with h | ⟨g, cap, cur, rfl, h3, h4, h5⟩
      · exact .inl h
      · exact .inr ⟨g, cap, cur, rfl, h3, by rw [hk g rfl]; exact h4, h5⟩
    | false =>
      obtain ⟨A, n, c, rfl, h2, h3, hA, h4⟩ := h
      refine ⟨A, n, c, rfl, h2, h3, hA, fun i j hi hj => ?_⟩
      obtain ⟨ad, u, rfl, h6, h7⟩ := h4 i j hi hj
      refine ⟨ad, u, rfl, ?_, h7⟩
      rw [← h6]
      refine World.cell?_of_block ?_
      rw [add_block, add_block]
      refine hk _ ?_
      simp only [blkB]
      rw [if_neg (by omega)]; rfl

theorem EntOK.lt {σ : List Value} {w : World} {E : Ent} {v : Value} (h : EntOK σ w E v) {b : Nat} (hb : blkB E v = some b) : b < w.heap.size := by
  cases E with
  | dead => cases hb
  | var T cs =>
    obtain ⟨g, us, rfl, h2, h3⟩ := h
    cases hb
    exact (Array.getElem?_eq_some_iff.1 h2).1
  | arr own T D =>
    cases own with
    | true =>
      obtain ⟨us, h1, h2⟩ := h
      rcases h1.2 with ⟨rfl, _⟩ | ⟨g, cap, cur, rfl, h3, h4, h5⟩
      · cases hb
      · cases hb
        exact (Array.getElem?_eq_some_iff.1 h4).1
    | false =>
      obtain ⟨A, n, c, rfl, h2, h3, hA, h4⟩ := h
      simp only [blkB] at hb
      split at hb
      · cases hb
      · obtain ⟨ad, u, rfl, h6, h7⟩ := h4 0 0 (by omega) D.sz_pos
        have hb' : ad.block = b := by simpa [blkV] using hb
        have := World.block_lt_of_cell? w _ h6
        rw [add_block, add_block, hb'] at this
        exact this

theorem EntOK.pre {σ σ' : List Value} (hp : Pre σ σ') {w : World} {E : Ent} {v : Value} (h : EntOK σ w E v) : EntOK σ' w E v := by
  cases E with
  | dead => trivial
  | var T cs =>
    obtain ⟨g, us, h1, h2, h3⟩ := h
    exact ⟨g, us, h1, h2, h3.pre hp⟩
  | arr own T D => cases own <;> exact h

/-- Whatever its make, an array can be read. -/
theorem EntOK.reads {σ : List Value} {w : World} {own : Bool} {T : TypeId} {D : Dat} {v : Value} (h : EntOK σ w (.arr own T D) v) : Reads w v D := by
  cases own with
  | false => exact h
  | true =>
    obtain ⟨us, h1, h2⟩ := h
    have hcell := fun (g : Nat) (hg : v.ownBlock = some g) => h1.cells hg
    rcases h1.2 with ⟨rfl, hn⟩ | ⟨g, cap, cur, rfl, h3, h4, h5, h6, h7⟩
    · exact ⟨none, 0, 0, rfl, hn.symm, Nat.zero_le _, fun _ => rfl, fun i j hi => absurd hi (by omega)⟩
    · refine ⟨_, _, cap, rfl, rfl, Nat.le_trans h5 h6, fun h => (by cases h), fun i j hi hj => ?_⟩
      obtain ⟨u, h8, h9⟩ := h2 i j hi hj
      exact ⟨_, u, rfl, by rw [add_add]; exact hcell g rfl _ _ h8, h9⟩

structure SatL (σ : List Value) (L : List Ent) (w : World) : Prop where
  len : σ.length = L.length
  ok : ∀ (k : Nat) (E : Ent) (v : Value), L[k]? = some E → σ[k]? = some v → EntOK σ w E v
  sep : ∀ (j k : Nat) (Ej Ek : Ent) (vj vk : Value) (b : Nat), j ≠ k → L[j]? = some Ej → σ[j]? = some vj → L[k]? = some Ek → σ[k]? = some vk → ownB Ej vj = some b → blkB Ek vk ≠ some b

def Own (σ : List Value) (L : List Ent) (b : Nat) : Prop := ∃ (k : Nat) (E : Ent) (v : Value), L[k]? = some E ∧ σ[k]? = some v ∧ ownB E v = some b

structure Fr (w0 : World) (σ0 : List Value) (L0 : List Ent) (w : World) (σ : List Value) (L : List Ent) : Prop where
  os : w.os = w0.os
  tape : w.tape = w0.tape
  output : w.output = w0.output
  size : w0.heap.size ≤ w.heap.size
  blk : ∀ b, b < w0.heap.size → ¬ Own σ0 L0 b → w.heap[b]? = w0.heap[b]?
  own : ∀ b, Own σ L b → Own σ0 L0 b ∨ w0.heap.size ≤ b
  pre : Pre σ0 σ

theorem Fr.refl (w : World) (σ : List Value) (L : List Ent) : Fr w σ L w σ L := ⟨rfl, rfl, rfl, Nat.le_refl _, fun _ _ _ => rfl, fun _ h => .inl h, Pre.refl _⟩

theorem Fr.trans {w0 w1 w2 : World} {σ0 σ1 σ2 : List Value} {L0 L1 L2 : List Ent} (h : Fr w0 σ0 L0 w1 σ1 L1) (k : Fr w1 σ1 L1 w2 σ2 L2) : Fr w0 σ0 L0 w2 σ2 L2 where
  os := k.os.trans h.os
  tape := k.tape.trans h.tape
  output := k.output.trans h.output
  size := Nat.le_trans h.size k.size
  blk := fun b hb hn => (k.blk b (Nat.lt_of_lt_of_le hb h.size) (fun ho => (h.own b ho).elim hn (by omega))).trans (h.blk b hb hn)
  own := fun b ho => by
    rcases k.own b ho with h1 | h1
    · exact h.own b h1
    · exact .inr (Nat.le_trans h.size h1)
  pre := h.pre.trans k.pre

/-- New memory alone (and draws). -/
structure Ext (w w' : World) : Prop where
  os : w'.os = w.os
  tape : w'.tape = w.tape
  output : w'.output = w.output
  size : w.heap.size ≤ w'.heap.size
  blk : ∀ b, b < w.heap.size → w'.heap[b]? = w.heap[b]?

theorem Ext.refl (w : World) : Ext w w := ⟨rfl, rfl, rfl, Nat.le_refl _, fun _ _ => rfl⟩
theorem Ext.trans {a b c : World} (h : Ext a b) (k : Ext b c) : Ext a c :=
  ⟨k.os.trans h.os, k.tape.trans h.tape, k.output.trans h.output, Nat.le_trans h.size k.size, fun i hi => (k.blk i (Nat.lt_of_lt_of_le hi h.size)).trans (h.blk i hi)⟩
theorem Ext.drewN (w : World) (n : Nat) : Ext w (w.drewN n) := ⟨rfl, rfl, rfl, Nat.le_refl _, fun _ _ => rfl⟩
theorem Ext.alloc (w : World) (o : Obj) : Ext w (w.alloc o) := ⟨rfl, rfl, rfl, by simp, fun b hb => heap_alloc_old w o hb⟩
theorem Ext.grown {w w' : World} (h : w.grownBy w' none) : Ext w w' := ⟨h.os, h.tape, h.output, h.size, fun b hb => h.block b hb (by simp)⟩

theorem SatL.ext {σ : List Value} {L : List Ent} {w w' : World} (h : SatL σ L w) (he : Ext w w') : SatL σ L w' :=
  ⟨h.len, fun k E v h1 h2 => (h.ok k E v h1 h2).keep fun b hb => he.blk b ((h.ok k E v h1 h2).lt hb), h.sep⟩

theorem Ext.fr {σ : List Value} {L : List Ent} {w w' : World} (he : Ext w w') : Fr w σ L w' σ L :=
  ⟨he.os, he.tape, he.output, he.size, fun b hb _ => he.blk b hb, fun _ h => .inl h, Pre.refl _⟩

theorem SatL.some_val {σ : List Value} {L : List Ent} {w : World} (h : SatL σ L w) {k : Nat} {E : Ent} (hk : L[k]? = some E) : ∃ v, σ[k]? = some v := by
  have hlt := (List.getElem?_eq_some_iff.1 hk).1
  exact ⟨σ[k]'(by rw [h.len]; exact hlt), List.getElem?_eq_getElem _⟩
theorem SatL.some_ent {σ : List Value} {L : List Ent} {w : World} (h : SatL σ L w) {k : Nat} {v : Value} (hk : σ[k]? = some v) : ∃ E, L[k]? = some E := by
  have hlt := (List.getElem?_eq_some_iff.1 hk).1
  exact ⟨L[k]'(by rw [← h.len]; exact hlt), List.getElem?_eq_getElem _⟩

theorem get_snoc {α : Type} {l : List α} {x y : α} {k : Nat} (h : (l ++ [x])[k]? = some y) : (k < l.length ∧ l[k]? = some y) ∨ (k = l.length ∧ y = x) := by
  rcases Nat.lt_or_ge k l.length with hk | hk
  · exact .inl ⟨hk, by rwa [List.getElem?_append_left hk] at h⟩
  · have hlt := (List.getElem?_eq_some_iff.1 h).1
    simp at hlt
    have : k = l.length := by omega
    subst this
    right; refine ⟨rfl, ?_⟩
    simpa using h.symm

/-- One more entry, in new memory. -/
theorem SatL.snoc {σ : List Value} {L : List Ent} {w w' : World} (h : SatL σ L w) (he : Ext w w') {E : Ent} {v : Value} (hE : EntOK (σ ++ [v]) w' E v)
    (hnew : ∀ b, blkB E v = some b → w.heap.size ≤ b) : SatL (σ ++ [v]) (L ++ [E]) w' ∧ Fr w σ L w' (σ ++ [v]) (L ++ [E]) := by
  have hl := h.len
  have lt := fun k E v h1 h2 b hb => (h.ok k E v h1 h2).lt (b := b) hb
  refine ⟨⟨by simp [hl], fun k Ek vk h1 h2 => ?_, fun j k Ej Ek vj vk b hjk h1 h2 h3 h4 h5 => ?_⟩, ⟨he.os, he.tape, he.output, he.size, fun b hb _ => he.blk b hb, ?_, Pre.app _ _⟩⟩
  · rcases get_snoc h1 with ⟨a1, a2⟩ | ⟨a1, rfl⟩
    · rcases get_snoc h2 with ⟨b1, b2⟩ | ⟨b1, rfl⟩
      · exact ((h.ok k Ek vk a2 b2).pre (Pre.app _ _)).keep fun b hb => he.blk b (lt _ _ _ a2 b2 _ hb)
      · omega
    · rcases get_snoc h2 with ⟨b1, b2⟩ | ⟨b1, rfl⟩
      · omega
      · exact hE
  · rcases get_snoc h1 with ⟨a1, a2⟩ | ⟨a1, rfl⟩ <;> rcases get_snoc h2 with ⟨b1, b2⟩ | ⟨b1, rfl⟩ <;> (try omega) <;>
    rcases get_snoc h3 with ⟨c1, c2⟩ | ⟨c1, rfl⟩ <;> rcases get_snoc h4 with ⟨d1, d2⟩ | ⟨d1, rfl⟩ <;> (try omega)
    · exact h.sep j k Ej Ek vj vk b hjk a2 b2 c2 d2 h5
    · intro hb
      have := hnew b hb
      have := lt _ _ _ a2 b2 b (blkB_of_ownB h5)
      omega
    · intro hb
      have := hnew b (blkB_of_ownB h5)
      have := lt _ _ _ c2 d2 b hb
      omega
  · rintro b ⟨k, Ek, vk, h1, h2, h3⟩
    rcases get_snoc h1 with ⟨a1, a2⟩ | ⟨a1, rfl⟩
    · rcases get_snoc h2 with ⟨b1, b2⟩ | ⟨b1, rfl⟩
      · exact .inl ⟨k, Ek, vk, a2, b2, h3⟩
      · omega
    · rcases get_snoc h2 with ⟨b1, b2⟩ | ⟨b1, rfl⟩
      · omega
      · exact .inr (hnew b (blkB_of_ownB h3))

theorem get_set {α : Type} {l : List α} {x y : α} {i k : Nat} (h : (l.set i x)[k]? = some y) : (k ≠ i ∧ l[k]? = some y) ∨ (k = i ∧ y = x) := by
  by_cases hk : i = k
  · subst hk
    right; refine ⟨rfl, ?_⟩
    rw [List.getElem?_set] at h
    simp at h
    exact h.2.symm
  · left; exact ⟨fun e => hk e.symm, by rwa [List.getElem?_set_ne hk] at h⟩

/-- An entry of one's own is written: the same place, other contents. -/
theorem SatL.put {σ : List Value} {L : List Ent} {w w' : World} (h : SatL σ L w) {k : Nat} {E E' : Ent} {v : Value} (hE : L[k]? = some E) (hv : σ[k]? = some v)
    (os : w'.os = w.os) (tape : w'.tape = w.tape) (output : w'.output = w.output) (size : w.heap.size ≤ w'.heap.size)
    (hblk : ∀ b, b < w.heap.size → ownB E v ≠ some b → w'.heap[b]? = w.heap[b]?) (hE' : EntOK σ w' E' v)
    (ho : ∀ b, ownB E' v = some b → ownB E v = some b) (hb : ∀ b, blkB E' v = some b → blkB E v = some b) :
    SatL σ (L.set k E') w' ∧ Fr w σ L w' σ (L.set k E') := by
  have lt := fun k E v h1 h2 b hb => (h.ok k E v h1 h2).lt (b := b) hb
  refine ⟨⟨by simp [h.len], fun i Ei vi h1 h2 => ?_, fun i j Ei Ej vi vj b hij h1 h2 h3 h4 h5 => ?_⟩, ⟨os, tape, output, size, fun b hb hn => ?_, ?_, Pre.refl _⟩⟩
  · rcases get_set h1 with ⟨a1, a2⟩ | ⟨rfl, rfl⟩
    · refine (h.ok i Ei vi a2 h2).keep fun b hb => hblk b (lt _ _ _ a2 h2 b hb) fun ho => ?_
      exact h.sep k i E Ei v vi b (Ne.symm a1) hE hv a2 h2 ho hb
    · rw [hv] at h2; cases h2; exact hE'
  · rcases get_set h1 with ⟨a1, a2⟩ | ⟨rfl, rfl⟩
    · rcases get_set h3 with ⟨b1, b2⟩ | ⟨rfl, rfl⟩
      · exact h.sep i j Ei Ej vi vj b hij a2 h2 b2 h4 h5
      · intro hbb
        rw [hv] at h4; cases h4
        exact h.sep i j Ei E vi v b hij a2 h2 hE hv h5 (hb b hbb)
    · rcases get_set h3 with ⟨b1, b2⟩ | ⟨rfl, rfl⟩
      · rw [hv] at h2; cases h2
        exact h.sep i j E Ej v vj b hij hE hv b2 h4 (ho b h5)
      · exact absurd rfl hij
  · refine hblk b hb fun ho => hn ⟨k, E, v, hE, hv, ho⟩
  · rintro b ⟨i, Ei, vi, h1, h2, h3⟩
    rcases get_set h1 with ⟨a1, a2⟩ | ⟨rfl, rfl⟩
    · exact .inl ⟨i, Ei, vi, a2, h2, h3⟩
    · rw [hv] at h2; cases h2
      exact .inl ⟨i, E, v, hE, hv, ho b h3⟩

end Go.AX
