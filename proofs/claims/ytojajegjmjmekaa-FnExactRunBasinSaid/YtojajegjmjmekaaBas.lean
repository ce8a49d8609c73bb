/- What the functions of this program do, one contract a function, by that walk: each under what its own statement says. -/
import Derived.Test.YtojajegjmjmekaaAxM
import Derived.Test.YtojajegjmjmekaaProg
import Derived.KernelRfl
import Derived.IntWalk
set_option linter.unusedVariables false
set_option linter.unusedSimpArgs false
namespace Go.AX
open Go.RowKit Go.Proofs

def bFields : List (Nat × TypeId) := [(0, 2), (1, 2), (2, 22)]
def bZero : List Value := [.int .i64 0, .int .i64 0, .slice none 0 0]
def lk : List (Nat × TI) → Nat → Option TI
  | [], _ => none
  | (t, i) :: r, n => bif Nat.beq t n then some i else lk r n
def tab : List (Nat × TI) :=
  [(27, ⟨3, 40, bZero, .st bFields⟩), (22, ⟨1, 24, [.slice none 0 0], .sli 32⟩), (2, ⟨1, 8, [.int .i64 0], .scal (.int .i64)⟩), (3, ⟨1, 8, [.int .i64 0], .scal (.int .i64)⟩), (32, ⟨1, 4, [.float .f32 0], .scal (.float .f32)⟩),
   (4, ⟨1, 1, [.bool false], .scal .bool⟩), (24, ⟨3, 40, bZero, .st bFields⟩), (36, ⟨1, 8, [.float .f64 0], .scal (.float .f64)⟩), (70, ⟨1, 8, [.pointer none], .scal (.pointer 27)⟩), (117, ⟨1, 24, [.slice none 0 0], .sli 27⟩),
   (122, ⟨1, 4, [.int .u32 0], .scal (.int .u32)⟩)]
def ty : TyT := lk tab

theorem lk_mem : ∀ {l : List (Nat × TI)} {n : Nat} {i : TI}, lk l n = some i → (n, i) ∈ l
  | [], _, _, h => by cases h
  | (t, j) :: r, n, i, h => by
    simp only [lk] at h
    cases hb : Nat.beq t n
    · rw [hb] at h; exact .tail _ (lk_mem h)
    · rw [hb] at h; cases h; have := Nat.eq_of_beq_eq_true hb; subst this; exact .head _

set_option maxRecDepth 100000 in
theorem tyOK : TyOK Try.prog ty := by
  have h : ∀ p, p ∈ tab → TIOK Try.prog p.1 p.2 := by
    unfold tab
    refine List.forall_mem_cons.2 ⟨?_, List.forall_mem_cons.2 ⟨?_, List.forall_mem_cons.2 ⟨?_, List.forall_mem_cons.2 ⟨?_, List.forall_mem_cons.2 ⟨?_, List.forall_mem_cons.2 ⟨?_, List.forall_mem_cons.2 ⟨?_, List.forall_mem_cons.2 ⟨?_, List.forall_mem_cons.2 ⟨?_, List.forall_mem_cons.2 ⟨?_, List.forall_mem_cons.2 ⟨?_, fun p h => nomatch h⟩⟩⟩⟩⟩⟩⟩⟩⟩⟩⟩
    · exact ⟨⟨_, _, rfl, rfl, rfl, rfl, rfl⟩, rfl, _, Try.underlying27, rfl⟩
    · exact ⟨⟨_, _, rfl, rfl, rfl, rfl, rfl⟩, rfl, Try.underlying22, rfl⟩
    · exact ⟨⟨_, _, rfl, rfl, rfl, rfl, rfl⟩, rfl, Try.underlying2, rfl, rfl⟩
    · exact ⟨⟨_, _, rfl, rfl, rfl, rfl, rfl⟩, rfl, Try.underlying3, rfl, rfl⟩
    · exact ⟨⟨_, _, rfl, rfl, rfl, rfl, rfl⟩, rfl, Try.underlying32, rfl, rfl⟩
    · exact ⟨⟨_, _, rfl, rfl, rfl, rfl, rfl⟩, rfl, Try.underlying4, rfl, rfl⟩
    · exact ⟨⟨_, _, rfl, rfl, rfl, rfl, rfl⟩, rfl, _, Try.underlying24, rfl⟩
    · exact ⟨⟨_, _, rfl, rfl, rfl, rfl, rfl⟩, rfl, Try.underlying36, rfl, rfl⟩
    · exact ⟨⟨_, _, rfl, rfl, rfl, rfl, rfl⟩, rfl, Try.underlying70, rfl, rfl⟩
    · exact ⟨⟨_, _, rfl, rfl, rfl, rfl, rfl⟩, rfl, Try.underlying117, rfl⟩
    · exact ⟨⟨_, _, rfl, rfl, rfl, rfl, rfl⟩, rfl, Try.underlying122, rfl, rfl⟩
  exact fun T ti hT => h _ (lk_mem hT)

theorem mixes : Try.prog.follows .mixedOrders = true := by kernel_rfl

abbrev SP := Spec Try.prog
abbrev i64 (n : Int) : A1 := .one (.ex (.int .i64 n))
abbrev f32 (x : Nat) : A1 := .one (.fl .f32 x)
end Go.AX
