/- What the functions of this program do, one contract a function, by that walk: each under what its own statement says. -/
import Derived.Test.YtfhgggjpdimaoaaSqAxT
import Derived.Test.YtfhgggjpdimaoaaSqAxS
import Derived.Test.YtfhgggjpdimaoaaProg
import Derived.KernelRfl
import Derived.IntWalk
set_option linter.unusedVariables false
set_option linter.unusedSimpArgs false
namespace Go.AX
open Go.RowKit Go.Proofs

def lk : List (Nat × TI) → Nat → Option TI
  | [], _ => none
  | (t, i) :: r, n => bif Nat.beq t n then some i else lk r n
def tab : List (Nat × TI) :=
  [(2, ⟨1, 8, [.int .i64 0], .scal (.int .i64)⟩),
   (3, ⟨1, 8, [.int .i64 0], .scal (.int .i64)⟩),
   (4, ⟨1, 1, [.bool false], .scal (.bool)⟩),
   (23, ⟨1, 4, [.float .f32 0], .scal (.float .f32)⟩),
   (65, ⟨1, 8, [.float .f64 0], .scal (.float .f64)⟩),
   (66, ⟨1, 8, [.complex .f32 0 0], .scal (.complex .f32)⟩),
   (83, ⟨1, 16, [.complex .f64 0 0], .scal (.complex .f64)⟩),
   (104, ⟨1, 4, [.int .u32 0], .scal (.int .u32)⟩),
   (108, ⟨1, 8, [.int .u64 0], .scal (.int .u64)⟩),
   (22, ⟨1, 24, [.slice none 0 0], .sli 85⟩),
   (28, ⟨1, 24, [.slice none 0 0], .sli 59⟩),
   (34, ⟨1, 24, [.slice none 0 0], .sli 66⟩),
   (35, ⟨1, 24, [.slice none 0 0], .sli 23⟩),
   (48, ⟨1, 24, [.slice none 0 0], .sli 80⟩),
   (74, ⟨1, 24, [.slice none 0 0], .sli 35⟩),
   (25, ⟨2, 32, [.slice none 0 0, .float .f32 0], .st [(0, 22), (1, 23)]⟩),
   (30, ⟨2, 32, [.slice none 0 0, .float .f32 0], .st [(0, 28), (1, 23)]⟩),
   (37, ⟨3, 56, [.slice none 0 0, .slice none 0 0, .bool false], .st [(0, 34), (1, 35), (2, 4)]⟩),
   (59, ⟨3, 12, [.float .f32 0, .float .f32 0, .float .f32 0], .st [(0, 23), (1, 23), (2, 23)]⟩),
   (85, ⟨3, 12, [.float .f32 0, .float .f32 0, .float .f32 0], .st [(0, 23), (1, 23), (2, 23)]⟩),
   (80, ⟨2, 12, [.complex .f32 0 0, .float .f32 0], .st [(0, 66), (1, 23)]⟩),
   (55, ⟨1, 8, [.pointer none], .scal (.pointer 30)⟩),
   (89, ⟨1, 8, [.pointer none], .scal (.pointer 37)⟩)]
def ty : TyT := lk tab

theorem lk_mem : ∀ {l : List (Nat × TI)} {n : Nat} {i : TI}, lk l n = some i → (n, i) ∈ l
  | [], _, _, h => by cases h
  | (t, j) :: r, n, i, h => by
    simp only [lk] at h
    cases hb : Nat.beq t n
    · rw [hb] at h; exact .tail _ (lk_mem h)
    · rw [hb] at h; cases h; have := Nat.eq_of_beq_eq_true hb; subst this; exact .head _

set_option maxRecDepth 100000 in
theorem tyOK : TyOK Try.prog ty := by
  have h : ∀ p, p ∈ tab → TIOK Try.prog p.1 p.2 := by
    unfold tab
    refine List.forall_mem_cons.2 ⟨?_, List.forall_mem_cons.2 ⟨?_, List.forall_mem_cons.2 ⟨?_, List.forall_mem_cons.2 ⟨?_, List.forall_mem_cons.2 ⟨?_, List.forall_mem_cons.2 ⟨?_, List.forall_mem_cons.2 ⟨?_, List.forall_mem_cons.2 ⟨?_, List.forall_mem_cons.2 ⟨?_, List.forall_mem_cons.2 ⟨?_, List.forall_mem_cons.2 ⟨?_, List.forall_mem_cons.2 ⟨?_, List.forall_mem_cons.2 ⟨?_, List.forall_mem_cons.2 ⟨?_, List.forall_mem_cons.2 ⟨?_, List.forall_mem_cons.2 ⟨?_, List.forall_mem_cons.2 ⟨?_, List.forall_mem_cons.2 ⟨?_, List.forall_mem_cons.2 ⟨?_, List.forall_mem_cons.2 ⟨?_, List.forall_mem_cons.2 ⟨?_, List.forall_mem_cons.2 ⟨?_, List.forall_mem_cons.2 ⟨?_, fun p h => nomatch h⟩⟩⟩⟩⟩⟩⟩⟩⟩⟩⟩⟩⟩⟩⟩⟩⟩⟩⟩⟩⟩⟩⟩
    · exact ⟨⟨_, _, rfl, rfl, rfl, rfl, rfl⟩, rfl, Try.underlying2, rfl, rfl⟩
    · exact ⟨⟨_, _, rfl, rfl, rfl, rfl, rfl⟩, rfl, Try.underlying3, rfl, rfl⟩
    · exact ⟨⟨_, _, rfl, rfl, rfl, rfl, rfl⟩, rfl, Try.underlying4, rfl, rfl⟩
    · exact ⟨⟨_, _, rfl, rfl, rfl, rfl, rfl⟩, rfl, Try.underlying23, rfl, rfl⟩
    · exact ⟨⟨_, _, rfl, rfl, rfl, rfl, rfl⟩, rfl, Try.underlying65, rfl, rfl⟩
    · exact ⟨⟨_, _, rfl, rfl, rfl, rfl, rfl⟩, rfl, Try.underlying66, rfl, rfl⟩
    · exact ⟨⟨_, _, rfl, rfl, rfl, rfl, rfl⟩, rfl, Try.underlying83, rfl, rfl⟩
    · exact ⟨⟨_, _, rfl, rfl, rfl, rfl, rfl⟩, rfl, Try.underlying104, rfl, rfl⟩
    · exact ⟨⟨_, _, rfl, rfl, rfl, rfl, rfl⟩, rfl, Try.underlying108, rfl, rfl⟩
    · exact ⟨⟨_, _, rfl, rfl, rfl, rfl, rfl⟩, rfl, Try.underlying22, rfl⟩
    · exact ⟨⟨_, _, rfl, rfl, rfl, rfl, rfl⟩, rfl, Try.underlying28, rfl⟩
    · exact ⟨⟨_, _, rfl, rfl, rfl, rfl, rfl⟩, rfl, Try.underlying34, rfl⟩
    · exact ⟨⟨_, _, rfl, rfl, rfl, rfl, rfl⟩, rfl, Try.underlying35, rfl⟩
    · exact ⟨⟨_, _, rfl, rfl, rfl, rfl, rfl⟩, rfl, Try.underlying48, rfl⟩
    · exact ⟨⟨_, _, rfl, rfl, rfl, rfl, rfl⟩, rfl, Try.underlying74, rfl⟩
    · exact ⟨⟨_, _, rfl, rfl, rfl, rfl, rfl⟩, rfl, _, Try.underlying25, rfl⟩
    · exact ⟨⟨_, _, rfl, rfl, rfl, rfl, rfl⟩, rfl, _, Try.underlying30, rfl⟩
    · exact ⟨⟨_, _, rfl, rfl, rfl, rfl, rfl⟩, rfl, _, Try.underlying37, rfl⟩
    · exact ⟨⟨_, _, rfl, rfl, rfl, rfl, rfl⟩, rfl, _, Try.underlying59, rfl⟩
    · exact ⟨⟨_, _, rfl, rfl, rfl, rfl, rfl⟩, rfl, _, Try.underlying85, rfl⟩
    · exact ⟨⟨_, _, rfl, rfl, rfl, rfl, rfl⟩, rfl, _, Try.underlying80, rfl⟩
    · exact ⟨⟨_, _, rfl, rfl, rfl, rfl, rfl⟩, rfl, Try.underlying55, rfl, rfl⟩
    · exact ⟨⟨_, _, rfl, rfl, rfl, rfl, rfl⟩, rfl, Try.underlying89, rfl, rfl⟩
  exact fun T ti hT => h _ (lk_mem hT)

theorem mixes : Try.prog.follows .mixedOrders = true := by kernel_rfl

abbrev SP := Spec Try.prog
abbrev i64 (n : Int) : A1 := .one (.ex (.int .i64 n))
abbrev f32 (x : Nat) : A1 := .one (.fl .f32 x)
abbrev f64 (x : Nat) : A1 := .one (.fl .f64 x)
abbrev c64 (x y : Nat) : A1 := .one (.cx .f32 x y)
abbrev ar (o : Bool) (xs : List Nat) : Ent := .arr o 23 (.f xs)
abbrev arC (o : Bool) (xs : List (Nat × Nat)) : Ent := .arr o 66 (.c xs)
abbrev arW (o : Bool) (xs : List (Nat × Nat × Nat)) : Ent := .arr o 80 (.w xs)
abbrev arP (o : Bool) (xs : List (Nat × Nat × Nat)) : Ent := .arr o 59 (.p xs)
abbrev arQ (o : Bool) (xs : List (Nat × Nat × Nat)) : Ent := .arr o 85 (.p xs)
end Go.AX
