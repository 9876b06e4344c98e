/- CubeA: contracts of functions. -/
import Derived.Test.YtnfboopfpkaeaaaProg
import Derived.KernelRfl
import Derived.Test.YtnfboopfpkaeaaaSyB
import Derived.Test.YtnfboopfpkaeaaaBitsA
import Derived.Test.YtnfboopfpkaeaaaWalshP
import Derived.Test.YtnfboopfpkaeaaaSyD
import Derived.Test.YtnfboopfpkaeaaaAwake
namespace Go.Proofs.Ytnfboopfpkaeaaa
open Go Go.Eng Nim
set_option maxRecDepth 100000
/-- A number that is not less than 0. -/
abbrev J (a : Nat) : Value := .int .i64 (Int.ofNat a)
/-- A number of Go's int. -/
abbrev I (z : Int) : Value := .int .i64 z
noncomputable abbrev Ev (lf n f : Nat) (l : List Value) (h : Hp) := evInv Try.prog orc lf n (.fn f l) h
theorem ok_nat {a b : Nat} (h : decide (Int.ofNat a < Int.ofNat b) = true) : a < b := by have := of_decide_eq_true h; simpa using this
theorem no_nat {a b : Nat} (h : decide (Int.ofNat a < Int.ofNat b) = false) : b ≤ a := by have := of_decide_eq_false h; simp at this; omega
theorem ne_no {a b : Nat} (h : a = b) : (Int.ofNat a != Int.ofNat b) = false := by subst h; exact bne_self_eq_false _
/-- The number of bits of a table. -/
theorem size_of (n : Nat) (hn : n ≤ 6) (m : Nat) (h : Hp) : Ev 100000 (m + 10) 56 [J (2 ^ n)] h = some (.tuple #[J n, .bool true], h) := by
  rcases (by omega : n = 0 ∨ n = 1 ∨ n = 2 ∨ n = 3 ∨ n = 4 ∨ n = 5 ∨ n = 6) with rfl | rfl | rfl | rfl | rfl | rfl | rfl <;> kernel_rfl
theorem number_of (b : Bool) (m : Nat) (h : Hp) : Ev 100000 (m + 10) 74 [.bool b] h = some (I (if b = true then 1 else 0), h) := by
  cases b <;> kernel_rfl
end Go.Proofs.Ytnfboopfpkaeaaa
