/- CubeRa: contracts of functions. -/
import Derived.Test.YtnfboopfpkaeaaaProg
import Derived.KernelRfl
import Derived.Test.YtnfboopfpkaeaaaSyB
import Derived.Test.YtnfboopfpkaeaaaCubeH
import Derived.Test.YtnfboopfpkaeaaaFormsP
namespace Go.Proofs.Ytnfboopfpkaeaaa
open Go Go.Eng Nim
set_option maxRecDepth 100000
theorem by64 {p : Nat → Prop} (h : ∀ n : Fin 64, p n) {m : Nat} (hm : m < 64) : p m := h ⟨m, hm⟩
theorem value_of (b : Bool) (m : Nat) (h : Hp) : Ev 100000 (m + 10) 70 [.bool b] h = some (I (if b = true then 1 else 0), h) := by
  cases b <;> kernel_rfl
/-- One number below 64. -/
inductive B64 : Nat → Prop
  | mk (a b c d e f : Bool) : B64 (a.toNat + 2 * b.toNat + 4 * c.toNat + 8 * d.toNat + 16 * e.toNat + 32 * f.toNat)
theorem b64 {z : Nat} (h : z < 64) : B64 z := by
  have e : z = (z.testBit 0).toNat + 2 * (z.testBit 1).toNat + 4 * (z.testBit 2).toNat + 8 * (z.testBit 3).toNat + 16 * (z.testBit 4).toNat + 32 * (z.testBit 5).toNat := by
    simp only [Nat.toNat_testBit]
    omega
  rw [e]
  exact .mk _ _ _ _ _ _
theorem ones_of {z : Nat} (hz : z < 64) (m : Nat) (h : Hp) : Ev 100000 (m + 20) 71 [J z] h = some (J (pop z), h) := by
  obtain ⟨a, b, c, d, e, f⟩ := b64 hz
  cases a <;> cases b <;> cases c <;> cases d <;> cases e <;> cases f <;> kernel_rfl
theorem count_of {z : Nat} (hz : z < 64) (m : Nat) (h : Hp) : Ev 100000 (m + 20) 66 [J z] h = some (J (pop z), h) := by
  obtain ⟨a, b, c, d, e, f⟩ := b64 hz
  cases a <;> cases b <;> cases c <;> cases d <;> cases e <;> cases f <;> kernel_rfl
/-- A length that is no table's: as the program and as the reference say. -/
def NoLen (lf m N : Nat) : Prop := (∀ h, Ev lf m 56 [J N] h = some (.tuple #[I (if N = 0 then -1 else (Nat.log2 N : Int)), .bool false], h)) ∧ ∀ h, Ev lf m 33 [J N] h = some (I (-1), h)
theorem rbits_of (n : Nat) (hn : n ≤ 6) (m : Nat) (h : Hp) : Ev 100000 (m + 20) 33 [J (2 ^ n)] h = some (J n, h) := by
  rcases (by omega : n = 0 ∨ n = 1 ∨ n = 2 ∨ n = 3 ∨ n = 4 ∨ n = 5 ∨ n = 6) with rfl | rfl | rfl | rfl | rfl | rfl | rfl <;> kernel_rfl
theorem len_all {N : Nat} (hN : N ≤ 66) : (∃ n, n ≤ 6 ∧ N = 2 ^ n) ∨ ∀ m, NoLen 100000 (m + 20) N := by
  rcases Nat.lt_or_ge N 64 with h | h
  · obtain ⟨a, b, c, d, e, f⟩ := b64 h
    cases a <;> cases b <;> cases c <;> cases d <;> cases e <;> cases f <;> first | exact .inl ⟨0, by decide, rfl⟩ | exact .inl ⟨1, by decide, rfl⟩ | exact .inl ⟨2, by decide, rfl⟩ | exact .inl ⟨3, by decide, rfl⟩ | exact .inl ⟨4, by decide, rfl⟩ | exact .inl ⟨5, by decide, rfl⟩ | exact .inr fun m => ⟨fun h => by kernel_rfl, fun h => by kernel_rfl⟩
  · rcases (by omega : N = 64 ∨ N = 65 ∨ N = 66) with rfl | rfl | rfl
    · exact .inl ⟨6, by decide, rfl⟩
    · exact .inr fun m => ⟨fun h => by kernel_rfl, fun h => by kernel_rfl⟩
    · exact .inr fun m => ⟨fun h => by kernel_rfl, fun h => by kernel_rfl⟩
end Go.Proofs.Ytnfboopfpkaeaaa
