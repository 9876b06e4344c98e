/- Whole numbers of 64 bits as natural numbers; the products of numbers. -/
import GoSem.Core.View
namespace Go.Proofs.YtegcmgjldapnmaaDoor.Nim

abbrev andI (x y : Int) : Int := IntKind.wrap .i64 ((BitVec.ofInt 64 x &&& BitVec.ofInt 64 y).toNat : Int)
abbrev xorI (x y : Int) : Int := IntKind.wrap .i64 ((BitVec.ofInt 64 x ^^^ BitVec.ofInt 64 y).toNat : Int)
abbrev shlI (x : Int) (n : Nat) : Int := IntKind.wrap .i64 (x * 2 ^ n)
abbrev shrI (x : Int) (n : Nat) : Int := x.fdiv (2 ^ n)

theorem wrap_nat {n : Nat} (h : n < 2 ^ 63) : IntKind.wrap .i64 (Int.ofNat n) = Int.ofNat n := by
  unfold IntKind.wrap
  have h1 : (Int.ofNat n) % (2 ^ IntKind.i64.bits : Int) = Int.ofNat n := Int.emod_eq_of_lt (by simp) (by
    show (n : Int) < 2 ^ 64
    have : (n : Int) < ((2 ^ 63 : Nat) : Int) := by exact_mod_cast h
    simp at this
    omega)
  simp only [h1]
  have h2 : ¬ ((Int.ofNat n : Int) ≥ (2 ^ (IntKind.i64.bits - 1) : Int)) := by
    show ¬ ((n : Int) ≥ 2 ^ 63)
    have : (n : Int) < ((2 ^ 63 : Nat) : Int) := by exact_mod_cast h
    simp at this
    omega
  have h3 : decide ((Int.ofNat n : Int) ≥ (2 ^ (IntKind.i64.bits - 1) : Int)) = false := decide_eq_false h2
  simp only [h3, Bool.and_false]
  rfl

theorem ofInt_nat (n : Nat) : BitVec.ofInt 64 (Int.ofNat n) = BitVec.ofNat 64 n := by
  simp [BitVec.ofInt_natCast]

theorem and_nat {a b : Nat} (ha : a < 2 ^ 63) : andI (Int.ofNat a) (Int.ofNat b) = Int.ofNat (a &&& b) := by
  unfold andI
  rw [ofInt_nat, ofInt_nat, BitVec.toNat_and, BitVec.toNat_ofNat, BitVec.toNat_ofNat]
  have h1 : a % 2 ^ 64 = a := Nat.mod_eq_of_lt (by omega)
  have h2 : a &&& b % 2 ^ 64 = a &&& b := by
    apply Nat.eq_of_testBit_eq
    intro i
    simp only [Nat.testBit_and, Nat.testBit_mod_two_pow]
    by_cases hi : i < 64
    · simp [hi]
    · have : a.testBit i = false := Nat.testBit_lt_two_pow (Nat.lt_of_lt_of_le (show a < 2 ^ 64 by omega) (Nat.pow_le_pow_right (by omega) (by omega)))
      simp [this]
  rw [h1, h2]
  exact wrap_nat (Nat.lt_of_le_of_lt Nat.and_le_left ha)

theorem xor_nat {a b : Nat} (ha : a < 2 ^ 63) (hb : b < 2 ^ 63) : xorI (Int.ofNat a) (Int.ofNat b) = Int.ofNat (a ^^^ b) := by
  unfold xorI
  rw [ofInt_nat, ofInt_nat, BitVec.toNat_xor, BitVec.toNat_ofNat, BitVec.toNat_ofNat]
  rw [Nat.mod_eq_of_lt (show a < 2 ^ 64 by omega), Nat.mod_eq_of_lt (show b < 2 ^ 64 by omega)]
  exact wrap_nat (Nat.xor_lt_two_pow ha hb)

theorem shr_nat (a n : Nat) : shrI (Int.ofNat a) n = Int.ofNat (a / 2 ^ n) := by
  show Int.fdiv (a : Int) (2 ^ n) = _
  have : (2 : Int) ^ n = ((2 ^ n : Nat) : Int) := by simp
  rw [this, Int.fdiv_eq_ediv_of_nonneg _ (Int.natCast_nonneg _)]
  exact (Int.natCast_ediv a (2 ^ n)).symm

theorem shl_nat {a n : Nat} (h : a * 2 ^ n < 2 ^ 63) : shlI (Int.ofNat a) n = Int.ofNat (a * 2 ^ n) := by
  unfold shlI
  have : (Int.ofNat a) * (2 : Int) ^ n = Int.ofNat (a * 2 ^ n) := by simp
  rw [this, wrap_nat h]

/-- The product of numbers below 2 to the power 2^k. -/
def nm : Nat → Nat → Nat → Nat
  | 0, a, b => a &&& b
  | k + 1, a, b =>
    let H := 2 ^ k
    let low := nm k (a % 2 ^ H) (b % 2 ^ H)
    (((nm k ((a / 2 ^ H) ^^^ (a % 2 ^ H)) ((b / 2 ^ H) ^^^ (b % 2 ^ H)) ^^^ low) * 2 ^ H) ^^^ low) ^^^ nm k (nm k (a / 2 ^ H) (b / 2 ^ H)) (2 ^ (H - 1))

theorem nm_lt : ∀ (k a b : Nat), a < 2 ^ 2 ^ k → b < 2 ^ 2 ^ k → nm k a b < 2 ^ 2 ^ k
  | 0, a, b, ha, hb => Nat.lt_of_le_of_lt Nat.and_le_left ha
  | k + 1, a, b, ha, hb => by
    have hp : 2 ^ 2 ^ (k + 1) = 2 ^ 2 ^ k * 2 ^ 2 ^ k := by rw [← Nat.pow_add]; congr 1; omega
    have hpos : 0 < 2 ^ 2 ^ k := Nat.pow_pos (by omega)
    have a1 : a / 2 ^ 2 ^ k < 2 ^ 2 ^ k := Nat.div_lt_of_lt_mul (by rw [← hp]; exact ha)
    have b1 : b / 2 ^ 2 ^ k < 2 ^ 2 ^ k := Nat.div_lt_of_lt_mul (by rw [← hp]; exact hb)
    have a0 := Nat.mod_lt a hpos
    have b0 := Nat.mod_lt b hpos
    have hl := nm_lt k _ _ a0 b0
    have hh := nm_lt k _ _ a1 b1
    have hc := nm_lt k _ _ (Nat.xor_lt_two_pow a1 a0) (Nat.xor_lt_two_pow b1 b0)
    have h1 : 2 ^ (2 ^ k - 1) < 2 ^ 2 ^ k := Nat.pow_lt_pow_right (by omega) (by have : 0 < 2 ^ k := Nat.pow_pos (by omega); omega)
    have hx := nm_lt k _ _ hh h1
    have hcl := Nat.xor_lt_two_pow hc hl
    have hle : 2 ^ 2 ^ k ≤ 2 ^ 2 ^ (k + 1) := by rw [hp]; exact Nat.le_mul_of_pos_left _ hpos
    simp only [nm]
    refine Nat.xor_lt_two_pow (Nat.xor_lt_two_pow ?_ (Nat.lt_of_lt_of_le hl hle)) (Nat.lt_of_lt_of_le hx hle)
    rw [hp]
    exact Nat.mul_lt_mul_of_pos_right hcl hpos

theorem xor_add {x y n : Nat} (h : y < 2 ^ n) : (x * 2 ^ n) ^^^ y = x * 2 ^ n + y := by
  rw [Nat.mul_comm]
  apply Nat.eq_of_testBit_eq
  intro j
  rw [Nat.testBit_xor, Nat.testBit_two_pow_mul_add x h, Nat.testBit_two_pow_mul]
  by_cases hj : j < n
  · have : ¬ j ≥ n := by omega
    simp [hj, this]
  · have h1 : j ≥ n := by omega
    have : y.testBit j = false := Nat.testBit_lt_two_pow (Nat.lt_of_lt_of_le h (Nat.pow_le_pow_right (by omega) h1))
    simp [hj, h1, this]

theorem nm_zero : ∀ (k a : Nat), nm k a 0 = 0 ∧ nm k 0 a = 0
  | 0, a => ⟨Nat.and_zero a, Nat.zero_and a⟩
  | k + 1, a => by
    constructor <;> simp [nm, nm_zero k]

theorem nm_one : ∀ (k a : Nat), a < 2 ^ 2 ^ k → nm k a 1 = a ∧ nm k 1 a = a
  | 0, a, h => by
    have : a = 0 ∨ a = 1 := by simp at h; omega
    rcases this with rfl | rfl <;> exact ⟨rfl, rfl⟩
  | k + 1, a, h => by
    have hp : 2 ^ 2 ^ (k + 1) = 2 ^ 2 ^ k * 2 ^ 2 ^ k := by rw [← Nat.pow_add]; congr 1; omega
    have hpos : 0 < 2 ^ 2 ^ k := Nat.pow_pos (by omega)
    have h2 : 1 < 2 ^ 2 ^ k := Nat.one_lt_two_pow (by have : 0 < 2 ^ k := Nat.pow_pos (by omega); omega)
    have a1 : a / 2 ^ 2 ^ k < 2 ^ 2 ^ k := Nat.div_lt_of_lt_mul (by rw [← hp]; exact h)
    have a0 := Nat.mod_lt a hpos
    have d1 : 1 / 2 ^ 2 ^ k = 0 := Nat.div_eq_of_lt h2
    have m1 : 1 % 2 ^ 2 ^ k = 1 := Nat.mod_eq_of_lt h2
    have hx := nm_one k _ (Nat.xor_lt_two_pow a1 a0)
    have h0 := nm_one k _ a0
    have key : ((a / 2 ^ 2 ^ k ^^^ a % 2 ^ 2 ^ k) ^^^ a % 2 ^ 2 ^ k) * 2 ^ 2 ^ k ^^^ a % 2 ^ 2 ^ k = a := by
      rw [Nat.xor_assoc, Nat.xor_self, Nat.xor_zero, xor_add a0, Nat.mul_comm]
      exact Nat.div_add_mod a _
    constructor
    · simp only [nm, d1, m1, Nat.zero_xor, hx.1, h0.1, (nm_zero k _).1, (nm_zero k _).2, Nat.xor_zero]
      exact key
    · simp only [nm, d1, m1, Nat.zero_xor, hx.2, h0.2, (nm_zero k _).2, Nat.xor_zero]
      exact key

theorem nm_small {a b : Nat} (h : a < 2 ∨ b < 2) (ha : a < 2 ^ 16) (hb : b < 2 ^ 16) : nm 4 a b = a * b := by
  rcases h with h | h
  · have : a = 0 ∨ a = 1 := by omega
    rcases this with rfl | rfl
    · rw [(nm_zero 4 b).2, Nat.zero_mul]
    · rw [(nm_one 4 b hb).2, Nat.one_mul]
  · have : b = 0 ∨ b = 1 := by omega
    rcases this with rfl | rfl
    · rw [(nm_zero 4 a).1, Nat.mul_zero]
    · rw [(nm_one 4 a ha).1, Nat.mul_one]

end Go.Proofs.YtegcmgjldapnmaaDoor.Nim
