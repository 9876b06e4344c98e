/- The products of numbers are those of a field. -/
import Derived.Test.YtegcmgjldapnmaaDoorNimA
namespace Go.Proofs.YtegcmgjldapnmaaDoor.Nim

structure CR (R : Type) [Add R] [Mul R] [Zero R] [One R] : Prop where
  ac : ∀ a b : R, a + b = b + a
  aa : ∀ a b c : R, a + b + c = a + (b + c)
  as : ∀ a : R, a + a = 0
  az : ∀ a : R, a + 0 = a
  mc : ∀ a b : R, a * b = b * a
  ma : ∀ a b c : R, a * b * c = a * (b * c)
  md : ∀ a b c : R, a * (b + c) = a * b + a * c
  mz : ∀ a : R, a * 0 = 0
  mo : ∀ a : R, a * 1 = a

namespace CR
variable {R : Type} [Add R] [Mul R] [Zero R] [One R]

theorem alc (h : CR R) (a b c : R) : a + (b + c) = b + (a + c) := by rw [← h.aa, h.ac a b, h.aa]
theorem mlc (h : CR R) (a b c : R) : a * (b * c) = b * (a * c) := by rw [← h.ma, h.mc a b, h.ma]
theorem mdr (h : CR R) (a b c : R) : (a + b) * c = a * c + b * c := by rw [h.mc, h.md, h.mc c a, h.mc c b]
theorem za (h : CR R) (a : R) : 0 + a = a := by rw [h.ac, h.az]
theorem sl (h : CR R) (a b : R) : a + (a + b) = b := by rw [← h.aa, h.as, h.za]
theorem zm (h : CR R) (a : R) : 0 * a = 0 := by rw [h.mc, h.mz]

end CR

def qadd {R : Type} [Add R] (x y : R × R) : R × R := (x.1 + y.1, x.2 + y.2)
def qmul {R : Type} [Add R] [Mul R] (c : R) (x y : R × R) : R × R := ((x.1 + x.2) * (y.1 + y.2) + x.2 * y.2, x.2 * y.2 + x.1 * y.1 * c)

theorem qmul_eq {R : Type} [Add R] [Mul R] [Zero R] [One R] (h : CR R) (c : R) (x y : R × R) : qmul c x y = (x.1 * y.1 + (x.1 * y.2 + x.2 * y.1), x.2 * y.2 + x.1 * y.1 * c) := by
  unfold qmul
  refine Prod.ext ?_ rfl
  show (x.1 + x.2) * (y.1 + y.2) + x.2 * y.2 = _
  rw [h.md, h.mdr, h.mdr]
  have : x.1 * y.1 + x.2 * y.1 + (x.1 * y.2 + x.2 * y.2) + x.2 * y.2 = x.1 * y.1 + (x.1 * y.2 + x.2 * y.1) + (x.2 * y.2 + x.2 * y.2) := by
    simp only [h.aa, h.ac, h.alc]
  rw [this, h.as, h.az]

theorem cr_q {R : Type} [Add R] [Mul R] [Zero R] [One R] (h : CR R) (c : R) : @CR (R × R) ⟨qadd⟩ ⟨qmul c⟩ ⟨((0 : R), (0 : R))⟩ ⟨((0 : R), (1 : R))⟩ := by
  refine @CR.mk (R × R) ⟨qadd⟩ ⟨qmul c⟩ ⟨((0 : R), (0 : R))⟩ ⟨((0 : R), (1 : R))⟩ ?_ ?_ ?_ ?_ ?_ ?_ ?_ ?_ ?_
  · intro a b; exact Prod.ext (h.ac _ _) (h.ac _ _)
  · intro a b c; exact Prod.ext (h.aa _ _ _) (h.aa _ _ _)
  · intro a; exact Prod.ext (h.as _) (h.as _)
  · intro a; exact Prod.ext (h.az _) (h.az _)
  · intro a b
    show qmul c a b = qmul c b a
    rw [qmul_eq h, qmul_eq h]
    refine Prod.ext ?_ ?_
    · show a.1 * b.1 + (a.1 * b.2 + a.2 * b.1) = b.1 * a.1 + (b.1 * a.2 + b.2 * a.1)
      rw [h.mc a.1 b.1, h.mc a.1 b.2, h.mc a.2 b.1, h.ac (b.2 * a.1)]
    · show a.2 * b.2 + a.1 * b.1 * c = b.2 * a.2 + b.1 * a.1 * c
      rw [h.mc a.2, h.mc a.1]
  · intro x y z
    show qmul c (qmul c x y) z = qmul c x (qmul c y z)
    simp only [qmul_eq h]
    refine Prod.ext ?_ ?_
    · simp only [h.md, h.mdr, h.aa, h.ac, h.alc, h.ma, h.mc, h.mlc]
    · simp only [h.md, h.mdr, h.aa, h.ac, h.alc, h.ma, h.mc, h.mlc]
  · intro x y z
    show qmul c x (qadd y z) = qadd (qmul c x y) (qmul c x z)
    simp only [qmul_eq h, qadd]
    refine Prod.ext ?_ ?_
    · simp only [h.md, h.mdr, h.aa, h.ac, h.alc, h.ma, h.mc, h.mlc]
    · simp only [h.md, h.mdr, h.aa, h.ac, h.alc, h.ma, h.mc, h.mlc]
  · intro x
    show qmul c x (0, 0) = (0, 0)
    simp only [qmul_eq h, h.mz, h.zm, h.az]
  · intro x
    show qmul c x (0, 1) = x
    simp only [qmul_eq h, h.mz, h.zm, h.az, h.za, h.mo]

def T : Nat → Type
  | 0 => Bool
  | k + 1 => T k × T k

def addT : (k : Nat) → T k → T k → T k
  | 0 => Bool.xor
  | k + 1 => @qadd (T k) ⟨addT k⟩
def zeroT : (k : Nat) → T k
  | 0 => false
  | k + 1 => (zeroT k, zeroT k)
def oneT : (k : Nat) → T k
  | 0 => true
  | k + 1 => (zeroT k, oneT k)
/-- The greatest power of 2. -/
def topT : (k : Nat) → T k
  | 0 => true
  | k + 1 => (topT k, zeroT k)
def mulT : (k : Nat) → T k → T k → T k
  | 0 => Bool.and
  | k + 1 => @qmul (T k) ⟨addT k⟩ ⟨mulT k⟩ (topT k)

instance (k : Nat) : Add (T k) := ⟨addT k⟩
instance (k : Nat) : Mul (T k) := ⟨mulT k⟩
instance (k : Nat) : Zero (T k) := ⟨zeroT k⟩
instance (k : Nat) : One (T k) := ⟨oneT k⟩

theorem crT : ∀ k : Nat, CR (T k)
  | 0 => by
    refine ⟨?_, ?_, ?_, ?_, ?_, ?_, ?_, ?_, ?_⟩
    · intro a b; cases a <;> cases b <;> rfl
    · intro a b c; cases a <;> cases b <;> cases c <;> rfl
    · intro a; cases a <;> rfl
    · intro a; cases a <;> rfl
    · intro a b; cases a <;> cases b <;> rfl
    · intro a b c; cases a <;> cases b <;> cases c <;> rfl
    · intro a b c; cases a <;> cases b <;> cases c <;> rfl
    · intro a; cases a <;> rfl
    · intro a; cases a <;> rfl
  | k + 1 => cr_q (crT k) (topT k)

def enc : (k : Nat) → T k → Nat
  | 0, b => b.toNat
  | k + 1, x => enc k x.1 * 2 ^ 2 ^ k + enc k x.2

theorem pow_step (k : Nat) : 2 ^ 2 ^ (k + 1) = 2 ^ 2 ^ k * 2 ^ 2 ^ k := by rw [← Nat.pow_add]; congr 1; omega

theorem enc_lt : ∀ (k : Nat) (x : T k), enc k x < 2 ^ 2 ^ k
  | 0, b => by cases b <;> decide
  | k + 1, x => by
    have h1 := enc_lt k x.1
    have h2 := enc_lt k x.2
    rw [pow_step]
    show enc k x.1 * 2 ^ 2 ^ k + enc k x.2 < _
    calc enc k x.1 * 2 ^ 2 ^ k + enc k x.2 < enc k x.1 * 2 ^ 2 ^ k + 2 ^ 2 ^ k := by omega
      _ = (enc k x.1 + 1) * 2 ^ 2 ^ k := by rw [Nat.add_mul, Nat.one_mul]
      _ ≤ _ := Nat.mul_le_mul_right _ h1

theorem enc_hi (k : Nat) (x : T (k + 1)) : enc (k + 1) x / 2 ^ 2 ^ k = enc k x.1 := by
  show (enc k x.1 * 2 ^ 2 ^ k + enc k x.2) / 2 ^ 2 ^ k = _
  have hpos : 0 < 2 ^ 2 ^ k := Nat.pow_pos (by omega)
  rw [Nat.add_comm, Nat.add_mul_div_right _ _ hpos, Nat.div_eq_of_lt (enc_lt k x.2), Nat.zero_add]

theorem enc_lo (k : Nat) (x : T (k + 1)) : enc (k + 1) x % 2 ^ 2 ^ k = enc k x.2 := by
  show (enc k x.1 * 2 ^ 2 ^ k + enc k x.2) % 2 ^ 2 ^ k = _
  rw [Nat.add_comm, Nat.add_mul_mod_self_right, Nat.mod_eq_of_lt (enc_lt k x.2)]

theorem enc_surj : ∀ (k a : Nat), a < 2 ^ 2 ^ k → ∃ x : T k, enc k x = a
  | 0, a, h => by
    have : a = 0 ∨ a = 1 := by simp at h; omega
    rcases this with rfl | rfl
    · exact ⟨false, rfl⟩
    · exact ⟨true, rfl⟩
  | k + 1, a, h => by
    have hpos : 0 < 2 ^ 2 ^ k := Nat.pow_pos (by omega)
    obtain ⟨x1, e1⟩ := enc_surj k (a / 2 ^ 2 ^ k) (Nat.div_lt_of_lt_mul (by rw [← pow_step]; exact h))
    obtain ⟨x0, e0⟩ := enc_surj k (a % 2 ^ 2 ^ k) (Nat.mod_lt _ hpos)
    refine ⟨(x1, x0), ?_⟩
    show enc k x1 * 2 ^ 2 ^ k + enc k x0 = a
    rw [e1, e0, Nat.mul_comm]
    exact Nat.div_add_mod a _

theorem enc_zero : ∀ k : Nat, enc k 0 = 0
  | 0 => rfl
  | k + 1 => by
    have := enc_zero k
    show enc k (zeroT k) * 2 ^ 2 ^ k + enc k (zeroT k) = 0
    rw [show enc k (zeroT k) = 0 from this]
    simp

theorem enc_one : ∀ k : Nat, enc k 1 = 1
  | 0 => rfl
  | k + 1 => by
    show enc k (zeroT k) * 2 ^ 2 ^ k + enc k (oneT k) = 1
    rw [show enc k (zeroT k) = 0 from enc_zero k, show enc k (oneT k) = 1 from enc_one k]
    simp

theorem enc_top : ∀ k : Nat, enc k (topT k) = 2 ^ (2 ^ k - 1)
  | 0 => rfl
  | k + 1 => by
    show enc k (topT k) * 2 ^ 2 ^ k + enc k (zeroT k) = _
    rw [show enc k (zeroT k) = 0 from enc_zero k, enc_top k, Nat.add_zero, ← Nat.pow_add]
    congr 1
    have : 0 < 2 ^ k := Nat.pow_pos (by omega)
    omega

theorem xor_pairs {a b c d n : Nat} (hb : b < 2 ^ n) (hd : d < 2 ^ n) : (a * 2 ^ n + b) ^^^ (c * 2 ^ n + d) = (a ^^^ c) * 2 ^ n + (b ^^^ d) := by
  rw [← xor_add hb, ← xor_add hd, ← xor_add (Nat.xor_lt_two_pow hb hd)]
  have : (a ^^^ c) * 2 ^ n = a * 2 ^ n ^^^ c * 2 ^ n := by
    apply Nat.eq_of_testBit_eq
    intro j
    simp only [Nat.mul_comm _ (2 ^ n), Nat.testBit_xor, Nat.testBit_two_pow_mul]
    cases decide (j ≥ n) <;> simp
  rw [this]
  ac_rfl

theorem enc_add : ∀ (k : Nat) (x y : T k), enc k (x + y) = enc k x ^^^ enc k y
  | 0, x, y => by cases x <;> cases y <;> rfl
  | k + 1, x, y => by
    have h1 := enc_add k x.1 y.1
    have h2 := enc_add k x.2 y.2
    show enc k (x.1 + y.1) * 2 ^ 2 ^ k + enc k (x.2 + y.2) = (enc k x.1 * 2 ^ 2 ^ k + enc k x.2) ^^^ (enc k y.1 * 2 ^ 2 ^ k + enc k y.2)
    rw [h1, h2, xor_pairs (enc_lt _ _) (enc_lt _ _)]

theorem enc_mul : ∀ (k : Nat) (x y : T k), enc k (x * y) = nm k (enc k x) (enc k y)
  | 0, x, y => by cases x <;> cases y <;> rfl
  | k + 1, x, y => by
    simp only [nm]
    rw [enc_hi, enc_hi, enc_lo, enc_lo, ← enc_add, ← enc_add, ← enc_mul, ← enc_mul, ← enc_mul, ← enc_add, ← enc_top k, ← enc_mul]
    show enc k ((x.1 + x.2) * (y.1 + y.2) + x.2 * y.2) * 2 ^ 2 ^ k + enc k (x.2 * y.2 + x.1 * y.1 * topT k) = _
    rw [Nat.xor_assoc, ← enc_add, xor_add (enc_lt _ _)]

theorem enc_inj : ∀ (k : Nat) (x y : T k), enc k x = enc k y → x = y
  | 0, x, y, h => by cases x <;> cases y <;> first | rfl | cases h
  | k + 1, x, y, h => by
    have h1 : enc k x.1 = enc k y.1 := by rw [← enc_hi, ← enc_hi, h]
    have h2 : enc k x.2 = enc k y.2 := by rw [← enc_lo, ← enc_lo, h]
    exact Prod.ext (enc_inj k _ _ h1) (enc_inj k _ _ h2)

theorem nm_comm {k a b : Nat} (ha : a < 2 ^ 2 ^ k) (hb : b < 2 ^ 2 ^ k) : nm k a b = nm k b a := by
  obtain ⟨x, rfl⟩ := enc_surj k a ha
  obtain ⟨y, rfl⟩ := enc_surj k b hb
  rw [← enc_mul, ← enc_mul, (crT k).mc]

theorem nm_assoc {k a b c : Nat} (ha : a < 2 ^ 2 ^ k) (hb : b < 2 ^ 2 ^ k) (hc : c < 2 ^ 2 ^ k) : nm k (nm k a b) c = nm k a (nm k b c) := by
  obtain ⟨x, rfl⟩ := enc_surj k a ha
  obtain ⟨y, rfl⟩ := enc_surj k b hb
  obtain ⟨z, rfl⟩ := enc_surj k c hc
  rw [← enc_mul, ← enc_mul, ← enc_mul, ← enc_mul, (crT k).ma]

theorem nm_xor {k a b c : Nat} (ha : a < 2 ^ 2 ^ k) (hb : b < 2 ^ 2 ^ k) (hc : c < 2 ^ 2 ^ k) : nm k a (b ^^^ c) = nm k a b ^^^ nm k a c := by
  obtain ⟨x, rfl⟩ := enc_surj k a ha
  obtain ⟨y, rfl⟩ := enc_surj k b hb
  obtain ⟨z, rfl⟩ := enc_surj k c hc
  rw [← enc_add, ← enc_mul, ← enc_mul, ← enc_mul, ← enc_add, (crT k).md]

end Go.Proofs.YtegcmgjldapnmaaDoor.Nim
