/- Parts, implicants and the loop over them: contracts. -/
import GoSem.Core.View
import Derived.Test.YtnfboopfpkaeaaaDoorProg
import Derived.KernelRfl
import Derived.Test.YtnfboopfpkaeaaaDoorSyF
import Derived.Test.YtnfboopfpkaeaaaDoorAwake
/- Whole numbers of 64 bits as natural numbers. -/
namespace Go.Proofs.YtnfboopfpkaeaaaDoor.Nim

abbrev andI (x y : Int) : Int := IntKind.wrap .i64 ((BitVec.ofInt 64 x &&& BitVec.ofInt 64 y).toNat : Int)
abbrev orI (x y : Int) : Int := IntKind.wrap .i64 ((BitVec.ofInt 64 x ||| BitVec.ofInt 64 y).toNat : Int)
abbrev xorI (x y : Int) : Int := IntKind.wrap .i64 ((BitVec.ofInt 64 x ^^^ BitVec.ofInt 64 y).toNat : Int)
abbrev shlI (x : Int) (n : Nat) : Int := IntKind.wrap .i64 (x * 2 ^ n)
abbrev shrI (x : Int) (n : Nat) : Int := x.fdiv (2 ^ n)

theorem wrap_nat {n : Nat} (h : n < 2 ^ 63) : IntKind.wrap .i64 (Int.ofNat n) = Int.ofNat n := by
  unfold IntKind.wrap
  have h1 : (Int.ofNat n) % (2 ^ IntKind.i64.bits : Int) = Int.ofNat n := Int.emod_eq_of_lt (by simp) (by
    show (n : Int) < 2 ^ 64
    have : (n : Int) < ((2 ^ 63 : Nat) : Int) := by exact_mod_cast h
    simp at this
    omega)
  simp only [h1]
  have h2 : ¬ ((Int.ofNat n : Int) ≥ (2 ^ (IntKind.i64.bits - 1) : Int)) := by
    show ¬ ((n : Int) ≥ 2 ^ 63)
    have : (n : Int) < ((2 ^ 63 : Nat) : Int) := by exact_mod_cast h
    simp at this
    omega
  have h3 : decide ((Int.ofNat n : Int) ≥ (2 ^ (IntKind.i64.bits - 1) : Int)) = false := decide_eq_false h2
  simp only [h3, Bool.and_false]
  rfl

theorem ofInt_nat (n : Nat) : BitVec.ofInt 64 (Int.ofNat n) = BitVec.ofNat 64 n := by
  simp [BitVec.ofInt_natCast]

theorem and_nat {a b : Nat} (ha : a < 2 ^ 63) : andI (Int.ofNat a) (Int.ofNat b) = Int.ofNat (a &&& b) := by
  unfold andI
  rw [ofInt_nat, ofInt_nat, BitVec.toNat_and, BitVec.toNat_ofNat, BitVec.toNat_ofNat]
  have h1 : a % 2 ^ 64 = a := Nat.mod_eq_of_lt (by omega)
  have h2 : a &&& b % 2 ^ 64 = a &&& b := by
    apply Nat.eq_of_testBit_eq
    intro i
    simp only [Nat.testBit_and, Nat.testBit_mod_two_pow]
    by_cases hi : i < 64
    · simp [hi]
    · have : a.testBit i = false := Nat.testBit_lt_two_pow (Nat.lt_of_lt_of_le (show a < 2 ^ 64 by omega) (Nat.pow_le_pow_right (by omega) (by omega)))
      simp [this]
  rw [h1, h2]
  exact wrap_nat (Nat.lt_of_le_of_lt Nat.and_le_left ha)

theorem xor_nat {a b : Nat} (ha : a < 2 ^ 63) (hb : b < 2 ^ 63) : xorI (Int.ofNat a) (Int.ofNat b) = Int.ofNat (a ^^^ b) := by
  unfold xorI
  rw [ofInt_nat, ofInt_nat, BitVec.toNat_xor, BitVec.toNat_ofNat, BitVec.toNat_ofNat]
  rw [Nat.mod_eq_of_lt (show a < 2 ^ 64 by omega), Nat.mod_eq_of_lt (show b < 2 ^ 64 by omega)]
  exact wrap_nat (Nat.xor_lt_two_pow ha hb)

theorem shr_nat (a n : Nat) : shrI (Int.ofNat a) n = Int.ofNat (a / 2 ^ n) := by
  show Int.fdiv (a : Int) (2 ^ n) = _
  have : (2 : Int) ^ n = ((2 ^ n : Nat) : Int) := by simp
  rw [this, Int.fdiv_eq_ediv_of_nonneg _ (Int.natCast_nonneg _)]
  exact (Int.natCast_ediv a (2 ^ n)).symm

theorem shl_nat {a n : Nat} (h : a * 2 ^ n < 2 ^ 63) : shlI (Int.ofNat a) n = Int.ofNat (a * 2 ^ n) := by
  unfold shlI
  have : (Int.ofNat a) * (2 : Int) ^ n = Int.ofNat (a * 2 ^ n) := by simp
  rw [this, wrap_nat h]

theorem or_nat {a b : Nat} (ha : a < 2 ^ 63) (hb : b < 2 ^ 63) : orI (Int.ofNat a) (Int.ofNat b) = Int.ofNat (a ||| b) := by
  unfold orI
  rw [ofInt_nat, ofInt_nat, BitVec.toNat_or, BitVec.toNat_ofNat, BitVec.toNat_ofNat]
  rw [Nat.mod_eq_of_lt (show a < 2 ^ 64 by omega), Nat.mod_eq_of_lt (show b < 2 ^ 64 by omega)]
  exact wrap_nat (Nat.or_lt_two_pow ha hb)
theorem wrap_int {x : Int} (h0 : -(2 ^ 63) ≤ x) (h1 : x < 2 ^ 63) : IntKind.wrap .i64 x = x := by
  cases x with
  | ofNat n => exact wrap_nat (by simp at h1; omega)
  | negSucc n =>
    have hn : n < 2 ^ 63 := by omega
    unfold IntKind.wrap
    have e1 : (Int.negSucc n) % (2 ^ IntKind.i64.bits : Int) = Int.ofNat (2 ^ 64 - 1 - n) := by
      show (Int.negSucc n) % (2 ^ 64 : Int) = _
      simp only [Int.ofNat_eq_natCast]
      omega
    simp only [e1]
    have h3 : decide ((Int.ofNat (2 ^ 64 - 1 - n) : Int) ≥ (2 ^ (IntKind.i64.bits - 1) : Int)) = true := by
      refine decide_eq_true ?_
      show ((2 ^ 64 - 1 - n : Nat) : Int) ≥ 2 ^ 63
      omega
    simp only [h3, Bool.and_true, show IntKind.i64.signed = true from rfl, if_true]
    show ((2 ^ 64 - 1 - n : Nat) : Int) - 2 ^ 64 = _
    omega
/-- One bit of a number. -/
theorem and_bit (x i : Nat) : (x &&& 2 ^ i = 0) ↔ x.testBit i = false := by
  constructor
  · intro h
    have : (x &&& 2 ^ i).testBit i = x.testBit i := by simp [Nat.testBit_and, Nat.testBit_two_pow]
    rw [← this, h, Nat.zero_testBit]
  · intro h
    apply Nat.eq_of_testBit_eq
    intro j
    rw [Nat.testBit_and, Nat.testBit_two_pow, Nat.zero_testBit]
    by_cases hij : i = j
    · subst hij; simp [h]
    · simp [hij]
theorem or_bit {x i : Nat} (h : x.testBit i = false) : x ||| 2 ^ i = x ^^^ 2 ^ i := by
  apply Nat.eq_of_testBit_eq
  intro j
  rw [Nat.testBit_or, Nat.testBit_xor, Nat.testBit_two_pow]
  by_cases hij : i = j
  · subst hij; simp [h]
  · simp [hij]
end Go.Proofs.YtnfboopfpkaeaaaDoor.Nim
/- Vectors over the inputs of a few bits, turned bit by bit. -/
namespace Go.Proofs.YtnfboopfpkaeaaaDoor.Nim
section
variable {α : Type}
/-- One bit. -/
def stg (s : α → α → α × α) (i : Nat) (l : Nat → α) : Nat → α := fun x => match x.testBit i with
  | true => (s (l (x ^^^ 2 ^ i)) (l x)).2
  | false => (s (l x) (l (x ^^^ 2 ^ i))).1
/-- The bits below n. -/
def trn (s : α → α → α × α) : Nat → (Nat → α) → Nat → α
  | 0, l => l
  | n + 1, l => stg s n (trn s n l)
theorem tb_same (x i : Nat) : (x ^^^ 2 ^ i).testBit i = !x.testBit i := by simp [Nat.testBit_xor]
theorem tb_other {i j : Nat} (h : i ≠ j) (x : Nat) : (x ^^^ 2 ^ i).testBit j = x.testBit j := by simp [Nat.testBit_xor, h]
theorem xx (x i : Nat) : x ^^^ 2 ^ i ^^^ 2 ^ i = x := by rw [Nat.xor_assoc, Nat.xor_self, Nat.xor_zero]
theorem xc (x i j : Nat) : x ^^^ 2 ^ i ^^^ 2 ^ j = x ^^^ 2 ^ j ^^^ 2 ^ i := by rw [Nat.xor_assoc, Nat.xor_comm (2 ^ i), ← Nat.xor_assoc]
theorem stg_t {s : α → α → α × α} {i x : Nat} {l : Nat → α} (h : x.testBit i = true) : stg s i l x = (s (l (x ^^^ 2 ^ i)) (l x)).2 := by unfold stg; rw [h]
theorem stg_f {s : α → α → α × α} {i x : Nat} {l : Nat → α} (h : x.testBit i = false) : stg s i l x = (s (l x) (l (x ^^^ 2 ^ i))).1 := by unfold stg; rw [h]
end

/-- A step that keeps the lower and turns the upper. -/
def up {α : Type} (f : α → α → α) (a b : α) : α × α := (a, f a b)
/-- Two such steps at different bits. -/
theorem up_comm {α : Type} {f g : α → α → α} (hfg : ∀ a b c d : α, g (f a b) (f c d) = f (g a c) (g b d)) {i j : Nat} (hij : i ≠ j) (l : Nat → α) : stg (up f) i (stg (up g) j l) = stg (up g) j (stg (up f) i l) := by
  funext x
  cases hi : x.testBit i <;> cases hj : x.testBit j
  · rw [stg_f hi, stg_f hj]
    simp only [up]
    rw [stg_f hj, stg_f hi]; rfl
  · rw [stg_f hi, stg_t hj]
    simp only [up]
    rw [stg_t hj, stg_f hi, stg_f ((tb_other (Ne.symm hij) x).trans hi)]; rfl
  · rw [stg_t hi, stg_f hj]
    simp only [up]
    rw [stg_f hj, stg_t hi, stg_f ((tb_other hij x).trans hj)]; rfl
  · rw [stg_t hi, stg_t hj]
    simp only [up]
    rw [stg_t hj, stg_t hi, stg_t ((tb_other hij x).trans hj), stg_t ((tb_other (Ne.symm hij) x).trans hi)]
    simp only [up]
    rw [xc x j i]
    exact (hfg _ _ _ _).symm
theorem up_trn {α : Type} {f g : α → α → α} (hfg : ∀ a b c d : α, g (f a b) (f c d) = f (g a c) (g b d)) (n : Nat) : ∀ (k : Nat), k ≤ n → ∀ l : Nat → α, trn (up f) k (stg (up g) n l) = stg (up g) n (trn (up f) k l)
  | 0, _, l => rfl
  | k + 1, hk, l => by
    simp only [trn]
    rw [up_trn hfg n k (by omega) l, up_comm hfg (by omega)]
theorem up_inv {α : Type} {f g : α → α → α} (hfg : ∀ a b c d : α, g (f a b) (f c d) = f (g a c) (g b d)) (hinv : ∀ a b, f a (g a b) = b) : ∀ (n : Nat) (l : Nat → α), trn (up f) n (trn (up g) n l) = l
  | 0, l => rfl
  | n + 1, l => by
    simp only [trn]
    rw [up_trn hfg n n (Nat.le_refl _)]
    have h1 : ∀ m : Nat → α, stg (up f) n (stg (up g) n m) = m := by
      intro m
      funext x
      cases h : x.testBit n
      · rw [stg_f h]; simp only [up]; rw [stg_f h]; rfl
      · rw [stg_t h]
        simp only [up]
        rw [stg_t h, stg_f (by rw [tb_same, h]; rfl)]
        exact hinv _ _
    rw [h1]
    exact up_inv hfg hinv n l
theorem xor_step : ∀ a b c d : Bool, ((a != b) != (c != d)) = ((a != c) != (b != d)) := by decide
theorem rem_twice (n : Nat) (f : Nat → Bool) : trn (up fun a b => a != b) n (trn (up fun a b => a != b) n f) = f := up_inv xor_step (by decide) n f
theorem reals_back (n : Nat) (f : Nat → Int) : trn (up fun a b => b + a) n (trn (up fun a b => b - a) n f) = f := up_inv (fun a b c d => by omega) (fun a b => by omega) n f

/-- Sums over the inputs of n bits. -/
def sm : Nat → (Nat → Int) → Int
  | 0, g => g 0
  | n + 1, g => sm n g + sm n fun x => g (x + 2 ^ n)
theorem sm_congr : ∀ (n : Nat) {g h : Nat → Int}, (∀ x, x < 2 ^ n → g x = h x) → sm n g = sm n h
  | 0, g, h, e => e 0 (by decide)
  | n + 1, g, h, e => by
    simp only [sm]
    rw [sm_congr n fun x hx => e x (by rw [Nat.pow_succ]; omega), sm_congr n (g := fun x => g (x + 2 ^ n)) (h := fun x => h (x + 2 ^ n)) fun x hx => e _ (by rw [Nat.pow_succ]; omega)]
theorem sm_add : ∀ (n : Nat) (g h : Nat → Int), sm n (fun x => g x + h x) = sm n g + sm n h
  | 0, _, _ => rfl
  | n + 1, g, h => by
    simp only [sm]
    rw [sm_add n g h, sm_add n (fun x => g (x + 2 ^ n)) (fun x => h (x + 2 ^ n))]
    omega
theorem sm_mul : ∀ (n : Nat) (c : Int) (g : Nat → Int), sm n (fun x => c * g x) = c * sm n g
  | 0, _, _ => rfl
  | n + 1, c, g => by
    simp only [sm]
    rw [sm_mul n c g, sm_mul n c (fun x => g (x + 2 ^ n)), Int.mul_add]
theorem sm_one : ∀ n, sm n (fun _ => 1) = 2 ^ n
  | 0 => rfl
  | n + 1 => by simp only [sm]; rw [sm_one n, Int.pow_succ]; omega
theorem add_pow {n x : Nat} (h : x < 2 ^ n) : x + 2 ^ n = x ^^^ 2 ^ n := by
  apply Nat.eq_of_testBit_eq
  intro j
  rw [Nat.testBit_xor, Nat.testBit_two_pow, Nat.add_comm]
  rcases Nat.lt_trichotomy j n with hj | hj | hj
  · rw [Nat.testBit_two_pow_add_gt hj]
    simp [show ¬ n = j by omega]
  · subst hj
    rw [Nat.testBit_two_pow_add_eq, Nat.testBit_lt_two_pow h]
    simp
  · rw [Nat.testBit_lt_two_pow (x := 2 ^ n + x) (by
      have : 2 ^ (n + 1) ≤ 2 ^ j := Nat.pow_le_pow_right (by decide) hj
      rw [Nat.pow_succ] at this
      omega), Nat.testBit_lt_two_pow (x := x) (Nat.lt_of_lt_of_le h (Nat.pow_le_pow_right (by decide) (Nat.le_of_lt hj)))]
    simp [show ¬ n = j by omega]
theorem flip_lt {n i x : Nat} (hi : i < n) (hx : x < 2 ^ n) : x ^^^ 2 ^ i < 2 ^ n := Nat.xor_lt_two_pow hx (Nat.pow_lt_pow_right (by decide) hi)
theorem sm_flip : ∀ (n i : Nat), i < n → ∀ g : Nat → Int, sm n (fun x => g (x ^^^ 2 ^ i)) = sm n g
  | 0, i, h, _ => by omega
  | n + 1, i, h, g => by
    simp only [sm]
    by_cases hin : i = n
    · subst hin
      rw [sm_congr i (g := fun x => g (x ^^^ 2 ^ i)) (h := fun x => g (x + 2 ^ i)) fun x hx => by rw [add_pow hx],
        sm_congr i (g := fun x => g ((x + 2 ^ i) ^^^ 2 ^ i)) (h := g) fun x hx => by rw [add_pow hx, xx]]
      omega
    · rw [sm_flip n i (by omega) g, sm_congr n (g := fun x => g ((x + 2 ^ n) ^^^ 2 ^ i)) (h := fun x => (fun y => g (y + 2 ^ n)) (x ^^^ 2 ^ i)) fun x hx => by
        show g _ = g _
        rw [add_pow hx, xc, ← add_pow (flip_lt (by omega) hx)], sm_flip n i (by omega) (fun y => g (y + 2 ^ n))]
/-- What pairs of inputs come to. -/
theorem sm_pair {n i : Nat} (hi : i < n) {g h : Nat → Int} (c : Int) (e : ∀ x, g x + g (x ^^^ 2 ^ i) = c * (h x + h (x ^^^ 2 ^ i))) : sm n g = c * sm n h := by
  have h1 : sm n (fun x => g x + g (x ^^^ 2 ^ i)) = sm n g + sm n g := by rw [sm_add, sm_flip n i hi g]
  have h2 : sm n (fun x => c * (h x + h (x ^^^ 2 ^ i))) = c * (sm n h + sm n h) := by rw [sm_mul, sm_add, sm_flip n i hi h]
  rw [show (fun x => g x + g (x ^^^ 2 ^ i)) = fun x => c * (h x + h (x ^^^ 2 ^ i)) from funext e, h2, Int.mul_add] at h1
  omega
def wsh (a b : Int) : Int × Int := (a + b, a - b)
theorem sq2 (a b : Int) : (a + b) * (a + b) + (a - b) * (a - b) = 2 * (a * a + b * b) := by
  rw [Int.add_mul, Int.sub_mul, Int.mul_add, Int.mul_add, Int.mul_sub, Int.mul_sub, Int.mul_comm b a]
  omega
theorem wsh_pair (i : Nat) (l : Nat → Int) (x : Nat) : stg wsh i l x * stg wsh i l x + stg wsh i l (x ^^^ 2 ^ i) * stg wsh i l (x ^^^ 2 ^ i) = 2 * (l x * l x + l (x ^^^ 2 ^ i) * l (x ^^^ 2 ^ i)) := by
  cases h : x.testBit i
  · rw [stg_f h, stg_t (x := x ^^^ 2 ^ i) (by rw [tb_same, h]; rfl), xx]
    exact sq2 _ _
  · rw [stg_t h, stg_f (x := x ^^^ 2 ^ i) (by rw [tb_same, h]; rfl), xx]
    have := sq2 (l (x ^^^ 2 ^ i)) (l x)
    simp only [wsh]
    omega
theorem energy {n i : Nat} (hi : i < n) (l : Nat → Int) : sm n (fun x => stg wsh i l x * stg wsh i l x) = 2 * sm n (fun x => l x * l x) := sm_pair hi 2 (wsh_pair i l)
theorem energy_trn (n : Nat) (l : Nat → Int) : ∀ k, k ≤ n → sm n (fun x => trn wsh k l x * trn wsh k l x) = 2 ^ k * sm n (fun x => l x * l x)
  | 0, _ => by simp [trn]
  | k + 1, hk => by
    simp only [trn]
    rw [energy (by omega), energy_trn n l k (by omega), Int.pow_succ, ← Int.mul_assoc, Int.mul_comm 2]
/-- The squares at the inputs that have a bit. -/
def rB (n i : Nat) (l : Nat → Int) : Int := sm n fun x => match x.testBit i with | true => l x * l x | false => 0
/-- The squares of the differences over a bit. -/
def qB (n i : Nat) (l : Nat → Int) : Int := sm n fun x => (l x - l (x ^^^ 2 ^ i)) * (l x - l (x ^^^ 2 ^ i))
theorem rB_step {n i j : Nat} (hij : i ≠ j) (hj : j < n) (l : Nat → Int) : rB n i (stg wsh j l) = 2 * rB n i l := by
  refine sm_pair hj 2 fun x => ?_
  rw [tb_other (Ne.symm hij)]
  cases x.testBit i
  · rfl
  · exact wsh_pair j l x
theorem qB_step {n i j : Nat} (hij : i ≠ j) (hj : j < n) (l : Nat → Int) : qB n i (stg wsh j l) = 2 * qB n i l := by
  have key : (fun x => stg wsh j l x - stg wsh j l (x ^^^ 2 ^ i)) = stg wsh j (fun x => l x - l (x ^^^ 2 ^ i)) := by
    funext x
    cases h : x.testBit j
    · rw [stg_f h, stg_f (x := x ^^^ 2 ^ i) ((tb_other hij x).trans h), stg_f h, xc x i j]
      simp only [wsh]
      omega
    · rw [stg_t h, stg_t (x := x ^^^ 2 ^ i) ((tb_other hij x).trans h), stg_t h, xc x i j]
      simp only [wsh]
      omega
  unfold qB
  have k1 : (fun x => (stg wsh j l x - stg wsh j l (x ^^^ 2 ^ i)) * (stg wsh j l x - stg wsh j l (x ^^^ 2 ^ i))) = fun x => stg wsh j (fun x => l x - l (x ^^^ 2 ^ i)) x * stg wsh j (fun x => l x - l (x ^^^ 2 ^ i)) x := by
    funext x
    have e : stg wsh j l x - stg wsh j l (x ^^^ 2 ^ i) = stg wsh j (fun x => l x - l (x ^^^ 2 ^ i)) x := congrFun key x
    rw [e]
  rw [k1]
  exact energy hj fun x => l x - l (x ^^^ 2 ^ i)
theorem rq {n i : Nat} (hi : i < n) (l : Nat → Int) : 2 * rB n i (stg wsh i l) = qB n i l := by
  unfold rB qB
  have h1 : sm n (fun x => (match x.testBit i with | true => stg wsh i l x * stg wsh i l x | false => 0)) + sm n (fun x => (match x.testBit i with | true => stg wsh i l x * stg wsh i l x | false => 0)) = sm n (fun x => (l x - l (x ^^^ 2 ^ i)) * (l x - l (x ^^^ 2 ^ i))) := by
    conv => lhs; rhs; rw [← sm_flip n i hi]
    rw [← sm_add]
    congr 1
    funext x
    simp only [tb_same]
    cases h : x.testBit i
    · simp only [Bool.not_false]
      rw [stg_t (x := x ^^^ 2 ^ i) (by rw [tb_same, h]; rfl), xx]
      simp only [wsh]
      omega
    · simp only [Bool.not_true]
      rw [stg_t h]
      simp only [wsh]
      have : (l (x ^^^ 2 ^ i) - l x) = -(l x - l (x ^^^ 2 ^ i)) := by omega
      rw [this, Int.neg_mul_neg]
      omega
  omega
theorem qB_trn {n i : Nat} (hi : i < n) (l : Nat → Int) : ∀ k, k ≤ i → qB n i (trn wsh k l) = 2 ^ k * qB n i l
  | 0, _ => by simp [trn]
  | k + 1, hk => by
    simp only [trn]
    rw [qB_step (by omega) (by omega), qB_trn hi l k (by omega), Int.pow_succ, ← Int.mul_assoc, Int.mul_comm 2]
theorem rB_trn {n i : Nat} (hi : i < n) (l : Nat → Int) : ∀ k, i + 1 + k ≤ n → 2 * rB n i (trn wsh (i + 1 + k) l) = 2 ^ (i + k) * qB n i l
  | 0, _ => by
    show 2 * rB n i (stg wsh i (trn wsh i l)) = _
    rw [rq hi, qB_trn hi l i (Nat.le_refl _)]
    rfl
  | k + 1, hk => by
    show 2 * rB n i (stg wsh (i + 1 + k) (trn wsh (i + 1 + k) l)) = _
    rw [rB_step (by omega) (by omega), ← Int.mul_assoc, Int.mul_comm 2 2, Int.mul_assoc, rB_trn hi l k (by omega), ← Int.mul_assoc, show i + (k + 1) = i + k + 1 from rfl, Int.pow_succ, Int.mul_comm 2]
/-- A function's values as signs. -/
def sgn (f : Nat → Bool) (x : Nat) : Int := if f x = true then -1 else 1
def cnt (n i : Nat) (f : Nat → Bool) : Int := sm n fun x => if f (x ^^^ 2 ^ i) ≠ f x then 1 else 0
theorem parseval (n : Nat) (f : Nat → Bool) : sm n (fun x => trn wsh n (sgn f) x * trn wsh n (sgn f) x) = 2 ^ n * 2 ^ n := by
  rw [energy_trn n _ n (Nat.le_refl _), ← sm_one n]
  congr 1
  refine congrArg (sm n) (funext fun x => ?_)
  unfold sgn
  split <;> rfl
theorem influence {n i : Nat} (hi : i < n) (f : Nat → Bool) : cnt n i f * 2 ^ n = rB n i (trn wsh n (sgn f)) := by
  have h1 := rB_trn hi (sgn f) (n - (i + 1)) (by omega)
  have h2 : qB n i (sgn f) = 4 * cnt n i f := by
    unfold qB cnt
    rw [← sm_mul]
    refine congrArg (sm n) (funext fun x => ?_)
    unfold sgn
    cases f x <;> cases f (x ^^^ 2 ^ i) <;> rfl
  rw [h2, show i + 1 + (n - (i + 1)) = n by omega, show i + (n - (i + 1)) = n - 1 by omega] at h1
  obtain ⟨m, rfl⟩ : ∃ m, n = m + 1 := ⟨n - 1, by omega⟩
  rw [Nat.add_sub_cancel] at h1
  rw [Int.pow_succ]
  generalize cnt (m + 1) i f = c at *
  generalize (2 : Int) ^ m = p at *
  have e1 : p * (4 * c) = 4 * (p * c) := Int.mul_left_comm p 4 c
  have e2 : c * (p * 2) = 2 * (p * c) := by rw [← Int.mul_assoc, Int.mul_comm c p, Int.mul_comm]
  omega
/-- How large the numbers become. -/
theorem trn_le {s : Int → Int → Int × Int} (hs : ∀ a b B : Int, -B ≤ a → a ≤ B → -B ≤ b → b ≤ B → (-(2 * B) ≤ (s a b).1 ∧ (s a b).1 ≤ 2 * B) ∧ (-(2 * B) ≤ (s a b).2 ∧ (s a b).2 ≤ 2 * B)) {l : Nat → Int} {B : Int} (hl : ∀ x, -B ≤ l x ∧ l x ≤ B) : ∀ k x, -(2 ^ k * B) ≤ trn s k l x ∧ trn s k l x ≤ 2 ^ k * B
  | 0, x => by simpa [trn] using hl x
  | k + 1, x => by
    have ih := trn_le hs hl k
    have e : (2 : Int) ^ (k + 1) * B = 2 * (2 ^ k * B) := by rw [Int.pow_succ, Int.mul_comm ((2 : Int) ^ k), Int.mul_assoc]
    rw [e]
    simp only [trn]
    cases h : x.testBit k
    · rw [stg_f h]
      exact (hs _ _ _ (ih x).1 (ih x).2 (ih _).1 (ih _).2).1
    · rw [stg_t h]
      exact (hs _ _ _ (ih _).1 (ih _).2 (ih x).1 (ih x).2).2
end Go.Proofs.YtnfboopfpkaeaaaDoor.Nim
/- The two forms of a function and its spectrum as sums over masks. -/
namespace Go.Proofs.YtnfboopfpkaeaaaDoor.Nim
section
variable {α : Type} (op : α → α → α) (e : α)
/-- What an operation makes of the items below a number that a condition picks. -/
def fs (p : Nat → Bool) (g : Nat → α) : Nat → α
  | 0 => e
  | k + 1 => match p k with | true => op (fs p g k) (g k) | false => fs p g k
theorem low_q {n : Nat} (q r : Nat) (hr : r < 2 ^ n) : ((2 * q) * 2 ^ n + r).testBit n = false := by
  rw [Nat.testBit_eq_decide_div_mod_eq, Nat.mul_comm, Nat.mul_add_div (Nat.two_pow_pos n), Nat.div_eq_of_lt hr]
  simp
theorem high_q {n : Nat} (q r : Nat) (hr : r < 2 ^ n) : (2 * q) * 2 ^ n + r + 2 ^ n = ((2 * q) * 2 ^ n + r) ^^^ 2 ^ n := by
  have e1 : (2 * q + 1) * 2 ^ n = (2 * q) * 2 ^ n + 2 ^ n := by rw [Nat.add_mul, Nat.one_mul]
  apply Nat.eq_of_testBit_eq
  intro i
  rw [Nat.testBit_xor, Nat.testBit_two_pow, show (2 * q) * 2 ^ n + r + 2 ^ n = 2 ^ n * (2 * q + 1) + r by rw [Nat.mul_comm (2 ^ n), e1]; omega, Nat.mul_comm (2 * q), Nat.testBit_two_pow_mul_add _ hr, Nat.testBit_two_pow_mul_add _ hr]
  by_cases hi : i < n
  · have : n ≠ i := by omega
    simp [hi, this]
  · by_cases hn : n = i
    · subst hn; simp
    · have h1 : ¬ i < n := hi
      simp only [h1, if_false, hn, decide_false, Bool.xor_false]
      obtain ⟨d, hd⟩ : ∃ d, i - n = d + 1 := ⟨i - n - 1, by omega⟩
      rw [hd, Nat.testBit_succ, Nat.testBit_succ]
      congr 1
      omega
/-- Whether a mask lies within a mask. -/
def sub (k m : Nat) : Bool := k &&& m == k
theorem sub_self (m : Nat) : sub m m = true := by simp [sub]
theorem sub_le {k m : Nat} (h : m < k) : sub k m = false := by
  cases e : sub k m with
  | false => rfl
  | true =>
    have : k &&& m = k := by simpa [sub] using e
    have := Nat.and_le_right (n := k) (m := m)
    omega
theorem bit_lt {n x : Nat} (h : x < 2 ^ n) : x.testBit n = false := Nat.testBit_lt_two_pow h
theorem and_lh {n a b : Nat} (ha : a < 2 ^ n) (hb : b < 2 ^ n) : a &&& (b + 2 ^ n) = a &&& b := by
  rw [add_pow hb]
  apply Nat.eq_of_testBit_eq
  intro i
  rw [Nat.testBit_and, Nat.testBit_and, Nat.testBit_xor, Nat.testBit_two_pow]
  by_cases hi : n = i
  · subst hi; rw [bit_lt ha]; rfl
  · simp [hi]
theorem and_hl {n a b : Nat} (ha : a < 2 ^ n) (hb : b < 2 ^ n) : (a + 2 ^ n) &&& b = a &&& b := by rw [Nat.and_comm, and_lh hb ha, Nat.and_comm]
theorem and_hh {n a b : Nat} (ha : a < 2 ^ n) (hb : b < 2 ^ n) : (a + 2 ^ n) &&& (b + 2 ^ n) = (a &&& b) + 2 ^ n := by
  have hab : a &&& b < 2 ^ n := Nat.lt_of_le_of_lt Nat.and_le_left ha
  rw [add_pow hb, add_pow ha, add_pow hab]
  apply Nat.eq_of_testBit_eq
  intro i
  simp only [Nat.testBit_and, Nat.testBit_xor, Nat.testBit_two_pow]
  by_cases hi : n = i
  · subst hi; rw [bit_lt ha, bit_lt hb]; simp
  · simp [hi]
theorem sub_lh {n a b : Nat} (ha : a < 2 ^ n) (hb : b < 2 ^ n) : sub a (b + 2 ^ n) = sub a b := by unfold sub; rw [and_lh ha hb]
theorem sub_hl {n a b : Nat} (hb : b < 2 ^ n) : sub (a + 2 ^ n) b = false := sub_le (by omega)
theorem sub_hh {n a b : Nat} (ha : a < 2 ^ n) (hb : b < 2 ^ n) : sub (a + 2 ^ n) (b + 2 ^ n) = sub a b := by
  unfold sub
  rw [and_hh ha hb, Bool.eq_iff_iff]
  simp
theorem fs_congr {p p' : Nat → Bool} {g g' : Nat → α} : ∀ {k : Nat}, (∀ x, x < k → p x = p' x) → (∀ x, x < k → g x = g' x) → fs op e p g k = fs op e p' g' k
  | 0, _, _ => rfl
  | k + 1, h, h2 => by
    unfold fs
    rw [h k (by omega), h2 k (by omega), fs_congr (fun x hx => h x (by omega)) fun x hx => h2 x (by omega)]
theorem fs_no {p : Nat → Bool} {g : Nat → α} {m : Nat} (h : ∀ x, m ≤ x → p x = false) : ∀ k, m ≤ k → fs op e p g k = fs op e p g m := by
  intro k hk
  obtain ⟨d, rfl⟩ : ∃ d, k = m + d := ⟨k - m, by omega⟩
  clear hk
  induction d with
  | zero => rfl
  | succ d ih =>
    rw [← Nat.add_assoc]
    show (match p (m + d) with | true => op (fs op e p g (m + d)) (g (m + d)) | false => fs op e p g (m + d)) = _
    rw [h (m + d) (by omega)]
    exact ih
/-- The item at the mask itself is the last that counts. -/
theorem fs_cut {g : Nat → α} {m N : Nat} (h : m < N) : fs op e (fun k => sub k m) g N = op (fs op e (fun k => sub k m) g m) (g m) := by
  rw [fs_no op e (m := m + 1) (fun x hx => sub_le (by omega)) N (by omega)]
  show (match sub m m with | true => _ | false => _) = _
  rw [sub_self]
variable (ha : ∀ a b c : α, op (op a b) c = op a (op b c)) (hid : ∀ a, op a e = a)
include ha hid
theorem fs_add (p : Nat → Bool) (g : Nat → α) (a : Nat) : ∀ k, fs op e p g (a + k) = op (fs op e p g a) (fs op e (fun x => p (x + a)) (fun x => g (x + a)) k)
  | 0 => (hid _).symm
  | k + 1 => by
    rw [← Nat.add_assoc]
    show (match p (a + k) with | true => op (fs op e p g (a + k)) (g (a + k)) | false => fs op e p g (a + k)) = op _ (match p (k + a) with | true => op (fs op e _ _ k) (g (k + a)) | false => fs op e _ _ k)
    rw [fs_add p g a k, Nat.add_comm k a]
    cases p (a + k)
    · rfl
    · exact ha _ _ _
variable (hc : ∀ a b, op a b = op b a)
include hc
theorem zeta (g : Nat → α) : ∀ n q r, r < 2 ^ n → trn (up fun a b => op b a) n g (q * 2 ^ n + r) = fs op e (fun j => sub j r) (fun j => g (q * 2 ^ n + j)) (2 ^ n)
  | 0, q, r, h => by
    obtain rfl : r = 0 := by simpa using h
    show g (q * 1 + 0) = op e (g (q * 1 + 0))
    rw [hc, hid]
  | n + 1, q, r, h => by
    have hP : 2 ^ (n + 1) = 2 ^ n + 2 ^ n := by rw [Nat.pow_succ]; omega
    have e0 : q * 2 ^ (n + 1) = (2 * q) * 2 ^ n := by rw [Nat.pow_succ]; ac_rfl
    have e1 : (2 * q + 1) * 2 ^ n = (2 * q) * 2 ^ n + 2 ^ n := by rw [Nat.add_mul, Nat.one_mul]
    have bt := low_q (n := n) q
    have bx := high_q (n := n) q
    have ih := zeta g n
    show stg (up fun a b => op b a) n (trn (up fun a b => op b a) n g) (q * 2 ^ (n + 1) + r) = _
    by_cases hr : r < 2 ^ n
    · rw [e0, stg_f (bt r hr)]
      show trn (up fun a b => op b a) n g ((2 * q) * 2 ^ n + r) = _
      rw [ih (2 * q) r hr, hP, fs_no op e (m := 2 ^ n) (fun x hx => sub_le (by omega)) (2 ^ n + 2 ^ n) (by omega)]
    · obtain ⟨s, rfl⟩ : ∃ s, r = s + 2 ^ n := ⟨r - 2 ^ n, by omega⟩
      have hs : s < 2 ^ n := by omega
      have hb := bt s hs
      have hx := bx s hs
      rw [e0, show (2 * q) * 2 ^ n + (s + 2 ^ n) = ((2 * q) * 2 ^ n + s) ^^^ 2 ^ n by rw [← hx]; omega, stg_t (by rw [tb_same, hb]; rfl), xx]
      show op (trn (up fun a b => op b a) n g (((2 * q) * 2 ^ n + s) ^^^ 2 ^ n)) (trn (up fun a b => op b a) n g ((2 * q) * 2 ^ n + s)) = _
      rw [← hx, show (2 * q) * 2 ^ n + s + 2 ^ n = (2 * q + 1) * 2 ^ n + s by rw [e1]; omega, ih (2 * q) s hs, ih (2 * q + 1) s hs, hP, fs_add op e ha hid, hc]
      congr 1
      · exact fs_congr op e (fun x hx => (sub_lh hx hs).symm) fun x _ => rfl
      · exact fs_congr op e (fun x hx => (sub_hh hx hs).symm) fun x _ => by rw [e1]; congr 1; omega
end
/-- Sums of ints. -/
abbrev fI (p : Nat → Bool) (g : Nat → Int) (k : Nat) : Int := fs (fun a b => a + b) 0 p g k
abbrev fX (p : Nat → Bool) (g : Nat → Bool) (k : Nat) : Bool := fs (fun a b => b != a) false p g k
theorem fI_succ (p : Nat → Bool) (g : Nat → Int) (k : Nat) : fI p g (k + 1) = fI p g k + (if p k = true then g k else 0) := by
  show (match p k with | true => fI p g k + g k | false => fI p g k) = _
  cases p k <;> simp
theorem fX_succ (p : Nat → Bool) (g : Nat → Bool) (k : Nat) : fX p g (k + 1) = (fX p g k != (p k && g k)) := by
  show (match p k with | true => (g k != fX p g k) | false => fX p g k) = _
  cases p k <;> cases g k <;> cases fX p g k <;> rfl
theorem zetaI (g : Nat → Int) {n m : Nat} (h : m < 2 ^ n) : trn (up fun a b : Int => b + a) n g m = fI (fun j => sub j m) g (2 ^ n) := by
  have e := zeta (fun a b : Int => a + b) 0 Int.add_assoc Int.add_zero Int.add_comm g n 0 m h
  rw [Nat.zero_mul, Nat.zero_add] at e
  rw [e]
  exact fs_congr _ _ (fun _ _ => rfl) fun x _ => by rw [Nat.zero_add]
theorem zetaX (g : Nat → Bool) {n m : Nat} (h : m < 2 ^ n) : trn (up fun a b : Bool => a != b) n g m = fX (fun j => sub j m) g (2 ^ n) := by
  have e := zeta (fun a b : Bool => b != a) false (by decide) (by decide) (by decide) g n 0 m h
  rw [Nat.zero_mul, Nat.zero_add] at e
  rw [e]
  exact fs_congr _ _ (fun _ _ => rfl) fun x _ => by rw [Nat.zero_add]
/-- The value at a mask, by the real form. -/
theorem value_I (g : Nat → Int) {n m : Nat} (h : m < 2 ^ n) : trn (up fun a b : Int => b + a) n g m = fI (fun j => sub j m) g (m + 1) := by
  rw [zetaI g h, fI, fI, fs_cut _ _ h]
  exact (fs_cut (fun a b : Int => a + b) 0 (g := g) (Nat.lt_succ_self m)).symm
/-- The real form, by the numbers at the masks within. -/
theorem real_I (v : Nat → Int) {n m : Nat} (h : m < 2 ^ n) : trn (up fun a b : Int => b - a) n v m = v m - fI (fun j => sub j m) (trn (up fun a b : Int => b - a) n v) m := by
  have e := zetaI (trn (up fun a b : Int => b - a) n v) h
  rw [reals_back, fI, fs_cut _ _ h] at e
  rw [e]
  show _ = fI (fun j => sub j m) (trn (up fun a b : Int => b - a) n v) m + trn (up fun a b : Int => b - a) n v m - fI _ _ m
  omega
theorem rem_X (v : Nat → Bool) {n m : Nat} (h : m < 2 ^ n) : trn (up fun a b => a != b) n v m = (v m != fX (fun j => sub j m) (trn (up fun a b => a != b) n v) m) := by
  have e := zetaX (trn (up fun a b => a != b) n v) h
  rw [rem_twice, fX, fs_cut _ _ h] at e
  rw [e]
  show _ = ((trn (up fun a b => a != b) n v m != fX (fun j => sub j m) (trn (up fun a b => a != b) n v) m) != fX (fun j => sub j m) (trn (up fun a b => a != b) n v) m)
  cases trn (up fun a b => a != b) n v m <;> cases fX (fun j => sub j m) (trn (up fun a b => a != b) n v) m <;> rfl
/-- The other way: a list of numbers is the real form of its sums. -/
theorem reals_forth (n : Nat) (f : Nat → Int) : trn (up fun a b => b - a) n (trn (up fun a b => b + a) n f) = f := up_inv (fun a b c d => by omega) (fun a b => by omega) n f
theorem fI_bound {g : Nat → Int} {B : Nat} {p : Nat → Bool} : ∀ k, (∀ x, x < k → -(B : Int) ≤ g x ∧ g x ≤ B) → -((k * B : Nat) : Int) ≤ fI p g k ∧ fI p g k ≤ ((k * B : Nat) : Int)
  | 0, _ => by simp [fI, fs]
  | k + 1, h => by
    rw [fI_succ]
    have := fI_bound (p := p) k (fun x hx => h x (by omega))
    have := h k (by omega)
    rw [Nat.add_mul, Nat.one_mul]
    split <;> omega

/-- The number of bits of a mask of seven bits. -/
def pop (z : Nat) : Nat := z % 2 + z / 2 % 2 + z / 4 % 2 + z / 8 % 2 + z / 16 % 2 + z / 32 % 2 + z / 64 % 2
def ch (z : Nat) : Int := if pop z % 2 = 1 then -1 else 1
theorem ch_all : ((List.range 6).all fun n => (List.range (2 ^ n)).all fun z => ch (z + 2 ^ n) == -ch z) = true := by decide +kernel
theorem ch_hi {n z : Nat} (hn : n < 6) (hz : z < 2 ^ n) : ch (z + 2 ^ n) = -ch z := by
  have h := List.all_eq_true.1 ch_all n (List.mem_range.2 hn)
  simpa using List.all_eq_true.1 h z (List.mem_range.2 hz)
theorem fI_sub (g g' : Nat → Int) : ∀ k, fI (fun _ => true) (fun x => g x - g' x) k = fI (fun _ => true) g k - fI (fun _ => true) g' k
  | 0 => rfl
  | k + 1 => by
    have := fI_sub g g' k
    rw [fI_succ, fI_succ, fI_succ, this]
    simp
    omega
theorem fI_neg (g : Nat → Int) : ∀ k, fI (fun _ => true) (fun x => - g x) k = - fI (fun _ => true) g k
  | 0 => rfl
  | k + 1 => by
    have := fI_neg g k
    rw [fI_succ, fI_succ, this]
    simp
    omega
theorem walsh (l : Nat → Int) : ∀ n q r, n ≤ 6 → r < 2 ^ n → trn wsh n l (q * 2 ^ n + r) = fI (fun _ => true) (fun j => ch (r &&& j) * l (q * 2 ^ n + j)) (2 ^ n)
  | 0, q, r, _, h => by
    obtain rfl : r = 0 := by simpa using h
    show l (q * 1 + 0) = 0 + 1 * l (q * 1 + 0)
    omega
  | n + 1, q, r, hn, h => by
    have hP : 2 ^ (n + 1) = 2 ^ n + 2 ^ n := by rw [Nat.pow_succ]; omega
    have e0 : q * 2 ^ (n + 1) = (2 * q) * 2 ^ n := by rw [Nat.pow_succ]; ac_rfl
    have e1 : (2 * q + 1) * 2 ^ n = (2 * q) * 2 ^ n + 2 ^ n := by rw [Nat.add_mul, Nat.one_mul]
    have bt := low_q (n := n) q
    have bx := high_q (n := n) q
    have ih := fun q r => walsh l n q r (by omega)
    have add := fun g k => fs_add (fun a b : Int => a + b) 0 Int.add_assoc Int.add_zero (fun _ => true) g (2 ^ n) k
    show stg wsh n (trn wsh n l) (q * 2 ^ (n + 1) + r) = _
    by_cases hr : r < 2 ^ n
    · rw [e0, stg_f (bt r hr), ← bx r hr, show (2 * q) * 2 ^ n + r + 2 ^ n = (2 * q + 1) * 2 ^ n + r by rw [e1]; omega]
      show trn wsh n l ((2 * q) * 2 ^ n + r) + trn wsh n l ((2 * q + 1) * 2 ^ n + r) = _
      rw [ih (2 * q) r hr, ih (2 * q + 1) r hr, hP, fI, fI, fI, add]
      congr 1
      exact fs_congr _ _ (fun _ _ => rfl) fun x hx => by rw [and_lh hr hx, e1]; congr 2; omega
    · obtain ⟨s, rfl⟩ : ∃ s, r = s + 2 ^ n := ⟨r - 2 ^ n, by omega⟩
      have hs : s < 2 ^ n := by omega
      have hb := bt s hs
      have hx := bx s hs
      rw [e0, show (2 * q) * 2 ^ n + (s + 2 ^ n) = ((2 * q) * 2 ^ n + s) ^^^ 2 ^ n by rw [← hx]; omega, stg_t (by rw [tb_same, hb]; rfl), xx]
      show trn wsh n l ((2 * q) * 2 ^ n + s) - trn wsh n l (((2 * q) * 2 ^ n + s) ^^^ 2 ^ n) = _
      rw [← hx, show (2 * q) * 2 ^ n + s + 2 ^ n = (2 * q + 1) * 2 ^ n + s by rw [e1]; omega, ih (2 * q) s hs, ih (2 * q + 1) s hs, hP, fI, fI, fI, add]
      rw [Int.sub_eq_add_neg, ← fI, ← fI_neg]
      congr 1
      · exact fs_congr _ _ (fun _ _ => rfl) fun x hx => by rw [and_hl hs hx]
      · refine fs_congr _ _ (fun _ _ => rfl) fun x hx => ?_
        have hlt : s &&& x < 2 ^ n := Nat.lt_of_le_of_lt Nat.and_le_left hs
        rw [and_hh hs hx, ch_hi (by omega) hlt, e1, Int.neg_mul]
        congr 3
        omega
theorem walsh0 (l : Nat → Int) {n m : Nat} (hn : n ≤ 6) (h : m < 2 ^ n) : trn wsh n l m = fI (fun _ => true) (fun j => ch (m &&& j) * l j) (2 ^ n) := by
  have e := walsh l n 0 m hn h
  rw [Nat.zero_mul, Nat.zero_add] at e
  rw [e]
  exact fs_congr _ _ (fun _ _ => rfl) fun x _ => by rw [Nat.zero_add]
end Go.Proofs.YtnfboopfpkaeaaaDoor.Nim
namespace Go.Proofs.YtnfboopfpkaeaaaDoor
open Go Go.Eng Nim
set_option maxRecDepth 100000
set_option maxHeartbeats 4000000
/-- A number that is not less than 0. -/
abbrev J (a : Nat) : Value := .int .i64 (Int.ofNat a)
/-- A number of Go's int. -/
abbrev I (z : Int) : Value := .int .i64 z
noncomputable abbrev Ev (lf n f : Nat) (l : List Value) (h : Hp) := evInv Tryd.prog orc lf n (.fn f l) h
theorem ok_nat {a b : Nat} (h : decide (Int.ofNat a < Int.ofNat b) = true) : a < b := by have := of_decide_eq_true h; simpa using this
theorem no_nat {a b : Nat} (h : decide (Int.ofNat a < Int.ofNat b) = false) : b ≤ a := by have := of_decide_eq_false h; simp at this; omega
theorem ne_no {a b : Nat} (h : a = b) : (Int.ofNat a != Int.ofNat b) = false := by subst h; exact bne_self_eq_false _
/-- The number of bits of a table. -/
theorem size_of (n : Nat) (hn : n ≤ 6) (m : Nat) (h : Hp) : Ev 100000 (m + 10) 38 [J (2 ^ n)] h = some (.tuple #[J n, .bool true], h) := by
  rcases (by omega : n = 0 ∨ n = 1 ∨ n = 2 ∨ n = 3 ∨ n = 4 ∨ n = 5 ∨ n = 6) with rfl | rfl | rfl | rfl | rfl | rfl | rfl <;> kernel_rfl
/-- Bools in block b. -/
structure ArB (b N : Nat) (v : Nat → Bool) (h : Hp) : Prop where
  lt : b < h.next
  get : ∃ opn, h.get b = some (.cells (cellsF N fun x => Value.bool (v x)) 4 opn)
theorem uB : Tryd.prog.underlying 24 = some (.slice 4) := by kernel_rfl
theorem zB : sizeT Tryd.prog 4 = some 1 := by kernel_rfl
theorem agB : isAggT Tryd.prog 4 = some false := by kernel_rfl
theorem idxB {b N c v : Nat} (hv : v < N) : indexAddrOp Tryd.prog 24 (.slice (some ⟨b, 0, none⟩) N c) (J v) = some (ptr b v) := by
  rw [idxSl uB zB hv, Nat.zero_add, Nat.mul_one]
theorem ArB.read {b N : Nat} {v : Nat → Bool} {h : Hp} (H : ArB b N v h) {x : Nat} (hx : x < N) : loadT Tryd.prog h 4 (ptr b x) = some (Value.bool (v x)) := by
  obtain ⟨o, e⟩ := H.get
  exact load1 agB e (cellsF_get hx)
theorem ArB.store {b N : Nat} {v : Nat → Bool} {h : Hp} (H : ArB b N v h) {x : Nat} (hx : x < N) (z : Bool) : ∃ g, storeT Tryd.prog h 4 (ptr b x) (Value.bool z) = some g ∧ ArB b N (fun y => if y = x then z else v y) g ∧ g.next = h.next ∧ ∀ j, j ≠ b → g.get j = h.get j := by
  obtain ⟨o, e⟩ := H.get
  refine ⟨_, store1 zB rfl e (by rw [cellsF_len]; exact hx), ⟨H.lt, o, ?_⟩, rfl, fun j hj => Hp.get_put_ne hj⟩
  rw [cellsF_set, get_put]
  refine congrArg (fun l => some (AObj.cells l 4 o)) (cellsF_congr fun y _ => ?_)
  show (if y = x then Value.bool z else Value.bool (v y)) = Value.bool (if y = x then z else v y)
  by_cases hy : y = x
  · rw [if_pos hy, if_pos hy]
  · rw [if_neg hy, if_neg hy]
theorem ArB.congr {b N : Nat} {v v' : Nat → Bool} {h : Hp} (H : ArB b N v h) (e : ∀ x, x < N → v x = v' x) : ArB b N v' h := by
  obtain ⟨o, e'⟩ := H.get
  exact ⟨H.lt, o, by rw [e']; exact congrArg (fun l => some (AObj.cells l 4 o)) (cellsF_congr fun x hx => by rw [e x hx])⟩
theorem ArB.rds {b N : Nat} {v : Nat → Bool} {h : Hp} (H : ArB b N v h) (c : Nat) : Rds h (.slice (some ⟨b, 0, none⟩) N c) (cellsF N fun x => Value.bool (v x)) := by
  obtain ⟨o, e⟩ := H.get
  exact rd_cells H.lt e
theorem uI : Tryd.prog.underlying 72 = some (.slice 3) := by kernel_rfl
theorem zI : sizeT Tryd.prog 3 = some 1 := by kernel_rfl
theorem agI : isAggT Tryd.prog 3 = some false := by kernel_rfl
theorem slB : SlT Tryd.prog 24 4 := ⟨by kernel_rfl, by kernel_rfl, ⟨_, rfl, by kernel_rfl⟩, ⟨_, rfl, by kernel_rfl⟩⟩
theorem cellsF_succ (f : Nat → Value) (k : Nat) : cellsF (k + 1) f = cellsF k f ++ [f k] := by
  unfold cellsF
  rw [List.range_succ, List.map_append]
  rfl
theorem check_of (n : Nat) (a : Option Addr) (c lf m : Nat) (h : Hp) (sz : ∀ h, Ev lf m 38 [J (2 ^ n)] h = some (.tuple #[J n, .bool true], h)) : Ev lf (m + 1) 20 [.slice a (2 ^ n) c] h = some (J 0, h) := by
  refine fn_eq ?_
  refine ok_go 1 ?_
  refine sy_call 0 (by kernel_rfl) (sz h) ?_
  refine ok_go 4 ?_
  exact sy_done 0 (v := J 0) (h := h) (by kernel_rfl) ⟨rfl, rfl⟩
/-- A block that is new may be turned. -/
theorem ext_of {h g g' : Hp} {b : Nat} (X : h.Ext g) (hb : h.next ≤ b) (hn : g'.next = g.next) (ho : ∀ j, j ≠ b → g'.get j = g.get j) : h.Ext g' :=
  ⟨by rw [hn]; exact X.next, fun j hj => (ho j (by omega)).trans (X.get j hj)⟩
theorem ArB.ext {b N : Nat} {v : Nat → Bool} {h g : Hp} (H : ArB b N v h) (k : h.Ext g) : ArB b N v g := ⟨Nat.lt_of_lt_of_le H.lt k.next, by obtain ⟨o, e⟩ := H.get; exact ⟨o, k.at_ H.lt e⟩⟩
theorem min_nat {i : Nat} (hi : i ≤ 6) : min (IntKind.wrap .u64 (Int.ofNat i)).toNat IntKind.i64.bits = i := by
  rcases (by omega : i = 0 ∨ i = 1 ∨ i = 2 ∨ i = 3 ∨ i = 4 ∨ i = 5 ∨ i = 6) with rfl | rfl | rfl | rfl | rfl | rfl | rfl <;> rfl
theorem shl_nat {i : Nat} (hi : i ≤ 6) : IntKind.wrap .i64 (1 * 2 ^ min (IntKind.wrap .u64 (Int.ofNat i)).toNat IntKind.i64.bits) = Int.ofNat (2 ^ i) := by
  have hp64 : 2 ^ i ≤ 64 := Nat.pow_le_pow_right (n := 2) (by decide) hi
  have hpc : ((2 : Int) ^ i) = ((2 ^ i : Nat) : Int) := by simp
  rw [min_nat hi, Int.one_mul, hpc]
  exact wrap_nat (by omega)
theorem bits_of (z : Int) : ∃ k, k ≤ 6 ∧ ∀ lf m h, Ev lf (m + 1) 6 [I z, J 6] h = some (J k, h) := by
  have h0 : 0 ≤ IntKind.wrap .u64 z := by
    show 0 ≤ z % 2 ^ 64
    exact Int.emod_nonneg _ (by decide)
  obtain ⟨u, hu⟩ := Int.eq_ofNat_of_zero_le h0
  have hu : IntKind.wrap .u64 z = Int.ofNat u := hu
  refine ⟨u % 7, by omega, fun lf m h => ?_⟩
  refine fn_eq ?_
  refine ok_go 5 ?_
  exact sy_done 0 (v := I (IntKind.wrap .i64 ((IntKind.wrap .u64 z).tmod 7))) (h := h) (by kernel_rfl) ⟨by rw [hu]; show I (IntKind.wrap .i64 (Int.ofNat (u % 7))) = _; rw [wrap_nat (by omega)], rfl⟩
/-- What make makes. -/
theorem makeSl {P : Program} {h : Hp} {t e : TypeId} {len : Nat} {z : Value} {inf : TypeInfo} {kd kd' : IntKind} (hu : P.underlying t = some (.slice e)) (hz : zeroOf P e = some z) (hi : P.info? e = some inf) (hb : Nat.ble inf.bytes 4096 = true)
    (hs : Nat.beq z.cells.size inf.size = true) (hsc : z.cells.toList.all scalar = true) (hn : len < 16777216) :
    makeSliceOp P h t (.int kd (Int.ofNat len)) (.int kd' (Int.ofNat len)) = some (.slice (some ⟨h.next, 0, none⟩) len (2 * len), h.new (.cells (zeros z.cells.toList len) e false)) := by
  have h1 : Nat.ble len len = true := Nat.ble_eq_true_of_le (Nat.le_refl _)
  have h2 : Nat.ble len most = true := Nat.ble_eq_true_of_le (by unfold most; omega)
  simp only [makeSliceOp, hu, natOf, hz, hi, h1, h2, hb, hs, hsc]
theorem table_of (x : Int) (n : Nat) (hn : n ≤ 6) (kind : Int) (lf m : Nat) (hlf : 300 ≤ lf) (h : Hp) :
    ∃ y h', Ev lf (m + 1) 5 [.int .u64 x, J n, I kind] h = some (y, h') ∧ ∃ b f, y = .slice (some ⟨b, 0, none⟩) (2 ^ n) (2 * 2 ^ n) ∧ h.next ≤ b ∧ h.Ext h' ∧ ArB b (2 ^ n) f h' := by
  have hp64 : 2 ^ n ≤ 64 := Nat.pow_le_pow_right (n := 2) (by decide) hn
  have hpc : ((2 : Int) ^ n) = ((2 ^ n : Nat) : Int) := by simp
  have hmin : min (IntKind.wrap .u64 (Int.ofNat n)).toNat IntKind.i64.bits = n := by
    rcases (by omega : n = 0 ∨ n = 1 ∨ n = 2 ∨ n = 3 ∨ n = 4 ∨ n = 5 ∨ n = 6) with rfl | rfl | rfl | rfl | rfl | rfl | rfl <;> rfl
  have hsh : IntKind.wrap .i64 (1 * 2 ^ n) = Int.ofNat (2 ^ n) := by
    rw [Int.one_mul, hpc]
    exact wrap_nat (by omega)
  obtain ⟨y, hy, ey⟩ : ∃ y, y < 4 ∧ (IntKind.wrap .u64 kind).tmod 4 = Int.ofNat y := by
    have h0 : 0 ≤ IntKind.wrap .u64 kind := by
      show 0 ≤ kind % 2 ^ 64
      exact Int.emod_nonneg _ (by decide)
    obtain ⟨u, hu⟩ := Int.eq_ofNat_of_zero_le h0
    have hu : IntKind.wrap .u64 kind = Int.ofNat u := hu
    exact ⟨u % 4, by omega, by rw [hu]; rfl⟩
  refine fnS_ok (Q := fun y h' => ∃ b f, y = .slice (some ⟨b, 0, none⟩) (2 ^ n) (2 * 2 ^ n) ∧ h.next ≤ b ∧ h.Ext h' ∧ ArB b (2 ^ n) f h') ?_
  generalize hN : 2 ^ n = N at *
  refine sy_call 1 (r := some (.int .i64 (IntKind.wrap .i64 (1 * 2 ^ min (IntKind.wrap .u64 (Int.ofNat n)).toNat IntKind.i64.bits)), h)) (v := J N) (h' := h) (by kernel_rfl) (by rw [hmin, hsh]) ?_
  refine ok_go 0 ?_
  refine sy_call 0 (r := makeSliceOp Tryd.prog h 24 (J N) (J N)) (v := .slice (some ⟨h.next, 0, none⟩) N (2 * N)) (h' := h.new (.cells (zeros [.bool false] N) 4 false)) (by kernel_rfl) (makeSl (z := .bool false) (inf := (Tryd.prog.info? 4).get!) uB (by kernel_rfl) (by kernel_rfl) (by kernel_rfl) (by kernel_rfl) (by kernel_rfl) (by omega)) ?_
  have B0 : ArB h.next N (fun _ => false) (h.new (.cells (zeros [.bool false] N) 4 false)) := ⟨Nat.lt_succ_self _, false, by rw [zeros_one]; exact get_new _ _⟩
  have X0 : h.Ext (h.new (.cells (zeros [.bool false] N) 4 false)) := Hp.Ext.new _ _
  generalize hh0 : h.new (.cells (zeros [.bool false] N) 4 false) = h0 at B0 X0
  clear hh0
  refine ok_go 0 ?_
  refine sy_loop 0 lf h0 (α := Nat) (fun s => [(0, .int .u64 x), (2, I kind), (7, J N), (8, .slice (some ⟨h.next, 0, none⟩) N (2 * N)), (9, J s)]) (fun s g => s ≤ N ∧ h.Ext g ∧ ∃ f, ArB h.next N f g) (fun s _ => N - s) 0 (by kernel_rfl) (by kernel_rfl) ⟨by kernel_rfl, by kernel_rfl, by kernel_rfl, by kernel_rfl, by kernel_rfl, trivial⟩ (show N - 0 < lf by omega) ⟨Nat.zero_le _, X0, _, B0⟩ ?_
  rintro m1 i f1 g ⟨hi, X, f, A⟩ ih
  refine ok_go 1 ?_
  refine sy_test 0 (decide (Int.ofNat i < Int.ofNat N)) (by kernel_rfl) ?_ ?_
  · intro hlt
    have hlt := ok_nat hlt
    have fin : ∀ z : Bool, ∃ g', storeT Tryd.prog g 4 (ptr h.next i) (.bool z) = some g' ∧ h.Ext g' ∧ ∃ f, ArB h.next N f g' := fun z => by
      obtain ⟨g', e, A', n', o'⟩ := A.store hlt z
      exact ⟨g', e, ext_of X (Nat.le_refl _) n' o', _, A'⟩
    refine sy_call 5 (r := some (.int .u64 ((IntKind.wrap .u64 kind).tmod 4), g)) (v := .int .u64 (Int.ofNat y)) (h' := g) (by kernel_rfl) (by rw [ey]) ?_
    rcases (by omega : y = 0 ∨ y = 1 ∨ y = 2 ∨ y = 3) with rfl | rfl | rfl | rfl
    · obtain ⟨g', e, X', f', A'⟩ := fin ((x.fdiv (2 ^ min (IntKind.wrap .u64 (Int.ofNat i)).toNat IntKind.u64.bits)).tmod 2 == 1)
      refine ok_go 6 ?_
      refine sy_load 0 (r := indexAddrOp Tryd.prog 24 (.slice (some ⟨h.next, 0, none⟩) N (2 * N)) (J i)) (h' := g) (by kernel_rfl) (idxB hlt) ?_
      refine ok_go 0 ?_
      refine sy_store 0 (r := storeT Tryd.prog g 4 (ptr h.next i) (.bool ((x.fdiv (2 ^ min (IntKind.wrap .u64 (Int.ofNat i)).toNat IntKind.u64.bits)).tmod 2 == 1))) (by kernel_rfl) e ?_
      refine ok_go 1 ?_
      exact sy_next 0 _ g' (by kernel_rfl) (by kernel_rfl) (ih (i + 1) _ g' ⟨hlt, X', f', A'⟩ (show N - (i + 1) < N - i by omega) ⟨by kernel_rfl, by kernel_rfl, by kernel_rfl, by kernel_rfl, (by kernel_rfl : _ = Value.int .i64 (IntKind.wrap .i64 (Int.ofNat (i + 1)))).trans (by rw [wrap_nat (by omega)]), trivial⟩)
    · refine ok_go 2 ?_
      refine sy_test 0 ((x.fdiv (2 ^ min (IntKind.wrap .u64 (Int.ofNat i)).toNat IntKind.u64.bits)).tmod 2 == 1) (by kernel_rfl) ?_ ?_
      · intro _
        have hw : (IntKind.wrap .i64 (IntKind.wrap .i64 (Int.ofNat i * 7) + 3)).tmod 64 = Int.ofNat ((i * 7 + 3) % 64) := by
          rw [show Int.ofNat i * 7 = Int.ofNat (i * 7) from rfl, wrap_nat (by omega), show Int.ofNat (i * 7) + 3 = Int.ofNat (i * 7 + 3) from rfl, wrap_nat (by omega)]
          rfl
        refine sy_call 6 (r := some (.int .i64 ((IntKind.wrap .i64 (IntKind.wrap .i64 (Int.ofNat i * 7) + 3)).tmod 64), g)) (v := J ((i * 7 + 3) % 64)) (h' := g) (by kernel_rfl) (by rw [hw]) ?_
        obtain ⟨g', e, X', f', A'⟩ := fin ((x.fdiv (2 ^ min (IntKind.wrap .u64 (Int.ofNat ((i * 7 + 3) % 64))).toNat IntKind.u64.bits)).tmod 2 == 1)
        refine ok_go 9 ?_
        refine sy_load 0 (r := indexAddrOp Tryd.prog 24 (.slice (some ⟨h.next, 0, none⟩) N (2 * N)) (J i)) (h' := g) (by kernel_rfl) (idxB hlt) ?_
        refine ok_go 0 ?_
        refine sy_store 0 (r := storeT Tryd.prog g 4 (ptr h.next i) (.bool ((x.fdiv (2 ^ min (IntKind.wrap .u64 (Int.ofNat ((i * 7 + 3) % 64))).toNat IntKind.u64.bits)).tmod 2 == 1))) (by kernel_rfl) e ?_
        refine ok_go 1 ?_
        exact sy_next 0 _ g' (by kernel_rfl) (by kernel_rfl) (ih (i + 1) _ g' ⟨hlt, X', f', A'⟩ (show N - (i + 1) < N - i by omega) ⟨by kernel_rfl, by kernel_rfl, by kernel_rfl, by kernel_rfl, (by kernel_rfl : _ = Value.int .i64 (IntKind.wrap .i64 (Int.ofNat (i + 1)))).trans (by rw [wrap_nat (by omega)]), trivial⟩)
      · intro _
        obtain ⟨g', e, X', f', A'⟩ := fin false
        refine ok_go 9 ?_
        refine sy_load 0 (r := indexAddrOp Tryd.prog 24 (.slice (some ⟨h.next, 0, none⟩) N (2 * N)) (J i)) (h' := g) (by kernel_rfl) (idxB hlt) ?_
        refine ok_go 0 ?_
        refine sy_store 0 (r := storeT Tryd.prog g 4 (ptr h.next i) (.bool false)) (by kernel_rfl) e ?_
        refine ok_go 1 ?_
        exact sy_next 0 _ g' (by kernel_rfl) (by kernel_rfl) (ih (i + 1) _ g' ⟨hlt, X', f', A'⟩ (show N - (i + 1) < N - i by omega) ⟨by kernel_rfl, by kernel_rfl, by kernel_rfl, by kernel_rfl, (by kernel_rfl : _ = Value.int .i64 (IntKind.wrap .i64 (Int.ofNat (i + 1)))).trans (by rw [wrap_nat (by omega)]), trivial⟩)
    · refine ok_go 4 ?_
      refine sy_loop 0 lf g (α := Nat × Nat) (fun s => [(0, .int .u64 x), (2, I kind), (7, J N), (8, .slice (some ⟨h.next, 0, none⟩) N (2 * N)), (9, J i), (11, J s.1), (12, J s.2)]) (fun s k => k = g ∧ s.1 + s.2 ≤ i) (fun s _ => s.2) (0, i) (by kernel_rfl) (by kernel_rfl) ⟨by kernel_rfl, by kernel_rfl, by kernel_rfl, by kernel_rfl, by kernel_rfl, by kernel_rfl, by kernel_rfl, trivial⟩ (show i < lf by omega) ⟨rfl, by show 0 + i ≤ i; omega⟩ ?_
      rintro m2 ⟨o, k⟩ f2 g2 ⟨rfl, hok⟩ ih2
      dsimp only at hok
      refine ok_go 1 ?_
      refine sy_test 0 (decide (Int.ofNat k > 0)) (by kernel_rfl) ?_ ?_
      · intro hk
        have hk : 0 < k := by have := of_decide_eq_true hk; simp at this; omega
        refine ok_go 3 ?_
        exact sy_next 0 _ g2 (by kernel_rfl) (by kernel_rfl) (ih2 (o + k % 2, k / 2) _ g2 ⟨rfl, by show o + k % 2 + k / 2 ≤ i; omega⟩ (show k / 2 < k by omega) ⟨by kernel_rfl, by kernel_rfl, by kernel_rfl, by kernel_rfl, by kernel_rfl, (by kernel_rfl : _ = Value.int .i64 (IntKind.wrap .i64 (Int.ofNat (o + k % 2)))).trans (by rw [wrap_nat (by omega)]), (by kernel_rfl : _ = Value.int .i64 (IntKind.wrap .i64 (Int.ofNat (k / 2)))).trans (by rw [wrap_nat (by omega)]), trivial⟩)
      · intro _
        obtain ⟨g', e, X', f', A'⟩ := fin ((x.fdiv (2 ^ min (IntKind.wrap .u64 (Int.ofNat o)).toNat IntKind.u64.bits)).tmod 2 == 1)
        refine ok_go 4 ?_
        refine sy_load 0 (r := indexAddrOp Tryd.prog 24 (.slice (some ⟨h.next, 0, none⟩) N (2 * N)) (J i)) (h' := g2) (by kernel_rfl) (idxB hlt) ?_
        refine ok_go 0 ?_
        refine sy_store 0 (r := storeT Tryd.prog g2 4 (ptr h.next i) (.bool ((x.fdiv (2 ^ min (IntKind.wrap .u64 (Int.ofNat o)).toNat IntKind.u64.bits)).tmod 2 == 1))) (by kernel_rfl) e ?_
        refine ok_go 1 ?_
        exact sy_next 0 _ g' (by kernel_rfl) (by kernel_rfl) (ih (i + 1) _ g' ⟨hlt, X', f', A'⟩ (show N - (i + 1) < N - i by omega) ⟨by kernel_rfl, by kernel_rfl, by kernel_rfl, by kernel_rfl, (by kernel_rfl : _ = Value.int .i64 (IntKind.wrap .i64 (Int.ofNat (i + 1)))).trans (by rw [wrap_nat (by omega)]), trivial⟩)
    · obtain ⟨g', e, X', f', A'⟩ := fin ((x.fdiv (2 ^ min (IntKind.wrap .u64 ((Int.ofNat i).tmod 4)).toNat IntKind.u64.bits)).tmod 2 == 1)
      refine ok_go 11 ?_
      refine sy_load 0 (r := indexAddrOp Tryd.prog 24 (.slice (some ⟨h.next, 0, none⟩) N (2 * N)) (J i)) (h' := g) (by kernel_rfl) (idxB hlt) ?_
      refine ok_go 0 ?_
      refine sy_store 0 (r := storeT Tryd.prog g 4 (ptr h.next i) (.bool ((x.fdiv (2 ^ min (IntKind.wrap .u64 ((Int.ofNat i).tmod 4)).toNat IntKind.u64.bits)).tmod 2 == 1))) (by kernel_rfl) e ?_
      refine ok_go 1 ?_
      exact sy_next 0 _ g' (by kernel_rfl) (by kernel_rfl) (ih (i + 1) _ g' ⟨hlt, X', f', A'⟩ (show N - (i + 1) < N - i by omega) ⟨by kernel_rfl, by kernel_rfl, by kernel_rfl, by kernel_rfl, (by kernel_rfl : _ = Value.int .i64 (IntKind.wrap .i64 (Int.ofNat (i + 1)))).trans (by rw [wrap_nat (by omega)]), trivial⟩)
  · intro hlt
    have hlt := no_nat hlt
    refine ok_go 0 ?_
    exact sy_done 0 (v := .slice (some ⟨h.next, 0, none⟩) N (2 * N)) (h := g) (by kernel_rfl) ⟨h.next, f, rfl, Nat.le_refl _, X, A⟩
/-- Other places are as they were. -/
structure Exc (S : List Nat) (h g : Hp) : Prop where
  next : h.next ≤ g.next
  get : ∀ j, j < h.next → j ∉ S → g.get j = h.get j
/-- The masks of one bit, given to a round each. -/
theorem single_run (n : Nat) (hn : n ≤ 6) (lf m b l : Nat) (hlf : 300 ≤ lf) (a : Option Addr) (c : Nat) (I : Nat → Hp → Prop) (E : Hp → Prop)
    (hb : ∀ i g, I i g → loadT Tryd.prog g 24 (ptr b 0) = some (.slice a (2 ^ n) c))
    (hy : ∀ i g, i < n → I i g → (∃ g', evInv Tryd.prog orc lf m (.yield l [J (2 ^ i)]) g = some (.bool true, g') ∧ I (i + 1) g') ∨ (∃ g', evInv Tryd.prog orc lf m (.yield l [J (2 ^ i)]) g = some (.bool false, g') ∧ E g'))
    {h : Hp} (h0 : I 0 h) : ∃ v h', Ev lf (m + 1) 49 [.func (.yield l) #[] #[], ptr b 0] h = some (v, h') ∧ (I n h' ∨ E h') := by
  refine fnS_ok (Q := fun _ h' => I n h' ∨ E h') ?_
  refine sy_loop 0 lf h (α := Nat) (fun i => [(0, .func (.yield l) #[] #[]), (1, ptr b 0), (3, J (2 ^ i))]) (fun i g => i ≤ n ∧ I i g) (fun i _ => n - i) 0 (by kernel_rfl) (by kernel_rfl) ⟨by kernel_rfl, by kernel_rfl, by kernel_rfl, trivial⟩ (by omega) ⟨Nat.zero_le _, h0⟩ ?_
  rintro m1 i f1 g ⟨hi, hI⟩ ih
  refine ok_go 0 ?_
  refine sy_load 0 (h' := g) (by kernel_rfl) (hb i g hI) ?_
  refine ok_go 2 ?_
  refine sy_test 0 (decide (Int.ofNat (2 ^ i) < Int.ofNat (2 ^ n))) (by kernel_rfl) ?_ ?_
  · intro hlt
    have hlt : i < n := (Nat.pow_lt_pow_iff_right (by decide)).1 (ok_nat hlt)
    refine ok_go 0 ?_
    rcases hy i g hlt hI with ⟨g', e, hI'⟩ | ⟨g', e, hE⟩
    · refine sy_call 0 (by kernel_rfl) e ?_
      have hw : IntKind.i64.wrap (Int.ofNat (2 ^ i) * 2) = Int.ofNat (2 ^ (i + 1)) := by
        have h6 : 2 ^ (i + 1) ≤ 2 ^ 6 := Nat.pow_le_pow_right (by decide) (by omega)
        have h7 : Int.ofNat (2 ^ i) * 2 = Int.ofNat (2 ^ (i + 1)) := by rw [Nat.pow_succ]; rfl
        rw [h7, wrap_small (by exact Int.natCast_nonneg _) (by have : Int.ofNat (2 ^ (i + 1)) ≤ 64 := Int.ofNat_le.2 h6; omega)]
      refine ok_go 3 ?_
      exact sy_next 0 _ g' (by kernel_rfl) (by kernel_rfl) (ih (i + 1) _ g' ⟨hlt, hI'⟩ (by show n - (i + 1) < n - i; omega) ⟨by kernel_rfl, by kernel_rfl, (by kernel_rfl : _ = Value.int .i64 (IntKind.i64.wrap (Int.ofNat (2 ^ i) * 2))).trans (by rw [hw]), trivial⟩)
    · refine sy_call 0 (by kernel_rfl) e ?_
      refine ok_go 2 ?_
      exact sy_done 0 (v := undef) (h := g') (by kernel_rfl) (.inr hE)
  · intro hlt
    have hlt := no_nat hlt
    have hin : i = n := by
      have := (Nat.pow_le_pow_iff_right (a := 2) (by decide)).1 hlt
      omega
    subst hin
    refine ok_go 0 ?_
    exact sy_done 0 (v := undef) (h := g) (by kernel_rfl) (.inl hI)
/-- What the mask behind s is within M, as the code has it. -/
def nxZ (s M : Nat) : Int := andI (IntKind.i64.wrap (Int.ofNat s - Int.ofNat M)) (Int.ofNat M)
noncomputable def nxB (M s : Nat) : Bool := (Nat.beq (s &&& M) s).not || (match Nat.beq s M, nxZ s M with
  | true, .ofNat 0 => true
  | false, .ofNat t => Nat.blt s t && Nat.ble t M && Nat.beq (t &&& M) t && allB t fun v => (Nat.blt s v).not || (Nat.beq (v &&& M) v).not
  | _, _ => false)
theorem nx_all : allB 64 (fun M => allB 64 fun s => nxB M s) = true := by kernel_rfl
theorem nx_end {M : Nat} (hM : M < 64) : nxZ M M = 0 := by
  have h := allB_ok (allB_ok nx_all M hM) M hM
  unfold nxB at h
  rw [Nat.and_self, Nat.beq_refl, Bool.not_true, Bool.false_or] at h
  split at h
  · rename_i e; exact e
  · rename_i e _; cases e
  · cases h
theorem nx_ok {M s : Nat} (hM : M < 64) (hs : s &&& M = s) (hne : s ≠ M) : ∃ t, nxZ s M = Int.ofNat t ∧ s < t ∧ t ≤ M ∧ t &&& M = t ∧ ∀ v, s < v → v < t → v &&& M ≠ v := by
  have hsM : s ≤ M := by rw [← hs]; exact Nat.and_le_right
  have h := allB_ok (allB_ok nx_all M hM) s (by omega)
  unfold nxB at h
  rw [hs, Nat.beq_refl, Bool.not_true, Bool.false_or] at h
  split at h
  · rename_i e _; exact absurd (Nat.eq_of_beq_eq_true e) hne
  · rename_i t _ e
    simp only [Bool.and_eq_true] at h
    obtain ⟨⟨⟨h1, h2⟩, h3⟩, h4⟩ := h
    refine ⟨t, e, Nat.le_of_ble_eq_true h1, Nat.le_of_ble_eq_true h2, Nat.eq_of_beq_eq_true h3, fun v hv1 hv2 hv3 => ?_⟩
    have := allB_ok h4 v hv2
    rw [blt_true hv1, hv3, Nat.beq_refl] at this
    cases this
  · cases h
/-- The masks within a mask, rising, but 0, given to a round each: I s says that those up to s are done. -/
theorem within_run (lf k b l M : Nat) (hM : M < 64) (hlf : 300 ≤ lf) (I : Nat → Hp → Prop) (E : Hp → Prop)
    (hb : ∀ s g, I s g → loadT Tryd.prog g 3 (ptr b 0) = some (J M))
    (hy : ∀ s t g, s < t → t ≤ M → t &&& M = t → (∀ v, s < v → v < t → v &&& M ≠ v) → I s g → (∃ g', evInv Tryd.prog orc lf k (.yield l [J t]) g = some (.bool true, g') ∧ I t g') ∨ (∃ g', evInv Tryd.prog orc lf k (.yield l [J t]) g = some (.bool false, g') ∧ E g'))
    {h : Hp} (h0 : I 0 h) : ∃ v h', Ev lf (k + 1) 86 [.func (.yield l) #[] #[], ptr b 0] h = some (v, h') ∧ (I M h' ∨ E h') := by
  refine fnS_ok (Q := fun _ h' => I M h' ∨ E h') ?_
  refine ok_go 0 ?_
  refine sy_load 0 (h' := h) (by kernel_rfl) (hb _ _ h0) ?_
  refine ok_go 1 ?_
  refine sy_load 0 (h' := h) (by kernel_rfl) (hb _ _ h0) ?_
  refine ok_go 1 ?_
  refine sy_loop 0 lf h (α := Nat) (fun s => [(0, .func (.yield l) #[] #[]), (1, ptr b 0), (3, .int .i64 (nxZ s M))]) (fun s g => s ≤ M ∧ s &&& M = s ∧ I s g) (fun s _ => M - s) 0 (by kernel_rfl) (by kernel_rfl) ⟨by kernel_rfl, by kernel_rfl, by kernel_rfl, trivial⟩ (by omega) ⟨Nat.zero_le _, Nat.zero_and _, h0⟩ ?_
  rintro m1 s f1 g ⟨hs, hsM, hI⟩ ih
  by_cases hend : s = M
  · subst hend
    refine sy_no 1 (b := (nxZ s s != 0)) (by kernel_rfl) (by rw [nx_end hM]; rfl) ?_
    refine ok_go 0 ?_
    exact sy_done 0 (v := undef) (h := g) (by kernel_rfl) (.inl hI)
  · obtain ⟨t, e, h1, h2, h3, h4⟩ := nx_ok hM hsM hend
    rw [e]
    refine sy_yes 1 (b := (Int.ofNat t != 0)) (by kernel_rfl) (by
      cases t with
      | zero => omega
      | succ t => rfl) ?_
    refine ok_go 0 ?_
    rcases hy s t g h1 h2 h3 h4 hI with ⟨g', e', hI'⟩ | ⟨g', e', hE⟩
    · refine sy_call 0 (by kernel_rfl) e' ?_
      refine ok_go 2 ?_
      refine sy_load 0 (h' := g') (by kernel_rfl) (hb _ _ hI') ?_
      refine ok_go 1 ?_
      refine sy_load 0 (h' := g') (by kernel_rfl) (hb _ _ hI') ?_
      refine ok_go 1 ?_
      exact sy_next 0 _ g' (by kernel_rfl) (by kernel_rfl) (ih t _ g' ⟨h2, h3, hI'⟩ (by show M - t < M - s; omega) ⟨by kernel_rfl, by kernel_rfl, by kernel_rfl, trivial⟩)
    · refine sy_call 0 (by kernel_rfl) e' ?_
      refine ok_go 2 ?_
      exact sy_done 0 (v := undef) (h := g') (by kernel_rfl) (.inr hE)
theorem single_of (m : Nat) (lf : Nat) (a : Option Addr) (N c : Nat) (h : Hp) : Ev lf (m + 1) 23 [.slice a N c] h = some (.func (.func 49) #[] #[ptr h.next 0], h.new (.cells [.slice a N c] 24 false)) := by
  kernel_rfl
theorem within_of (m : Nat) (lf : Nat) (x : Int) (h : Hp) : Ev lf (m + 1) 73 [.int .i64 x] h = some (.func (.func 86) #[] #[ptr h.next 0], h.new (.cells [.int .i64 x] 3 false)) := by
  kernel_rfl
theorem eq_int (a b : Nat) : (Int.ofNat a == Int.ofNat b) = (a == b) := by
  rw [Bool.eq_iff_iff, beq_iff_eq, beq_iff_eq]
  exact Int.ofNat_inj
theorem ne_int (a b : Nat) : (Int.ofNat a != Int.ofNat b) = (a != b) := by
  unfold bne; rw [eq_int]
theorem xor_zero {a b : Nat} : a ^^^ b = 0 ↔ a = b := by
  constructor
  · intro h
    refine Nat.eq_of_testBit_eq fun i => ?_
    have := congrArg (fun z => z.testBit i) h
    simp only [Nat.testBit_xor, Nat.zero_testBit] at this
    cases h1 : a.testBit i <;> cases h2 : b.testBit i <;> simp_all
  · rintro rfl; exact Nat.xor_self a
theorem xor_small {a b n : Nat} (ha : a < 2 ^ n) (hb : b < 2 ^ n) : a ^^^ b < 2 ^ n := Nat.xor_lt_two_pow ha hb
theorem or_small {a b n : Nat} (ha : a < 2 ^ n) (hb : b < 2 ^ n) : a ||| b < 2 ^ n := Nat.or_lt_two_pow ha hb
theorem gn (h : Hp) (o : AObj) (j : Nat) : (h.new o).get j = if j = h.next then some o else h.get j := by
  split
  · rename_i e; rw [e]; exact get_new h o
  · rename_i e; exact Hp.get_new_ne e
theorem gp (h : Hp) (i : Nat) (o : AObj) (j : Nat) : (h.put i o).get j = if j = i then some o else h.get j := by
  split
  · rename_i e; rw [e]; exact get_put h i o
  · rename_i e; exact Hp.get_put_ne e
theorem nn (h : Hp) (o : AObj) : (h.new o).next = h.next + 1 := rfl
theorem np (h : Hp) (i : Nat) (o : AObj) : (h.put i o).next = h.next := rfl
/-- A mask without another one. -/
abbrev notI (a b : Int) : Int := IntKind.wrap .i64 ((BitVec.ofInt 64 a &&& ~~~BitVec.ofInt 64 b).toNat : Int)
noncomputable def notB (a b : Nat) : Bool := (Nat.beq (b &&& a) b).not || decide (notI (Int.ofNat a) (Int.ofNat b) = Int.ofNat (a ^^^ b))
theorem not_all : allB 64 (fun a => allB 64 fun b => notB a b) = true := by kernel_rfl
theorem not_nat {a b : Nat} (ha : a < 64) (hb : b < 64) (h : b &&& a = b) : notI (Int.ofNat a) (Int.ofNat b) = Int.ofNat (a ^^^ b) := by
  have := allB_ok (allB_ok not_all a ha) b hb
  unfold notB at this
  rw [h, Nat.beq_refl, Bool.not_true, Bool.false_or] at this
  exact of_decide_eq_true this
theorem rbits_of (n : Nat) (hn : n ≤ 6) (m : Nat) (h : Hp) : Ev 100000 (m + 20) 45 [J (2 ^ n)] h = some (J n, h) := by
  rcases (by omega : n = 0 ∨ n = 1 ∨ n = 2 ∨ n = 3 ∨ n = 4 ∨ n = 5 ∨ n = 6) with rfl | rfl | rfl | rfl | rfl | rfl | rfl <;> kernel_rfl
end Go.Proofs.YtnfboopfpkaeaaaDoor
namespace Go.Proofs.YtnfboopfpkaeaaaDoor
open Go Go.Eng Nim
set_option maxRecDepth 100000
set_option maxHeartbeats 4000000
/-- Whether all of the first numbers have it. -/
def al (p : Nat → Bool) : Nat → Bool
  | 0 => true
  | k + 1 => al p k && p k
theorem al_iff {p : Nat → Bool} : ∀ {n : Nat}, al p n = true ↔ ∀ x, x < n → p x = true
  | 0 => ⟨fun _ x hx => absurd hx (Nat.not_lt_zero x), fun _ => rfl⟩
  | n + 1 => by
    rw [al, Bool.and_eq_true, al_iff]
    constructor
    · rintro ⟨h1, h2⟩ x hx
      by_cases e : x = n
      · rw [e]; exact h2
      · exact h1 x (by omega)
    · exact fun h => ⟨fun x hx => h x (by omega), h n (by omega)⟩
/-- A decider over a table, in block bd. -/
def Dcd (bd b0 N c : Nat) (h : Hp) : Prop := bd < h.next ∧ ∃ z opn, h.get bd = some (.cells [.slice (some ⟨b0, 0, none⟩) N c, z] 53 opn)
theorem Dcd.ext {bd b0 N c : Nat} {h g : Hp} (H : Dcd bd b0 N c h) (k : h.Ext g) : Dcd bd b0 N c g := by
  obtain ⟨h1, z, o, e⟩ := H
  exact ⟨Nat.lt_of_lt_of_le h1 k.next, z, o, k.at_ h1 e⟩
theorem Dcd.read {bd b0 N c : Nat} {h : Hp} (H : Dcd bd b0 N c h) : loadT Tryd.prog h 24 (ptr bd 0) = some (.slice (some ⟨b0, 0, none⟩) N c) := by
  obtain ⟨_, z, o, e⟩ := H
  exact load1 (by kernel_rfl) e rfl
def cq (f : Nat → Bool) (m v x : Nat) : Bool := (x &&& m != v) || f x == f v
theorem const_of (f : Nat → Bool) (N : Nat) (hN : N ≤ 64) (lf k : Nat) (hlf : 300 ≤ lf) (b0 c bd m v : Nat) (hv : v < N) (hm : m < 64) (h : Hp) (A : ArB b0 N f h) (D : Dcd bd b0 N c h) :
    ∃ y h', Ev lf (k + 1) 67 [ptr bd 0, .agg #[J m, J v]] h = some (y, h') ∧ y = .tuple #[.bool (f v), .bool (al (cq f m v) N)] ∧ h.Ext h' := by
  refine fnS_ok (Q := fun y h' => y = .tuple #[.bool (f v), .bool (al (cq f m v) N)] ∧ h.Ext h') ?_
  have X0 : h.Ext (h.new (.cells [J m, J v] 75 false)) := Hp.Ext.new _ _
  have gx := get_new h (.cells [J m, J v] 75 false)
  have A1 := A.ext X0
  have D1 := D.ext X0
  refine ok_go 3 ?_
  refine sy_load 0 (r := loadT Tryd.prog (h.new (.cells [J m, J v] 75 false)) 24 (ptr bd 0)) (h' := h.new (.cells [J m, J v] 75 false)) (by kernel_rfl) D1.read ?_
  generalize h.new (.cells [J m, J v] 75 false) = X at X0 gx A1 D1 ⊢
  refine ok_go 1 ?_
  refine sy_load 0 (r := loadT Tryd.prog X 3 (ptr h.next 1)) (h' := X) (v := J v) (by kernel_rfl) (load1 agI gx rfl) ?_
  refine ok_go 0 ?_
  refine sy_load 0 (r := indexAddrOp Tryd.prog 24 (.slice (some ⟨b0, 0, none⟩) N c) (J v)) (h' := X) (by kernel_rfl) (idxB hv) ?_
  refine ok_go 0 ?_
  refine sy_load 0 (r := loadT Tryd.prog X 4 (ptr b0 v)) (h' := X) (by kernel_rfl) (A1.read hv) ?_
  refine ok_go 2 ?_
  refine sy_load 0 (r := loadT Tryd.prog X 24 (ptr bd 0)) (h' := X) (by kernel_rfl) D1.read ?_
  refine ok_go 1 ?_
  refine sy_loop 0 lf X (α := Nat) (fun x => [(3, ptr h.next 0), (4, .bool (f v)), (5, .bool (al (cq f m v) x)), (19, .slice (some ⟨b0, 0, none⟩) N c), (20, J N), (21, J x)]) (fun x g => x ≤ N ∧ g = X) (fun x _ => N - x) 0 (by kernel_rfl) (by kernel_rfl) ⟨by kernel_rfl, by kernel_rfl, by kernel_rfl, by kernel_rfl, by kernel_rfl, by kernel_rfl, trivial⟩ (by omega) ⟨Nat.zero_le _, rfl⟩ ?_
  rintro m1 x f1 g ⟨hx, rfl⟩ ih
  refine ok_go 1 ?_
  refine sy_test 0 (decide (Int.ofNat x < Int.ofNat N)) (by kernel_rfl) ?_ ?_
  · intro hlt
    have hlt := ok_nat hlt
    have hwx : IntKind.wrap .i64 (Int.ofNat (x + 1)) = Int.ofNat (x + 1) := wrap_nat (by omega)
    have hand : (andI (Int.ofNat x) (Int.ofNat m) != Int.ofNat v) = (x &&& m != v) := by rw [and_nat (by omega), ne_int]
    refine ok_go 0 ?_
    refine sy_load 0 (r := indexAddrOp Tryd.prog 24 (.slice (some ⟨b0, 0, none⟩) N c) (J x)) (h' := g) (by kernel_rfl) (idxB hlt) ?_
    refine ok_go 0 ?_
    refine sy_load 0 (r := loadT Tryd.prog g 4 (ptr b0 x)) (h' := g) (by kernel_rfl) (A1.read hlt) ?_
    refine ok_go 0 ?_
    refine sy_test 0 (al (cq f m v) x) (by kernel_rfl) ?_ ?_
    · intro hs
      refine ok_go 3 ?_
      refine sy_load 0 (r := loadT Tryd.prog g 3 (ptr h.next 0)) (h' := g) (v := J m) (by kernel_rfl) (load1 agI gx rfl) ?_
      refine ok_go 5 ?_
      refine sy_load 0 (r := loadT Tryd.prog g 3 (ptr h.next 1)) (h' := g) (v := J v) (by kernel_rfl) (load1 agI gx rfl) ?_
      refine ok_go 3 ?_
      refine sy_test 0 (andI (Int.ofNat x) (Int.ofNat m) != Int.ofNat v) (by kernel_rfl) ?_ ?_
      · intro hd
        rw [hand] at hd
        refine ok_go 6 ?_
        exact sy_next 0 _ g (by kernel_rfl) (by kernel_rfl) (ih (x + 1) _ g ⟨hlt, rfl⟩ (show N - (x + 1) < N - x by omega) ⟨by kernel_rfl, by kernel_rfl, (by kernel_rfl : _ = Value.bool true).trans (by rw [al, hs, cq, hd]; rfl), by kernel_rfl, by kernel_rfl, (by kernel_rfl : _ = Value.int .i64 (IntKind.wrap .i64 (Int.ofNat (x + 1)))).trans (by rw [hwx]), trivial⟩)
      · intro hd
        rw [hand] at hd
        refine ok_go 7 ?_
        exact sy_next 0 _ g (by kernel_rfl) (by kernel_rfl) (ih (x + 1) _ g ⟨hlt, rfl⟩ (show N - (x + 1) < N - x by omega) ⟨by kernel_rfl, by kernel_rfl, (by kernel_rfl : _ = Value.bool (f x == f v)).trans (by rw [al, hs, cq, hd]; rfl), by kernel_rfl, by kernel_rfl, (by kernel_rfl : _ = Value.int .i64 (IntKind.wrap .i64 (Int.ofNat (x + 1)))).trans (by rw [hwx]), trivial⟩)
    · intro hs
      refine ok_go 10 ?_
      exact sy_next 0 _ g (by kernel_rfl) (by kernel_rfl) (ih (x + 1) _ g ⟨hlt, rfl⟩ (show N - (x + 1) < N - x by omega) ⟨by kernel_rfl, by kernel_rfl, (by kernel_rfl : _ = Value.bool false).trans (by rw [al, hs]; rfl), by kernel_rfl, by kernel_rfl, (by kernel_rfl : _ = Value.int .i64 (IntKind.wrap .i64 (Int.ofNat (x + 1)))).trans (by rw [hwx]), trivial⟩)
  · intro hlt
    have hlt := no_nat hlt
    have hxN : x = N := by omega
    subst hxN
    refine ok_go 0 ?_
    exact sy_done 0 (v := .tuple #[.bool (f v), .bool (al (cq f m v) x)]) (h := g) (by kernel_rfl) ⟨rfl, X0⟩
theorem impl_of (f : Nat → Bool) (N : Nat) (lf k : Nat) (bd m v : Nat) (h : Hp) (co : ∀ h', h.Ext h' → ∃ y h'', Ev lf k 67 [ptr bd 0, .agg #[J m, J v]] h' = some (y, h'') ∧ y = .tuple #[.bool (f v), .bool (al (cq f m v) N)] ∧ h'.Ext h'') :
    ∃ y h', Ev lf (k + 1) 35 [ptr bd 0, .agg #[J m, J v]] h = some (y, h') ∧ y = .bool (al (cq f m v) N && f v) ∧ h.Ext h' := by
  refine fnS_ok (Q := fun y h' => y = .bool (al (cq f m v) N && f v) ∧ h.Ext h') ?_
  have X0 : h.Ext (h.new (.cells [J m, J v] 75 false)) := Hp.Ext.new _ _
  have gx := get_new h (.cells [J m, J v] 75 false)
  obtain ⟨_, h2, e, rfl, X2⟩ := co _ X0
  have l1 : loadT Tryd.prog (h.new (.cells [J m, J v] 75 false)) 75 (ptr h.next 0) = some (.agg #[J m, J v]) := by
    have h1 : isAggT Tryd.prog 75 = some true := by kernel_rfl
    have h2 : sizeT Tryd.prog 75 = some 2 := by kernel_rfl
    simp only [loadT, h1, h2, loadN, gx, List.drop_zero, takeN]
  refine ok_go 1 ?_
  refine sy_load 0 (r := loadT Tryd.prog (h.new (.cells [J m, J v] 75 false)) 75 (ptr h.next 0)) (h' := h.new (.cells [J m, J v] 75 false)) (by kernel_rfl) l1 ?_
  refine ok_go 0 ?_
  refine sy_call 0 (by kernel_rfl) e ?_
  refine ok_go 2 ?_
  refine sy_test 0 (al (cq f m v) N) (by kernel_rfl) ?_ ?_
  · intro hs
    refine ok_go 1 ?_
    exact sy_done 0 (v := .bool (f v)) (h := h2) (by kernel_rfl) ⟨by rw [hs]; rfl, X0.trans X2⟩
  · intro hs
    refine ok_go 1 ?_
    exact sy_done 0 (v := .bool false) (h := h2) (by kernel_rfl) ⟨by rw [hs]; rfl, X0.trans X2⟩
/-- Whether two masks are an implicant, by the reference. -/
def im (f : Nat → Bool) (m v x : Nat) : Bool := !(x &&& m == v && !f x)
theorem rimpl_of (f : Nat → Bool) (N : Nat) (hN : N ≤ 64) (lf k : Nat) (hlf : 300 ≤ lf) (b0 c m v : Nat) (hm : m < N) (hv : v < 64) (h : Hp) (A : ArB b0 N f h) :
    ∃ y h', Ev lf (k + 1) 25 [.slice (some ⟨b0, 0, none⟩) N c, .agg #[J m, J v]] h = some (y, h') ∧ y = .bool ((v &&& m == v) && al (im f m v) N) ∧ h.Ext h' := by
  refine fnS_ok (Q := fun y h' => y = .bool ((v &&& m == v) && al (im f m v) N) ∧ h.Ext h') ?_
  have X0 : h.Ext (h.new (.cells [J m, J v] 23 false)) := Hp.Ext.new _ _
  have gx := get_new h (.cells [J m, J v] 23 false)
  have A1 := A.ext X0
  refine ok_go 2 ?_
  refine sy_load 0 (r := loadT Tryd.prog (h.new (.cells [J m, J v] 23 false)) 3 (ptr h.next 0)) (h' := h.new (.cells [J m, J v] 23 false)) (v := J m) (by kernel_rfl) (load1 agI gx rfl) ?_
  generalize h.new (.cells [J m, J v] 23 false) = X at X0 gx A1 ⊢
  refine ok_go 4 ?_
  refine sy_load 0 (r := loadT Tryd.prog X 3 (ptr h.next 0)) (h' := X) (v := J m) (by kernel_rfl) (load1 agI gx rfl) ?_
  refine ok_go 6 ?_
  refine sy_no 0 (b := decide (Int.ofNat m ≥ Int.ofNat N)) (by kernel_rfl) (decide_eq_false (by simp; omega)) ?_
  refine ok_go 2 ?_
  refine sy_load 0 (r := loadT Tryd.prog X 3 (ptr h.next 1)) (h' := X) (v := J v) (by kernel_rfl) (load1 agI gx rfl) ?_
  refine ok_go 6 ?_
  refine sy_load 0 (r := loadT Tryd.prog X 3 (ptr h.next 0)) (h' := X) (v := J m) (by kernel_rfl) (load1 agI gx rfl) ?_
  refine ok_go 3 ?_
  refine sy_load 0 (r := loadT Tryd.prog X 3 (ptr h.next 1)) (h' := X) (v := J v) (by kernel_rfl) (load1 agI gx rfl) ?_
  refine ok_go 5 ?_
  refine sy_load 0 (r := loadT Tryd.prog X 3 (ptr h.next 1)) (h' := X) (v := J v) (by kernel_rfl) (load1 agI gx rfl) ?_
  have hmv : (andI (Int.ofNat m) (Int.ofNat v) != Int.ofNat v) = !(v &&& m == v) := by rw [and_nat (by omega), ne_int, Nat.and_comm]; rfl
  refine ok_go 3 ?_
  refine sy_test 0 (andI (Int.ofNat m) (Int.ofNat v) != Int.ofNat v) (by kernel_rfl) ?_ ?_
  · intro hs
    have hs : (v &&& m == v) = false := by rw [hmv] at hs; simpa using hs
    refine ok_go 0 ?_
    exact sy_done 0 (v := .bool false) (h := X) (by kernel_rfl) ⟨by rw [hs]; rfl, X0⟩
  · intro hs
    have hs : (v &&& m == v) = true := by rw [hmv] at hs; simpa using hs
    rw [hs, Bool.true_and]
    refine ok_go 0 ?_
    refine sy_loop 0 lf X (α := Nat) (fun x => [(0, .slice (some ⟨b0, 0, none⟩) N c), (3, ptr h.next 0), (5, J x)]) (fun x g => x ≤ N ∧ al (im f m v) x = true ∧ g = X) (fun x _ => N - x) 0 (by kernel_rfl) (by kernel_rfl) ⟨by kernel_rfl, by kernel_rfl, by kernel_rfl, trivial⟩ (by omega) ⟨Nat.zero_le _, rfl, rfl⟩ ?_
    rintro m1 x f1 g ⟨hx, hal, rfl⟩ ih
    have hout : ∀ y, y < N → im f m v y = false → al (im f m v) N = false := fun y hy hf => by
      cases ha : al (im f m v) N with
      | false => rfl
      | true => have := al_iff.1 ha y hy; rw [hf] at this; cases this
    refine ok_go 2 ?_
    refine sy_test 0 (decide (Int.ofNat x < Int.ofNat N)) (by kernel_rfl) ?_ ?_
    · intro hlt
      have hlt := ok_nat hlt
      have hwx : IntKind.wrap .i64 (Int.ofNat (x + 1)) = Int.ofNat (x + 1) := wrap_nat (by omega)
      have hand : (andI (Int.ofNat x) (Int.ofNat m) == Int.ofNat v) = (x &&& m == v) := by rw [and_nat (by omega), eq_int]
      refine ok_go 1 ?_
      refine sy_load 0 (r := loadT Tryd.prog g 3 (ptr h.next 0)) (h' := g) (v := J m) (by kernel_rfl) (load1 agI gx rfl) ?_
      refine ok_go 2 ?_
      refine sy_load 0 (r := loadT Tryd.prog g 3 (ptr h.next 1)) (h' := g) (v := J v) (by kernel_rfl) (load1 agI gx rfl) ?_
      refine ok_go 1 ?_
      refine sy_test 0 (andI (Int.ofNat x) (Int.ofNat m) == Int.ofNat v) (by kernel_rfl) ?_ ?_
      · intro hd
        rw [hand] at hd
        refine ok_go 2 ?_
        refine sy_load 0 (r := indexAddrOp Tryd.prog 24 (.slice (some ⟨b0, 0, none⟩) N c) (J x)) (h' := g) (by kernel_rfl) (idxB hlt) ?_
        refine ok_go 1 ?_
        refine sy_load 0 (r := loadT Tryd.prog g 4 (ptr b0 x)) (h' := g) (by kernel_rfl) (A1.read hlt) ?_
        refine ok_go 3 ?_
        refine sy_test 0 (!f x) (by kernel_rfl) ?_ ?_
        · intro hf
          refine ok_go 0 ?_
          exact sy_done 0 (v := .bool false) (h := g) (by kernel_rfl) ⟨by rw [hout x hlt (by rw [im, hd, hf]; rfl)], X0⟩
        · intro hf
          refine ok_go 1 ?_
          exact sy_next 0 _ g (by kernel_rfl) (by kernel_rfl) (ih (x + 1) _ g ⟨hlt, by rw [al, hal, im, hd, hf]; rfl, rfl⟩ (show N - (x + 1) < N - x by omega) ⟨by kernel_rfl, by kernel_rfl, (by kernel_rfl : _ = Value.int .i64 (IntKind.wrap .i64 (Int.ofNat (x + 1)))).trans (by rw [hwx]), trivial⟩)
      · intro hd
        rw [hand] at hd
        refine ok_go 7 ?_
        exact sy_next 0 _ g (by kernel_rfl) (by kernel_rfl) (ih (x + 1) _ g ⟨hlt, by rw [al, hal, im, hd]; rfl, rfl⟩ (show N - (x + 1) < N - x by omega) ⟨by kernel_rfl, by kernel_rfl, (by kernel_rfl : _ = Value.int .i64 (IntKind.wrap .i64 (Int.ofNat (x + 1)))).trans (by rw [hwx]), trivial⟩)
    · intro hlt
      have hlt := no_nat hlt
      have hxN : x = N := by omega
      subst hxN
      refine ok_go 0 ?_
      exact sy_done 0 (v := .bool true) (h := g) (by kernel_rfl) ⟨by rw [hal], X0⟩
theorem im_cq (f : Nat → Bool) (N m v : Nat) (hv : v < N) (hs : v &&& m = v) : ((v &&& m == v) && al (im f m v) N) = (al (cq f m v) N && f v) := by
  rw [Bool.eq_iff_iff, Bool.and_eq_true, Bool.and_eq_true, al_iff, al_iff]
  constructor
  · rintro ⟨_, h⟩
    have hfv : f v = true := by
      have := h v hv
      unfold im at this
      rw [hs, beq_self_eq_true, Bool.true_and, Bool.not_not] at this
      exact this
    refine ⟨fun x hx => ?_, hfv⟩
    have := h x hx
    unfold im at this
    unfold cq
    rw [hfv]
    cases hd : (x &&& m == v)
    · unfold bne; rw [hd]; rfl
    · rw [hd, Bool.true_and, Bool.not_not] at this
      rw [this]; simp
  · rintro ⟨h, hfv⟩
    refine ⟨by rw [hs]; exact beq_self_eq_true v, fun x hx => ?_⟩
    have := h x hx
    unfold cq at this
    unfold im
    rw [hfv] at this
    cases hd : (x &&& m == v)
    · rfl
    · unfold bne at this
      rw [hd] at this
      cases hfx : f x
      · rw [hfx] at this; cases this
      · rfl
end Go.Proofs.YtnfboopfpkaeaaaDoor
namespace Go.Proofs.YtnfboopfpkaeaaaDoor
open Go Go.Eng Nim
set_option maxRecDepth 100000
set_option maxHeartbeats 4000000
/-- Who is given the parts, one a round. W: the blocks that are its own. -/
structure Cons (lf k L N : Nat) (I0 : Nat → List Nat → Hp → Prop) (I1 : Nat → Nat → List Nat → Hp → Prop) : Prop where
  own0 : ∀ m W q, I0 m W q → ∀ j ∈ W, j < q.next
  own1 : ∀ m s W q, I1 m s W q → ∀ j ∈ W, j < q.next
  st0 : ∀ m W q q', I0 m W q → q.next ≤ q'.next → (∀ j ∈ W, q'.get j = q.get j) → I0 m W q'
  st1 : ∀ m s W q q', I1 m s W q → q.next ≤ q'.next → (∀ j ∈ W, q'.get j = q.get j) → I1 m s W q'
  up : ∀ m W q, I1 m m W q → I0 (m + 1) W q
  y0 : ∀ m W q, m < N → I0 m W q → ∃ q' W', evInv Tryd.prog orc lf (k + 2) (.yield L [.agg #[J m, J 0]]) q = some (.bool true, q') ∧ I1 m 0 W' q' ∧ Exc W q q' ∧ ∀ j ∈ W', j ∈ W ∨ q.next ≤ j
  y1 : ∀ m s t W q, m < N → s < t → t ≤ m → t &&& m = t → (∀ v, s < v → v < t → v &&& m ≠ v) → I1 m s W q → ∃ q' W', evInv Tryd.prog orc lf k (.yield L [.agg #[J m, J t]]) q = some (.bool true, q') ∧ I1 m t W' q' ∧ Exc W q q' ∧ ∀ j ∈ W', j ∈ W ∨ q.next ≤ j
theorem within_val (m : Nat) (lf : Nat) (x : Nat) (h : Hp) : Ev lf (m + 1) 73 [J x] h = some (.func (.func 86) #[] #[ptr h.next 0], h.new (.cells [J x] 3 false)) := within_of m lf (Int.ofNat x) h
theorem parts_run (N : Nat) (hN : N ≤ 64) (lf k L b0 c bd bb : Nat) (hlf : 300 ≤ lf) {I0 : Nat → List Nat → Hp → Prop} {I1 : Nat → Nat → List Nat → Hp → Prop} (C : Cons lf k L N I0 I1) (W0 : List Nat) (h : Hp) (h0 : I0 0 W0 h) (hbb : bb < h.next) (hbw : bb ∉ W0) (gb : ∃ o, h.get bb = some (.cells [ptr bd 0] 50 o)) (D : Dcd bd b0 N c h) :
    ∃ v h' W', Ev lf (k + 3) 72 [.func (.yield L) #[] #[], ptr bb 0] h = some (v, h') ∧ I0 N W' h' ∧ Exc W0 h h' ∧ ∀ j ∈ W', j ∈ W0 ∨ h.next ≤ j := by
  have main : ∃ v h', Ev lf (k + 3) 72 [.func (.yield L) #[] #[], ptr bb 0] h = some (v, h') ∧ ∃ W', I0 N W' h' ∧ Exc W0 h h' ∧ ∀ j ∈ W', j ∈ W0 ∨ h.next ≤ j := by
    refine fnS_ok (Q := fun v h' => ∃ W', I0 N W' h' ∧ Exc W0 h h' ∧ ∀ j ∈ W', j ∈ W0 ∨ h.next ≤ j) ?_
    obtain ⟨ob, gb⟩ := gb
    have X0 : h.Ext (h.new (.cells [.func (.yield L) #[] #[]] 73 false)) := Hp.Ext.new _ _
    have gy := get_new h (.cells [.func (.yield L) #[] #[]] 73 false)
    have nX : (h.new (.cells [.func (.yield L) #[] #[]] 73 false)).next = h.next + 1 := rfl
    have gbX := X0.at_ hbb gb
    have DX := D.ext X0
    refine ok_go 1 ?_
    refine sy_load 0 (r := loadT Tryd.prog (h.new (.cells [.func (.yield L) #[] #[]] 73 false)) 50 (ptr bb 0)) (h' := h.new (.cells [.func (.yield L) #[] #[]] 73 false)) (v := ptr bd 0) (by kernel_rfl) (load1 (by kernel_rfl) gbX rfl) ?_
    have OX : ∀ j, j < h.next → (h.new (.cells [.func (.yield L) #[] #[]] 73 false)).get j = h.get j := fun j hj => X0.get j hj
    generalize h.new (.cells [.func (.yield L) #[] #[]] 73 false) = X at X0 gy nX gbX DX OX ⊢
    refine ok_go 2 ?_
    refine sy_load 0 (r := loadT Tryd.prog X 24 (ptr bd 0)) (h' := X) (by kernel_rfl) DX.read ?_
    have hW0 := C.own0 _ _ _ h0
    refine ok_go 1 ?_
    refine sy_loop 0 lf X (α := Nat × List Nat × List Nat) (fun s => [(2, ptr h.next 0), (9, J N), (10, J s.1), (slotD, marksV s.2.2)])
      (fun s g => s.1 ≤ N ∧ I0 s.1 s.2.1 g ∧ Exc W0 h g ∧ (∀ j ∈ s.2.1, j ∈ W0 ∨ h.next < j) ∧ (h.next < g.next ∧ g.get h.next = some (.cells [.func (.yield L) #[] #[]] 73 false)) ∧ s.2.2.Nodup ∧ ∀ d ∈ s.2.2, h.next < d ∧ d < g.next ∧ d ∉ s.2.1 ∧ g.get d = some (.defd false)) (fun s _ => N - s.1) (0, W0, []) (by kernel_rfl) (by kernel_rfl)
      ⟨by kernel_rfl, by kernel_rfl, by kernel_rfl, by kernel_rfl, trivial⟩ (show N - 0 < lf by omega) ⟨Nat.zero_le _, C.st0 _ _ _ _ h0 (by omega) (fun j hj => OX j (hW0 j hj)), ⟨by omega, fun j hj _ => OX j hj⟩, fun j hj => .inl hj, ⟨by omega, gy⟩, List.nodup_nil, fun d hd => by cases hd⟩ ?_
    rintro m1 ⟨m, W, ds⟩ f1 g ⟨hm, hI, EX, hW, ⟨hby, gy'⟩, nd, hds⟩ ih
    dsimp only at hm hI hW nd hds
    refine ok_go 1 ?_
    refine sy_test 0 (decide (Int.ofNat m < Int.ofNat N)) (by kernel_rfl) ?_ ?_
    · intro hlt
      have hlt := ok_nat hlt
      have hWg := C.own0 _ _ _ hI
      let g1 : Hp := g.new (.cells [I 0] 3 false)
      let g2 : Hp := g1.put g.next (.cells [J m] 3 false)
      have k1 : g1.get g.next = some (.cells [I 0] 3 false) := get_new _ _
      have k2 : g2.get g.next = some (.cells [J m] 3 false) := get_put _ _ _
      have n2 : g2.next = g.next + 1 := rfl
      have o2 : ∀ j, j < g.next → g2.get j = g.get j := fun j hj => by
        simp only [g2, g1, gn, gp]
        repeat (first | rw [if_pos (by omega)] | rw [if_neg (by omega)])
      have hI2 : I0 m W g2 := C.st0 _ _ _ _ hI (by omega) (fun j hj => o2 j (hWg j hj))
      obtain ⟨q, W', ey, hI1, Eq, hW'⟩ := C.y0 m W g2 hlt hI2
      have nq := Eq.next
      have hWx : ∀ j ∈ W', j ≠ h.next ∧ j ≠ g.next ∧ (j ∈ W0 ∨ h.next < j) := fun j hj => by
        rcases hW' j hj with h1 | h1
        · have h3 := hWg j h1
          rcases hW j h1 with h2 | h2
          · have := hW0 j h2
            exact ⟨by omega, by omega, .inl h2⟩
          · exact ⟨by omega, by omega, .inr h2⟩
        · exact ⟨by omega, by omega, .inr (by omega)⟩
      have hbyW : h.next ∉ W := fun hc => by
        rcases hW _ hc with h2 | h2
        · have := hW0 _ h2; omega
        · omega
      have qy : q.get h.next = some (.cells [.func (.yield L) #[] #[]] 73 false) := by rw [Eq.get _ (by omega) hbyW, o2 _ hby]; exact gy'
      have qx : q.get g.next = some (.cells [J m] 3 false) := by rw [Eq.get _ (by omega) (fun hc => by have := hWg _ hc; omega)]; exact k2
      have qd : ∀ d ∈ ds, d ∉ W' ∧ q.get d = some (.defd false) := fun d hd => by
        obtain ⟨d1, d2, d3, d4⟩ := hds d hd
        refine ⟨fun hc => ?_, by rw [Eq.get _ (by omega) d3, o2 _ d2]; exact d4⟩
        rcases hW' d hc with h1 | h1
        · exact d3 h1
        · omega
      have EXq : Exc W0 h q := ⟨by have := EX.next; omega, fun j hj hjw => by
        rw [Eq.get j (by omega) (fun hc => by
          rcases hW j hc with h2 | h2
          · exact hjw h2
          · omega), o2 j (by have := EX.next; omega)]
        exact EX.get j hj hjw⟩
      refine ok_go 1 ?_
      refine sy_store 0 (r := storeT Tryd.prog g1 3 (ptr g.next 0) (J m)) (h' := g2) (by kernel_rfl) (store1 zI rfl k1 (show 0 < 1 by omega)) ?_
      have y2 : g2.get h.next = some (.cells [.func (.yield L) #[] #[]] 73 false) := by rw [o2 _ hby]; exact gy'
      refine ok_go 0 ?_
      refine sy_load 0 (r := loadT Tryd.prog g2 73 (ptr h.next 0)) (h' := g2) (v := .func (.yield L) #[] #[]) (by kernel_rfl) (load1 (by kernel_rfl) y2 rfl) ?_
      refine ok_go 0 ?_
      refine sy_load 0 (r := loadT Tryd.prog g2 3 (ptr g.next 0)) (h' := g2) (v := J m) (by kernel_rfl) (load1 agI k2 rfl) ?_
      refine ok_go 1 ?_
      refine sy_call 0 (by kernel_rfl) ey ?_
      refine ok_go 2 ?_
      refine sy_load 0 (r := loadT Tryd.prog q 3 (ptr g.next 0)) (h' := q) (v := J m) (by kernel_rfl) (load1 agI qx rfl) ?_
      let g5 : Hp := q.new (.cells [J m] 3 false)
      have n5 : g5.next = q.next + 1 := rfl
      have hm64 : m < 64 := by omega
      refine ok_go 1 ?_
      refine sy_range 0 (callF := evInv Tryd.prog orc lf (k + 2)) (P := Tryd.prog) (lf := lf) (m := 28) (rcOf Tryd.prog 72 0) g5 [(2, ptr h.next 0), (3, ptr g.next 0)] 86 [.func (.yield (g5.next + 1)) #[] #[], ptr q.next 0]
        (by kernel_rfl) (fun F => by kernel_rfl) ⟨by kernel_rfl, by kernel_rfl, trivial⟩ (by kernel_rfl) (by kernel_rfl) fun F f2 hr => ?_
      let CC := rcOf Tryd.prog 72 0
      let HH : Hp := CC.heap F g5
      have nH : HH.next = q.next + 3 := rfl
      have oH : ∀ j, j < q.next → HH.get j = q.get j := fun j hj => by
        simp only [HH, g5, RC.heap, gn, nn]
        repeat (first | rw [if_pos (by omega)] | rw [if_neg (by omega)])
      have HB : HH.get q.next = some (.cells [J m] 3 false) := by
        simp only [HH, g5, RC.heap, gn, nn, if_true]
        repeat (first | rw [if_pos (by omega)] | rw [if_neg (by omega)])
      have HD : HH.get (q.next + 1) = some (.defd false) := by
        simp only [HH, g5, RC.heap, gn, nn, if_true]
        repeat (first | rw [if_pos (by omega)] | rw [if_neg (by omega)])
      have HL : HH.get (q.next + 2) = some (CC.obj F (q.next + 1) .ready none) := by
        simp only [HH, g5, RC.heap, gn, nn, if_true]
      have hV0 := C.own1 _ _ _ _ hI1
      have EH : Exc W0 h HH := ⟨by have := EXq.next; omega, fun j hj hjw => by rw [oH j (by omega)]; exact EXq.get j hj hjw⟩
      let Inv : Nat → Hp → Prop := fun s r => ∃ V, I1 m s V r ∧ (∀ j ∈ V, j ∈ W0 ∨ h.next < j) ∧ (h.next ∉ V ∧ g.next ∉ V ∧ q.next ∉ V ∧ q.next + 1 ∉ V ∧ q.next + 2 ∉ V ∧ ∀ e ∈ ds, e ∉ V) ∧ q.next + 3 ≤ r.next ∧ Exc W0 h r ∧
        r.get h.next = some (.cells [.func (.yield L) #[] #[]] 73 false) ∧ r.get g.next = some (.cells [J m] 3 false) ∧ r.get q.next = some (.cells [J m] 3 false) ∧ r.get (q.next + 1) = some (.defd false) ∧ r.get (q.next + 2) = some (CC.obj F (q.next + 1) .ready none) ∧ ∀ e ∈ ds, r.get e = some (.defd false)
      have hdq : ∀ e ∈ ds, h.next < e ∧ e < g.next := fun e he => ⟨(hds e he).1, (hds e he).2.1⟩
      have hb : ∀ s r, Inv s r → loadT Tryd.prog r 3 (ptr q.next 0) = some (J m) := fun s r ⟨V, i1, i2, i3, i4, i5, i6, i7, i8, _⟩ => load1 agI i8 rfl
      have hy : ∀ s t r, s < t → t ≤ m → t &&& m = t → (∀ v, s < v → v < t → v &&& m ≠ v) → Inv s r → ∃ g', evInv Tryd.prog orc lf (k + 1) (.yield (q.next + 2) [J t]) r = some (.bool true, g') ∧ Inv t g' := fun s t r hst htm hts hbt ⟨V, i1, i2, ⟨j1, j2, j3, j4, j5, j6⟩, i4, i5, i6, i7, i8, i9, i10, i11⟩ => by
        have key : ∃ v g', evInv Tryd.prog orc lf (k + 1) (.yield (q.next + 2) [J t]) r = some (v, g') ∧ (v = .bool true ∧ Inv t g') := by
          refine yld_ok (c := CC) (Q := fun v g' => v = .bool true ∧ Inv t g') hr i10 (by kernel_rfl) ?_
          refine ok_go 0 ?_
          refine sy_busy 0 (by kernel_rfl) i10 ?_
          have R' : ∀ j, j ≠ q.next + 2 → (r.put (q.next + 2) (CC.obj F (q.next + 1) .busy none)).get j = r.get j := fun j hj => Hp.get_put_ne hj
          have Rl : (r.put (q.next + 2) (CC.obj F (q.next + 1) .busy none)).get (q.next + 2) = some (CC.obj F (q.next + 1) .busy none) := get_put _ _ _
          have nr' : (r.put (q.next + 2) (CC.obj F (q.next + 1) .busy none)).next = r.next := rfl
          generalize r.put (q.next + 2) (CC.obj F (q.next + 1) .busy none) = r' at R' Rl nr' ⊢
          have I1' : I1 m s V r' := C.st1 _ _ _ _ _ i1 (by omega) (fun j hj => R' j (fun e => j5 (e ▸ hj)))
          have hVr := C.own1 _ _ _ _ I1'
          obtain ⟨r2, V2, ey2, I2, E2, hV2⟩ := C.y1 m s t V r' hlt hst htm hts hbt I1'
          have nr2 := E2.next
          have kp : ∀ j, j < r.next → j ∉ V → j ≠ q.next + 2 → r2.get j = r.get j := fun j hj hv hl => by rw [E2.get j (by omega) hv]; exact R' j hl
          have nv : ∀ j, j ∉ V → j < r.next → j ∉ V2 := fun j hj hl hc => by
            rcases hV2 j hc with h1 | h1
            · exact hj h1
            · omega
          refine ok_go 0 ?_
          refine sy_load 0 (r := loadT Tryd.prog r' 73 (ptr h.next 0)) (h' := r') (v := .func (.yield L) #[] #[]) (by kernel_rfl) (load1 (by kernel_rfl) (by rw [R' _ (by omega)]; exact i6) rfl) ?_
          refine ok_go 0 ?_
          refine sy_load 0 (r := loadT Tryd.prog r' 3 (ptr g.next 0)) (h' := r') (v := J m) (by kernel_rfl) (load1 agI (by rw [R' _ (by omega)]; exact i7) rfl) ?_
          refine ok_go 1 ?_
          refine sy_call 0 (by kernel_rfl) ey2 ?_
          have L2 : r2.get (q.next + 2) = some (CC.obj F (q.next + 1) .busy none) := by rw [E2.get _ (by omega) j5]; exact Rl
          refine ok_go 2 ?_
          refine sy_round 0 (by kernel_rfl) L2 ?_
          have P2 : ∀ j, j ≠ q.next + 2 → (r2.put (q.next + 2) (CC.obj F (q.next + 1) .ready none)).get j = r2.get j := fun j hj => Hp.get_put_ne hj
          refine ok_go 0 ?_
          refine sy_done 0 (v := .bool true) (h := r2.put (q.next + 2) (CC.obj F (q.next + 1) .ready none)) (by kernel_rfl) ⟨rfl, V2, C.st1 _ _ _ _ _ I2 (Nat.le_refl _) (fun j hj => P2 j (fun e => nv _ j5 (by omega) (e ▸ hj))), fun j hj => ?_, ⟨nv _ j1 (by omega), nv _ j2 (by omega), nv _ j3 (by omega), nv _ j4 (by omega), nv _ j5 (by omega), fun e he => nv _ (j6 e he) (by have := hdq e he; omega)⟩, by show _ ≤ r2.next; omega, ⟨by show _ ≤ r2.next; have := i5.next; omega, fun j hj hjw => ?_⟩, ?_, ?_, ?_, ?_, get_put _ _ _, fun e he => ?_⟩
          · rcases hV2 j hj with h1 | h1
            · exact i2 j h1
            · exact .inr (by omega)
          · rw [P2 j (by omega), kp j (by omega) (fun hc => by
              rcases i2 j hc with h1 | h1
              · exact hjw h1
              · omega) (by omega)]
            exact i5.get j hj hjw
          · rw [P2 _ (by omega), kp _ (by omega) j1 (by omega)]; exact i6
          · rw [P2 _ (by omega), kp _ (by omega) j2 (by omega)]; exact i7
          · rw [P2 _ (by omega), kp _ (by omega) j3 (by omega)]; exact i8
          · rw [P2 _ (by omega), kp _ (by omega) j4 (by omega)]; exact i9
          · have := hdq e he
            rw [P2 _ (by omega), kp _ (by omega) (j6 e he) (by omega)]; exact i11 e he
        obtain ⟨v, g', e, rfl, hI⟩ := key
        exact ⟨g', e, hI⟩
      obtain ⟨v, h3, ev, hI3⟩ := within_run lf (k + 1) q.next (q.next + 2) m hm64 hlf Inv (fun _ => False) hb (fun s t q h1 h2 h3 h4 hq => .inl (hy s t q h1 h2 h3 h4 hq)) (h := HH)
        ⟨W', C.st1 _ _ _ _ _ hI1 (by omega) (fun j hj => oH j (hV0 j hj)), fun j hj => (hWx j hj).2.2, ⟨fun hc => (hWx _ hc).1 rfl, fun hc => (hWx _ hc).2.1 rfl, fun hc => by have := hV0 _ hc; omega, fun hc => by have := hV0 _ hc; omega, fun hc => by have := hV0 _ hc; omega, fun e he => (qd e he).1⟩, by omega, EH, by rw [oH _ (by omega)]; exact qy, by rw [oH _ (by omega)]; exact qx, HB, HD, HL, fun e he => by rw [oH _ (by have := hdq e he; omega)]; exact (qd e he).2⟩
      obtain ⟨V, i1, i2, ⟨j1, j2, j3, j4, j5, j6⟩, i4, i5, i6, i7, i8, i9, i10, i11⟩ := hI3.resolve_right id
      refine ⟨v, h3, .ready, none, q.next + 1, .normal, ev, i10, by decide, rfl, ?_⟩
      let h4 : Hp := h3.put (q.next + 2) (CC.obj F (q.next + 1) .exhausted none)
      have P4 : ∀ j, j ≠ q.next + 2 → h4.get j = h3.get j := fun j hj => Hp.get_put_ne hj
      refine ok_go 1 ?_
      exact sy_next 0 _ h4 (by kernel_rfl) (by kernel_rfl) (ih (m + 1, V, (q.next + 1) :: ds) _ h4 ⟨hlt, C.st0 _ _ _ _ (C.up _ _ _ i1) (Nat.le_refl _) (fun j hj => P4 j (fun e => j5 (e ▸ hj))), ⟨i5.next, fun j hj hjw => by rw [P4 j (by omega)]; exact i5.get j hj hjw⟩, i2, ⟨by show _ < h3.next; omega, by rw [P4 _ (by omega)]; exact i6⟩, List.nodup_cons.2 ⟨fun hd => by have := hdq _ hd; omega, nd⟩, fun d hd => by
          rcases List.mem_cons.1 hd with rfl | hd
          · exact ⟨by omega, by show _ < h3.next; omega, j4, by rw [P4 _ (by omega)]; exact i9⟩
          · have := hdq d hd
            exact ⟨by omega, by show _ < h3.next; omega, j6 d hd, by rw [P4 _ (by omega)]; exact i11 d hd⟩⟩ (show N - (m + 1) < N - m by omega)
        ⟨by kernel_rfl, by kernel_rfl, (by kernel_rfl : _ = Value.int .i64 (IntKind.wrap .i64 (Int.ofNat (m + 1)))).trans (by rw [wrap_nat (by omega)]), by kernel_rfl, trivial⟩)
    · intro hlt
      have hlt := no_nat hlt
      have hmN : m = N := by omega
      subst hmN
      refine ok_go 0 ?_
      refine sy_marks 0 (h := g) ds (by kernel_rfl) nd (fun d hd => (hds d hd).2.2.2) fun h' n'' o'' => ?_
      refine ok_go 0 ?_
      refine sy_done 0 (v := undef) (h := h') (by kernel_rfl) ⟨W, C.st0 _ _ _ _ hI (by omega) (fun j hj => o'' j (fun hd => (hds j hd).2.2.1 hj)), ⟨by have := EX.next; omega, fun j hj hjw => ?_⟩, fun j hj => (hW j hj).imp (fun h => h) (fun h => by omega)⟩
      rw [o'' j (fun hd => by have := (hds j hd).1; omega)]
      exact EX.get j hj hjw
  obtain ⟨v, h', e, W', r⟩ := main
  exact ⟨v, h', W', e, r⟩
end Go.Proofs.YtnfboopfpkaeaaaDoor
namespace Go.Proofs.YtnfboopfpkaeaaaDoor
open Go Go.Eng Nim
set_option maxRecDepth 100000
set_option maxHeartbeats 4000000
/-- A type of slices whose elements have two cells. -/
structure S2T (P : Program) (t e : TypeId) : Prop where
  u : P.underlying t = some (.slice e)
  s : sizeT P e = some 2
  i : ∃ inf, P.info? e = some inf ∧ Nat.ble inf.bytes 4096 = true
  z : ∃ z, zeroOf P e = some z ∧ Nat.beq z.cells.size 2 = true
def flat2 : List (Nat × Nat) → List Value
  | [] => []
  | p :: r => J p.1 :: J p.2 :: flat2 r
theorem flat2_len : ∀ l, (flat2 l).length = l.length * 2
  | [] => rfl
  | p :: r => by simp only [flat2, List.length_cons, flat2_len r]; omega
theorem flat2_app : ∀ (l : List (Nat × Nat)) (p : Nat × Nat), flat2 (l ++ [p]) = flat2 l ++ [J p.1, J p.2]
  | [], p => rfl
  | q :: r, p => by show J q.1 :: J q.2 :: flat2 (r ++ [p]) = _; rw [flat2_app r p]; rfl
theorem flat2_at : ∀ (l : List (Nat × Nat)) (k : Nat) (p : Nat × Nat), l[k]? = some p → (flat2 l).drop (k * 2) = J p.1 :: J p.2 :: (flat2 l).drop ((k + 1) * 2)
  | [], k, p, h => by cases h
  | q :: r, 0, p, h => by cases h; rfl
  | q :: r, k + 1, p, h => by
    rw [show (k + 1) * 2 = k * 2 + 2 by omega, show (k + 1 + 1) * 2 = (k + 1) * 2 + 2 by omega]
    exact flat2_at r k p h
/-- A slice of pairs that appends alone have made (or nil), and what it holds. -/
def OpenP (h : Hp) (e : TypeId) (l : Value) (ps : List (Nat × Nat)) : Prop :=
  (l = .slice none 0 0 ∧ ps = []) ∨ ∃ i, l = .slice (some ⟨i, 0, none⟩) ps.length (2 * ps.length + 1) ∧ ps ≠ [] ∧ i < h.next ∧ h.get i = some (.cells (flat2 ps) e true)
theorem OpenP.shape {h : Hp} {e : TypeId} {l : Value} {ps : List (Nat × Nat)} (hl : OpenP h e l ps) : ∃ a c, l = .slice a ps.length c := by
  rcases hl with ⟨rfl, rfl⟩ | ⟨i, rfl, _⟩ <;> exact ⟨_, _, rfl⟩
theorem append2 {P : Program} {h : Hp} {t e : TypeId} {l : Value} {ps : List (Nat × Nat)} {a b : Nat} (hT : S2T P t e) (hl : OpenP h e l ps) (hn : ps.length < 8388608) :
    ∃ l' h', appendOp P (h.new (.cells [J a, J b] e false)) t l (.slice (some ⟨h.next, 0, none⟩) 1 2) = some (l', h') ∧ OpenP h' e l' (ps ++ [(a, b)]) ∧ h.next ≤ h'.next ∧
      (∀ j, j < h.next → (∀ n c, l ≠ .slice (some ⟨j, 0, none⟩) n c) → h'.get j = h.get j) ∧ (∀ j, j < h.next → ∀ n c, l' ≠ .slice (some ⟨j, 0, none⟩) n c) := by
  obtain ⟨inf, hi1, hi2⟩ := hT.i
  obtain ⟨z, hz1, hz2⟩ := hT.z
  have hel : elems (h.new (.cells [J a, J b] e false)) 2 1 (.slice (some ⟨h.next, 0, none⟩) 1 2) = some [J a, J b] := by
    simp only [elems, loadN, get_new, List.drop_zero, takeN]
  have hall : [J a, J b].all scalar = true := rfl
  have hnx : (h.new (.cells [J a, J b] e false)).next = h.next + 1 := rfl
  rcases hl with ⟨rfl, rfl⟩ | ⟨i, rfl, hne, hlt, hg⟩
  · refine ⟨_, _, by simp only [appendOp, hT.u, hT.s, hi1, hz1, lenV, hel, hz2, hi2, hall]; rfl, .inr ⟨h.next + 1, rfl, by simp, ?_, ?_⟩, ?_, ?_, ?_⟩
    · show h.next + 1 < h.next + 1 + 1
      omega
    · exact get_new (h.new (.cells [J a, J b] e false)) _
    · show h.next ≤ h.next + 1 + 1
      omega
    · intro j hj _
      rw [Hp.get_new_ne (by rw [hnx]; omega), Hp.get_new_ne (by omega)]
    · intro j hj n c hc
      injection hc with h1
      injection h1 with h1
      injection h1 with h1
      have h1 : h.next + 1 = j := h1
      omega
  · have h1 : Nat.ble (ps.length + 1) most = true := Nat.ble_eq_true_of_le (by unfold most; omega)
    have h2 : Nat.ble (ps.length + 1) ((2 * ps.length + 1) / 2) = false := by
      cases hb : Nat.ble (ps.length + 1) ((2 * ps.length + 1) / 2) with
      | false => rfl
      | true => have := Nat.le_of_ble_eq_true hb; omega
    have hgi : (h.new (.cells [J a, J b] e false)).get i = some (.cells (flat2 ps) e true) := by rw [Hp.get_new_ne (by omega)]; exact hg
    have h3 : loadN (h.new (.cells [J a, J b] e false)) i 0 (ps.length * 2) = some (flat2 ps) := by
      simp only [loadN, hgi, List.drop_zero]
      rw [← flat2_len]
      exact takeN_all _
    have h4 : Nat.beq ((2 * ps.length + 1) % 2) 0 = false := by
      rw [show (2 * ps.length + 1) % 2 = 1 by omega]
      rfl
    have h5 : (Nat.beq e e && Nat.beq (flat2 ps).length ((2 * ps.length + 1) / 2 * 2)) = true := by
      rw [flat2_len, show (2 * ps.length + 1) / 2 = ps.length by omega]
      simp
    refine ⟨.slice (some ⟨h.next + 1, 0, none⟩) (ps.length + 1) (2 * (ps.length + 1) + 1), ((h.new (.cells [J a, J b] e false)).kill i).new (.cells (flat2 ps ++ [J a, J b]) e true), ?_, .inr ⟨h.next + 1, by simp, by simp, ?_, ?_⟩, ?_, ?_, ?_⟩
    · simp only [appendOp, hT.u, hT.s, hi1, hz1, lenV, hel, hz2, hi2, hall, h1, h2, h3, h4, hgi, h5]
      rfl
    · show h.next + 1 < h.next + 1 + 1
      omega
    · rw [flat2_app]
      exact get_new ((h.new (.cells [J a, J b] e false)).kill i) _
    · show h.next ≤ h.next + 1 + 1
      omega
    · intro j hj hne
      have hji : j ≠ i := fun hc => hne _ _ (by rw [hc])
      rw [Hp.get_new_ne (by show j ≠ h.next + 1; omega), Hp.get_kill_ne hji, Hp.get_new_ne (by omega)]
    · intro j hj n c hc
      injection hc with h1
      injection h1 with h1
      injection h1 with h1
      omega
theorem s49 : S2T Tryd.prog 49 75 := ⟨by kernel_rfl, by kernel_rfl, ⟨_, rfl, by kernel_rfl⟩, ⟨_, rfl, by kernel_rfl⟩⟩
theorem s27 : S2T Tryd.prog 27 23 := ⟨by kernel_rfl, by kernel_rfl, ⟨_, rfl, by kernel_rfl⟩, ⟨_, rfl, by kernel_rfl⟩⟩
/-- Reading one element. -/
theorem OpenP.read {t e : TypeId} {h : Hp} {l : Value} {ps : List (Nat × Nat)} {k : Nat} {p : Nat × Nat} (hT : S2T Tryd.prog t e) (ha : isAggT Tryd.prog e = some true) (hl : OpenP h e l ps) (hk : ps[k]? = some p) :
    ∃ q, indexAddrOp Tryd.prog t l (J k) = some q ∧ loadT Tryd.prog h e q = some (.agg #[J p.1, J p.2]) := by
  have hlt : k < ps.length := (List.getElem?_eq_some_iff.1 hk).1
  rcases hl with ⟨rfl, rfl⟩ | ⟨i, rfl, _, _, hg⟩
  · cases hk
  · refine ⟨ptr i (0 + k * 2), idxSl hT.u hT.s hlt, ?_⟩
    simp only [ptr, loadT, ha, hT.s, loadN, hg, Nat.zero_add, flat2_at ps k p hk, takeN]

/-! Which parts are taken, and the list of them. -/
def rowP (pr : Nat → Nat → Bool) (m : Nat) : Nat → List (Nat × Nat)
  | 0 => []
  | k + 1 => if (sub k m && pr m k) = true then rowP pr m k ++ [(m, k)] else rowP pr m k
def accP (pr : Nat → Nat → Bool) : Nat → List (Nat × Nat)
  | 0 => []
  | m + 1 => accP pr m ++ rowP pr m (m + 1)
theorem rowP_skip (pr : Nat → Nat → Bool) (m s : Nat) : ∀ t, s ≤ t → (∀ v, s ≤ v → v < t → sub v m = false) → rowP pr m t = rowP pr m s
  | 0, h, _ => by rw [show s = 0 by omega]
  | t + 1, h, hv => by
    by_cases e : s = t + 1
    · rw [e]
    · rw [rowP, hv t (by omega) (Nat.lt_succ_self _)]
      exact rowP_skip pr m s t (by omega) fun v h1 h2 => hv v h1 (by omega)
theorem rowP_len (pr : Nat → Nat → Bool) (m : Nat) : ∀ k, (rowP pr m k).length ≤ k
  | 0 => Nat.le_refl _
  | k + 1 => by
    have := rowP_len pr m k
    rw [rowP]
    split
    · rw [List.length_append, List.length_singleton]; omega
    · omega
theorem accP_len (pr : Nat → Nat → Bool) : ∀ m, m ≤ 64 → (accP pr m).length ≤ m * 65
  | 0, _ => Nat.le_refl _
  | m + 1, h => by
    have h1 := accP_len pr m (by omega)
    have h2 := rowP_len pr m (m + 1)
    rw [accP, List.length_append]
    omega
noncomputable def notG (a b : Nat) : Bool := decide (notI (Int.ofNat a) (Int.ofNat b) = Int.ofNat (a ^^^ (a &&& b)))
theorem notG_all : allB 64 (fun a => allB 64 fun b => notG a b) = true := by kernel_rfl
theorem not_gen {a b : Nat} (ha : a < 64) (hb : b < 64) : notI (Int.ofNat a) (Int.ofNat b) = Int.ofNat (a ^^^ (a &&& b)) := of_decide_eq_true (allB_ok (allB_ok notG_all a ha) b hb)
noncomputable def lesB (a b : Nat) : Bool := Nat.ble (a ^^^ (a &&& b)) a
theorem les_all : allB 64 (fun a => allB 64 fun b => lesB a b) = true := by kernel_rfl
theorem les {a b : Nat} (ha : a < 64) (hb : b < 64) : a ^^^ (a &&& b) ≤ a := Nat.le_of_ble_eq_true (allB_ok (allB_ok les_all a ha) b hb)
theorem sub_less {v m b : Nat} (h : v &&& m = v) : (v ^^^ (v &&& b)) &&& (m ^^^ (m &&& b)) = v ^^^ (v &&& b) := by
  refine Nat.eq_of_testBit_eq fun i => ?_
  have hi := congrArg (fun z => z.testBit i) h
  simp only [Nat.testBit_and, Nat.testBit_xor] at hi ⊢
  cases h1 : v.testBit i <;> cases h2 : m.testBit i <;> cases h3 : b.testBit i <;> simp_all
/-- Whether a part is an implicant. -/
def IM (f : Nat → Bool) (N m v : Nat) : Bool := al (cq f m v) N && f v
/-- Whether it is none without any of the first bits. -/
def pb (f : Nat → Bool) (N m v : Nat) : Nat → Bool
  | 0 => true
  | i + 1 => pb f N m v i && ((m &&& 2 ^ i == 0) || !IM f N (m ^^^ (m &&& 2 ^ i)) (v ^^^ (v &&& 2 ^ i)))
/-- Whether a part is a prime implicant. -/
def prm (f : Nat → Bool) (N n m v : Nat) : Bool := IM f N m v && pb f N m v n
end Go.Proofs.YtnfboopfpkaeaaaDoor
namespace Go.Proofs.YtnfboopfpkaeaaaDoor
open Go Go.Eng Nim
set_option maxRecDepth 100000
set_option maxHeartbeats 4000000
/-- The block of a slice. -/
def lw : Value → List Nat
  | .slice (some ⟨i, _, _⟩) _ _ => [i]
  | _ => []
theorem OpenP.lw {h : Hp} {e : TypeId} {l : Value} {ps : List (Nat × Nat)} (H : OpenP h e l ps) : (l = .slice none 0 0 ∧ ps = [] ∧ lw l = []) ∨ ∃ i n c, l = .slice (some ⟨i, 0, none⟩) n c ∧ lw l = [i] ∧ i < h.next := by
  rcases H with ⟨rfl, rfl⟩ | ⟨i, rfl, _, hi, _⟩
  · exact .inl ⟨rfl, rfl, rfl⟩
  · exact .inr ⟨i, _, _, rfl, rfl, hi⟩
theorem OpenP.of {h g : Hp} {e : TypeId} {l : Value} {ps : List (Nat × Nat)} (H : OpenP h e l ps) (hn : h.next ≤ g.next) (hg : ∀ i n c, l = .slice (some ⟨i, 0, none⟩) n c → g.get i = h.get i) : OpenP g e l ps := by
  rcases H with H | ⟨i, rfl, h1, h2, h3⟩
  · exact .inl H
  · exact .inr ⟨i, rfl, h1, by omega, by rw [hg i _ _ rfl]; exact h3⟩
theorem store2 {P : Program} {h : Hp} {t : TypeId} {i a b : Nat} {cs : List Value} {e : TypeId} {o : Bool} (hs : sizeT P t = some 2) (hg : h.get i = some (.cells cs e o)) (hc : cs.length = 2) : storeT P h t (ptr i 0) (.agg #[J a, J b]) = some (h.put i (.cells [J a, J b] e o)) := by
  have hb : Nat.ble (0 + [J a, J b].length) cs.length = true := by rw [hc]; rfl
  have hv : (Value.agg #[J a, J b]).cells.toList = [J a, J b] := rfl
  have hz : Nat.beq (Value.agg #[J a, J b]).cells.size 2 = true := rfl
  simp only [storeT, hs, hz, hv, storeN, hg, hb]
  unfold splice
  rw [List.take_zero, List.drop_eq_nil_of_le (by simp [hc])]
  rfl
theorem load2 {P : Program} {h : Hp} {t : TypeId} {i : Nat} {a b : Value} {e : TypeId} {o : Bool} (ha : isAggT P t = some true) (hs : sizeT P t = some 2) (hg : h.get i = some (.cells [a, b] e o)) : loadT P h t (ptr i 0) = some (.agg #[a, b]) := by
  simp only [ptr, loadT, ha, hs, loadN, hg, List.drop_zero, takeN]
/-- What the loop over the parts holds: a list of parts in oB. -/
structure St (f : Nat → Bool) (N c b0 bd b1 oB L d : Nat) (CC : RC) (F : Fm) (l : Value) (ps : List (Nat × Nat)) (q : Hp) : Prop where
  loop : L < q.next ∧ q.get L = some (CC.obj F d .ready none)
  out : oB < q.next ∧ ∃ o, q.get oB = some (.cells [l] 49 o)
  list : OpenP q 75 l ps
  far : ∀ j ∈ [b0, bd, b1, oB, L], ∀ n c, l ≠ .slice (some ⟨j, 0, none⟩) n c
  box : b1 < q.next ∧ ∃ o, q.get b1 = some (.cells [ptr bd 0] 50 o)
  dcd : Dcd bd b0 N c q
  arr : ArB b0 N f q
theorem agP : isAggT Tryd.prog 75 = some true := by kernel_rfl
theorem szP : sizeT Tryd.prog 75 = some 2 := by kernel_rfl
/-- One part more. -/
theorem round22 (f : Nat → Bool) (n : Nat) (hn : n ≤ 6) (lf m b0 c bd b1 oB L d : Nat) (hlf : 300 ≤ lf) (hdist : oB ≠ L ∧ b1 ≠ oB ∧ b1 ≠ L ∧ bd ≠ oB ∧ bd ≠ L ∧ b0 ≠ oB ∧ b0 ≠ L)
    (io : ∀ F mm v h, (F = m + 2 ∨ F = m) → mm < 64 → v < 2 ^ n → ArB b0 (2 ^ n) f h → Dcd bd b0 (2 ^ n) c h → ∃ y h', Ev lf F 35 [ptr bd 0, .agg #[J mm, J v]] h = some (y, h') ∧ y = .bool (IM f (2 ^ n) mm v) ∧ h.Ext h')
    (F : Fm) (f1 : Fr) (hr : Rel ⟨none, true⟩ 48 F (upds f1 [(1, ptr b1 0), (3, ptr oB 0)])) (q : Hp) (l : Value) (ps : List (Nat × Nat)) (mm v : Nat) (hm : mm < 2 ^ n) (hv : v < 2 ^ n) (hps : ps.length < 8388608)
    (S : St f (2 ^ n) c b0 bd b1 oB L d (rcOf Tryd.prog 22 0) F l ps q) :
    ∃ q' l', evInv Tryd.prog orc lf (m + 3) (.yield L [.agg #[J mm, J v]]) q = some (.bool true, q') ∧ St f (2 ^ n) c b0 bd b1 oB L d (rcOf Tryd.prog 22 0) F l' (if prm f (2 ^ n) n mm v = true then ps ++ [(mm, v)] else ps) q' ∧
      Exc ([oB, L] ++ lw l) q q' ∧ ∀ j ∈ lw l', j ∈ lw l ∨ q.next ≤ j := by
  have hp64 : 2 ^ n ≤ 64 := Nat.pow_le_pow_right (n := 2) (by decide) hn
  obtain ⟨⟨hLq, gL⟩, ⟨hoq, oo, gO⟩, lst, far, ⟨hbq, ob, gB⟩, D, A⟩ := S
  obtain ⟨d1, d2, d3, d4, d5, d6, d7⟩ := hdist
  let Qp : Value → Hp → Prop := fun w q' => w = .bool true ∧ ∃ l', St f (2 ^ n) c b0 bd b1 oB L d (rcOf Tryd.prog 22 0) F l' (if prm f (2 ^ n) n mm v = true then ps ++ [(mm, v)] else ps) q' ∧ Exc ([oB, L] ++ lw l) q q' ∧ ∀ j ∈ lw l', j ∈ lw l ∨ q.next ≤ j
  have key : ∃ w q', evInv Tryd.prog orc lf (m + 2 + 1) (.yield L [.agg #[J mm, J v]]) q = some (w, q') ∧ Qp w q' := by
    refine yld_ok (c := (rcOf Tryd.prog 22 0)) (Q := Qp) hr gL (by kernel_rfl) ?_
    let q1 : Hp := q.new (.cells [J 0, J 0] 75 false)
    let q2 : Hp := q1.put q.next (.cells [J mm, J v] 75 false)
    let q3 : Hp := q2.put L ((rcOf Tryd.prog 22 0).obj F d .busy none)
    have k1 : q1.get q.next = some (.cells [J 0, J 0] 75 false) := get_new _ _
    have kL : q2.get L = some ((rcOf Tryd.prog 22 0).obj F d .ready none) := by
      simp only [q2, q1, gn, gp]
      repeat (first | rw [if_pos (by omega)] | rw [if_neg (by omega)])
      exact gL
    have n3 : q3.next = q.next + 1 := rfl
    have o3 : ∀ j, j < q.next → j ≠ L → q3.get j = q.get j := fun j hj hl => by
      simp only [q3, q2, q1, gn, gp]
      repeat (first | rw [if_pos (by omega)] | rw [if_neg (by omega)])
    have x3 : q3.get q.next = some (.cells [J mm, J v] 75 false) := by
      simp only [q3, q2, q1, gn, gp, if_true]
      repeat (first | rw [if_pos (by omega)] | rw [if_neg (by omega)])
    have L3 : q3.get L = some ((rcOf Tryd.prog 22 0).obj F d .busy none) := get_put _ _ _
    refine ok_go 1 ?_
    refine sy_store 0 (r := storeT Tryd.prog q1 75 (ptr q.next 0) (.agg #[J mm, J v])) (h' := q2) (by kernel_rfl) (store2 szP k1 rfl) ?_
    refine ok_go 0 ?_
    refine sy_busy 0 (by kernel_rfl) kL ?_
    have B3 : q3.get b1 = some (.cells [ptr bd 0] 50 ob) := by rw [o3 _ hbq d3]; exact gB
    have D3 : Dcd bd b0 (2 ^ n) c q3 := by
      obtain ⟨h1, z, o, e⟩ := D
      exact ⟨by omega, z, o, by rw [o3 _ h1 d5]; exact e⟩
    have A3 : ArB b0 (2 ^ n) f q3 := by
      obtain ⟨o, e⟩ := A.get
      have := A.lt
      exact ⟨by omega, o, by rw [o3 _ this d7]; exact e⟩
    obtain ⟨_, q4, e4, rfl, X4⟩ := io (m + 2) mm v q3 (.inl rfl) (by omega) hv A3 D3
    have n4 := X4.next
    -- what is left as it was, but L
    have o4 : ∀ j, j < q.next → j ≠ L → q4.get j = q.get j := fun j hj hl => by rw [X4.get j (by omega)]; exact o3 j hj hl
    have L4 : q4.get L = some ((rcOf Tryd.prog 22 0).obj F d .busy none) := by rw [X4.get L (by omega)]; exact L3
    have x4 : q4.get q.next = some (.cells [J mm, J v] 75 false) := by rw [X4.get _ (by omega)]; exact x3
    have stay : prm f (2 ^ n) n mm v = false → ∀ q5 : Hp, q4.Ext q5 → Qp (.bool true) (q5.put L ((rcOf Tryd.prog 22 0).obj F d .ready none)) := fun hp q5 X5 => by
      have n5 := X5.next
      have o5 : ∀ j, j < q.next → j ≠ L → (q5.put L ((rcOf Tryd.prog 22 0).obj F d .ready none)).get j = q.get j := fun j hj hl => by
        rw [Hp.get_put_ne hl, X5.get j (by omega)]; exact o4 j hj hl
      refine ⟨rfl, l, ?_, ⟨by show _ ≤ q5.next; omega, fun j hj hm => o5 j hj (fun e => hm (by simp [e]))⟩, fun j hj => .inl hj⟩
      rw [if_neg (by rw [hp]; decide)]
      refine ⟨⟨by show _ < q5.next; omega, get_put _ _ _⟩, ⟨by show _ < q5.next; omega, oo, by rw [o5 _ hoq d1]; exact gO⟩, lst.of (by show _ ≤ q5.next; omega) (fun i n c e => ?_), far, ⟨by show _ < q5.next; omega, ob, by rw [o5 _ hbq d3]; exact gB⟩, ?_, ?_⟩
      · rcases lst.lw with ⟨h1, _, _⟩ | ⟨i', n', c', h1, _, hi⟩
        · rw [h1] at e; cases e
        · rw [h1] at e
          injection e with e1
          injection e1 with e1
          injection e1 with e1
          subst e1
          exact o5 _ hi (fun hl => far L (by simp) _ _ (by rw [h1, hl]))
      · obtain ⟨h1, z, o, e⟩ := D
        exact ⟨by show _ < q5.next; omega, z, o, by rw [o5 _ h1 d5]; exact e⟩
      · obtain ⟨o, e⟩ := A.get
        have := A.lt
        exact ⟨by show _ < q5.next; omega, o, by rw [o5 _ this d7]; exact e⟩
    refine ok_go 0 ?_
    refine sy_load 0 (r := loadT Tryd.prog q3 50 (ptr b1 0)) (h' := q3) (v := ptr bd 0) (by kernel_rfl) (load1 (by kernel_rfl) B3 rfl) ?_
    refine ok_go 0 ?_
    refine sy_load 0 (r := loadT Tryd.prog q3 75 (ptr q.next 0)) (h' := q3) (by kernel_rfl) (load2 agP szP x3) ?_
    refine ok_go 0 ?_
    refine sy_call 0 (by kernel_rfl) e4 ?_
    refine ok_go 1 ?_
    refine sy_test 0 (!IM f (2 ^ n) mm v) (by kernel_rfl) ?_ ?_
    · intro hI
      have hI : IM f (2 ^ n) mm v = false := by simpa using hI
      refine ok_go 0 ?_
      refine sy_round 0 (by kernel_rfl) L4 ?_
      refine ok_go 0 ?_
      exact sy_done 0 (v := .bool true) (h := q4.put L ((rcOf Tryd.prog 22 0).obj F d .ready none)) (by kernel_rfl) (stay (by unfold prm; rw [hI]; rfl) q4 (Hp.Ext.refl _))
    · intro hI
      have hI : IM f (2 ^ n) mm v = true := by simpa using hI
      let q5 : Hp := q4.new (.cells [.bool false] 4 false)
      let q6 : Hp := q5.put q4.next (.cells [.bool true] 4 false)
      have k5 : q5.get q4.next = some (.cells [.bool false] 4 false) := get_new _ _
      have x6 : q6.get q4.next = some (.cells [.bool true] 4 false) := get_put _ _ _
      have n6 : q6.next = q4.next + 1 := rfl
      have o6 : ∀ j, j < q4.next → q6.get j = q4.get j := fun j hj => by
        simp only [q6, q5, gn, gp]
        repeat (first | rw [if_pos (by omega)] | rw [if_neg (by omega)])
      have X6 : q4.Ext q6 := ⟨by omega, o6⟩
      have B6 : q6.get b1 = some (.cells [ptr bd 0] 50 ob) := by rw [o6 _ (by omega), X4.get _ (by omega)]; exact B3
      have D6 : Dcd bd b0 (2 ^ n) c q6 := D3.ext (X4.trans X6)
      refine ok_go 1 ?_
      refine sy_store 0 (r := storeT Tryd.prog q5 4 (ptr q4.next 0) (.bool true)) (h' := q6) (by kernel_rfl) (store1 zB rfl k5 (show 0 < 1 by omega)) ?_
      refine ok_go 0 ?_
      refine sy_load 0 (r := loadT Tryd.prog q6 50 (ptr b1 0)) (h' := q6) (v := ptr bd 0) (by kernel_rfl) (load1 (by kernel_rfl) B6 rfl) ?_
      refine ok_go 2 ?_
      refine sy_load 0 (r := loadT Tryd.prog q6 24 (ptr bd 0)) (h' := q6) (by kernel_rfl) D6.read ?_
      let SL : Value := .slice (some ⟨b0, 0, none⟩) (2 ^ n) c
      let q7 : Hp := q6.new (.cells [SL] 24 false)
      have n7 : q7.next = q4.next + 2 := rfl
      have o7 : ∀ j, j < q4.next + 1 → q7.get j = q6.get j := fun j hj => Hp.get_new_ne (by omega)
      have X7 : q4.Ext q7 := X6.trans ⟨by omega, fun j hj => o7 j (by omega)⟩
      have L7 : q7.get L = some ((rcOf Tryd.prog 22 0).obj F d .busy none) := by rw [X7.get L (by omega)]; exact L4
      refine ok_go 1 ?_
      refine sy_range_in 0 (callF := evInv Tryd.prog orc lf (m + 2)) (P := Tryd.prog) (lf := lf) (m := 48) (rcOf Tryd.prog 22 1) q7 [(1, ptr b1 0), (3, ptr oB 0), (4, ptr q.next 0), (5, ptr q4.next 0)] 49 [.func (.yield q7.next) #[] #[], ptr q6.next 0]
        (by kernel_rfl) (fun F => by kernel_rfl) L7 ⟨by kernel_rfl, by kernel_rfl, by kernel_rfl, by kernel_rfl, trivial⟩ (by kernel_rfl) (by kernel_rfl) fun F2 f2 hr2 => ?_
      let HH : Hp := q7.new ((rcOf Tryd.prog 22 1).obj F2 d .ready none)
      have nH : HH.next = q4.next + 3 := rfl
      have oH : ∀ j, j < q4.next + 2 → HH.get j = q7.get j := fun j hj => Hp.get_new_ne (by omega)
      have HL : HH.get (q4.next + 2) = some ((rcOf Tryd.prog 22 1).obj F2 d .ready none) := get_new q7 _
      have HB : HH.get (q4.next + 1) = some (.cells [SL] 24 false) := by rw [oH _ (by omega)]; exact get_new q6 _
      have H5 : HH.get q4.next = some (.cells [.bool true] 4 false) := by rw [oH _ (by omega), o7 _ (by omega)]; exact x6
      have XH : q4.Ext HH := X7.trans ⟨by omega, fun j hj => oH j (by omega)⟩
      have H4 : HH.get q.next = some (.cells [J mm, J v] 75 false) := by rw [XH.get _ (by omega)]; exact x4
      let Inv : Nat → Hp → Prop := fun i r => Exc [q4.next, q4.next + 2] HH r ∧ r.get q4.next = some (.cells [.bool (pb f (2 ^ n) mm v i)] 4 false) ∧ r.get (q4.next + 2) = some ((rcOf Tryd.prog 22 1).obj F2 d .ready none)
      have hb : ∀ i r, Inv i r → loadT Tryd.prog r 24 (ptr (q4.next + 1) 0) = some (.slice (some ⟨b0, 0, none⟩) (2 ^ n) c) := fun i r hr => load1 (by kernel_rfl) (by rw [hr.1.get _ (by omega) (by simp)]; exact HB) rfl
      have hy : ∀ i r, i < n → Inv i r → ∃ g', evInv Tryd.prog orc lf (m + 1) (.yield (q4.next + 2) [J (2 ^ i)]) r = some (.bool true, g') ∧ Inv (i + 1) g' := fun i r hi ⟨Xr, P5, Lr⟩ => by
        have key2 : ∃ w g', evInv Tryd.prog orc lf (m + 1) (.yield (q4.next + 2) [J (2 ^ i)]) r = some (w, g') ∧ (w = .bool true ∧ Inv (i + 1) g') := by
          refine yld_ok (c := rcOf Tryd.prog 22 1) (Q := fun w g' => w = .bool true ∧ Inv (i + 1) g') hr2 Lr (by kernel_rfl) ?_
          refine ok_go 0 ?_
          refine sy_busy 0 (by kernel_rfl) Lr ?_
          have R' : ∀ j, j ≠ q4.next + 2 → (r.put (q4.next + 2) ((rcOf Tryd.prog 22 1).obj F2 d .busy none)).get j = r.get j := fun j hj => Hp.get_put_ne hj
          have Rl : (r.put (q4.next + 2) ((rcOf Tryd.prog 22 1).obj F2 d .busy none)).get (q4.next + 2) = some ((rcOf Tryd.prog 22 1).obj F2 d .busy none) := get_put _ _ _
          have nr' : (r.put (q4.next + 2) ((rcOf Tryd.prog 22 1).obj F2 d .busy none)).next = r.next := rfl
          generalize r.put (q4.next + 2) ((rcOf Tryd.prog 22 1).obj F2 d .busy none) = r' at R' Rl nr' ⊢
          have nXr := Xr.next
          have LB : ∀ (g : Hp) (o : AObj), g.get (q4.next + 2) = some ((rcOf Tryd.prog 22 1).obj F2 d .busy none) → (g.put q4.next o).get (q4.next + 2) = some ((rcOf Tryd.prog 22 1).obj F2 d .busy none) := fun g o e => by
            rw [Hp.get_put_ne (by omega)]; exact e
          have R5 : r'.get q4.next = some (.cells [.bool (pb f (2 ^ n) mm v i)] 4 false) := by rw [R' _ (by omega)]; exact P5
          have Rk : ∀ j, j < q4.next → r'.get j = q4.get j := fun j hj => by rw [R' j (by omega), Xr.get j (by omega) (by simp; omega), XH.get j hj]
          have R4 : r'.get q.next = some (.cells [J mm, J v] 75 false) := by rw [Rk _ (by omega)]; exact x4
          have hpi : 2 ^ i < 2 ^ n := Nat.pow_lt_pow_right (by decide) hi
          have fin : ∀ (g : Hp) (b : Bool), r'.Ext g → b = pb f (2 ^ n) mm v (i + 1) → Inv (i + 1) ((g.put q4.next (.cells [.bool b] 4 false)).put (q4.next + 2) ((rcOf Tryd.prog 22 1).obj F2 d .ready none)) := fun g b Xg hb' => by
            have ng := Xg.next
            refine ⟨⟨by show _ ≤ g.next; omega, fun j hj hm => ?_⟩, ?_, get_put _ _ _⟩
            · have hm' : j ≠ q4.next ∧ j ≠ q4.next + 2 := by simpa using hm
              rw [Hp.get_put_ne hm'.2, Hp.get_put_ne hm'.1, Xg.get j (by omega), R' j hm'.2]
              exact Xr.get j hj hm
            · rw [Hp.get_put_ne (by omega), get_put, hb']
          refine ok_go 0 ?_
          refine sy_load 0 (r := loadT Tryd.prog r' 4 (ptr q4.next 0)) (h' := r') (v := .bool (pb f (2 ^ n) mm v i)) (by kernel_rfl) (load1 agB R5 rfl) ?_
          refine ok_go 0 ?_
          refine sy_test 0 (pb f (2 ^ n) mm v i) (by kernel_rfl) ?_ ?_
          · intro hp
            refine ok_go 2 ?_
            refine sy_load 0 (r := loadT Tryd.prog r' 3 (ptr q.next 0)) (h' := r') (v := J mm) (by kernel_rfl) (load1 agI R4 rfl) ?_
            have hand : (andI (Int.ofNat mm) (Int.ofNat (2 ^ i)) == 0) = (mm &&& 2 ^ i == 0) := by rw [and_nat (by omega)]; exact eq_int _ 0
            refine ok_go 6 ?_
            refine sy_test 0 (andI (Int.ofNat mm) (Int.ofNat (2 ^ i)) == 0) (by kernel_rfl) ?_ ?_
            · intro hz
              rw [hand] at hz
              refine ok_go 14 ?_
              refine sy_store 0 (r := storeT Tryd.prog r' 4 (ptr q4.next 0) (.bool true)) (h' := r'.put q4.next (.cells [.bool true] 4 false)) (by kernel_rfl) (store1 zB rfl R5 (show 0 < 1 by omega)) ?_
              refine ok_go 0 ?_
              refine sy_round 0 (by kernel_rfl) (LB r' (.cells [.bool true] 4 false) Rl) ?_
              refine ok_go 0 ?_
              exact sy_done 0 (v := .bool true) (h := (r'.put q4.next (.cells [.bool true] 4 false)).put (q4.next + 2) ((rcOf Tryd.prog 22 1).obj F2 d .ready none)) (by kernel_rfl) ⟨rfl, fin r' true (Hp.Ext.refl _) (by rw [pb, hp, hz]; rfl)⟩
            · intro hz
              rw [hand] at hz
              have Br : r'.get b1 = some (.cells [ptr bd 0] 50 ob) := by rw [Rk _ (by omega), X4.get _ (by omega)]; exact B3
              have Dr : Dcd bd b0 (2 ^ n) c r' := by
                obtain ⟨h1, z, o, e⟩ := D3.ext X4
                obtain ⟨h1', _⟩ := D
                exact ⟨by omega, z, o, by rw [Rk _ (by omega)]; exact e⟩
              have Ar : ArB b0 (2 ^ n) f r' := by
                obtain ⟨o, e⟩ := (A3.ext X4).get
                have := A.lt
                exact ⟨by omega, o, by rw [Rk _ (by omega)]; exact e⟩
              have hl1 := les (a := mm) (b := 2 ^ i) (by omega) (by omega)
              have hl2 := les (a := v) (b := 2 ^ i) (by omega) (by omega)
              have hn1 := not_gen (a := mm) (b := 2 ^ i) (by omega) (by omega)
              have hn2 := not_gen (a := v) (b := 2 ^ i) (by omega) (by omega)
              obtain ⟨_, r2, e2, rfl, X2⟩ := io m (mm ^^^ (mm &&& 2 ^ i)) (v ^^^ (v &&& 2 ^ i)) r' (.inr rfl) (by omega) (by omega) Ar Dr
              have nX2 := X2.next
              have L2 : r2.get (q4.next + 2) = some ((rcOf Tryd.prog 22 1).obj F2 d .busy none) := by rw [X2.get _ (by omega)]; exact Rl
              have R25 : r2.get q4.next = some (.cells [.bool (pb f (2 ^ n) mm v i)] 4 false) := by rw [X2.get _ (by omega)]; exact R5
              refine ok_go 0 ?_
              refine sy_load 0 (r := loadT Tryd.prog r' 50 (ptr b1 0)) (h' := r') (v := ptr bd 0) (by kernel_rfl) (load1 (by kernel_rfl) Br rfl) ?_
              refine ok_go 3 ?_
              refine sy_load 0 (r := loadT Tryd.prog r' 3 (ptr q.next 0)) (h' := r') (v := J mm) (by kernel_rfl) (load1 agI R4 rfl) ?_
              refine ok_go 6 ?_
              refine sy_load 0 (r := loadT Tryd.prog r' 3 (ptr q.next 1)) (h' := r') (v := J v) (by kernel_rfl) (load1 agI R4 rfl) ?_
              refine ok_go 6 ?_
              refine sy_call 0 (r := Ev lf m 35 [ptr bd 0, .agg #[.int .i64 (notI (Int.ofNat mm) (Int.ofNat (2 ^ i))), .int .i64 (notI (Int.ofNat v) (Int.ofNat (2 ^ i)))]] r') (by kernel_rfl) (by rw [hn1, hn2]; exact e2) ?_
              refine ok_go 5 ?_
              refine sy_store 0 (r := storeT Tryd.prog r2 4 (ptr q4.next 0) (.bool (!IM f (2 ^ n) (mm ^^^ (mm &&& 2 ^ i)) (v ^^^ (v &&& 2 ^ i))))) (h' := r2.put q4.next (.cells [.bool (!IM f (2 ^ n) (mm ^^^ (mm &&& 2 ^ i)) (v ^^^ (v &&& 2 ^ i)))] 4 false)) (by kernel_rfl) (store1 zB rfl R25 (show 0 < 1 by omega)) ?_
              refine ok_go 0 ?_
              refine sy_round 0 (by kernel_rfl) (LB r2 (.cells [.bool (!IM f (2 ^ n) (mm ^^^ (mm &&& 2 ^ i)) (v ^^^ (v &&& 2 ^ i)))] 4 false) L2) ?_
              refine ok_go 0 ?_
              exact sy_done 0 (v := .bool true) (h := (r2.put q4.next (.cells [.bool (!IM f (2 ^ n) (mm ^^^ (mm &&& 2 ^ i)) (v ^^^ (v &&& 2 ^ i)))] 4 false)).put (q4.next + 2) ((rcOf Tryd.prog 22 1).obj F2 d .ready none)) (by kernel_rfl) ⟨rfl, fin r2 _ X2 (by rw [pb, hp, hz]; rfl)⟩
          · intro hp
            refine ok_go 7 ?_
            refine sy_store 0 (r := storeT Tryd.prog r' 4 (ptr q4.next 0) (.bool false)) (h' := r'.put q4.next (.cells [.bool false] 4 false)) (by kernel_rfl) (store1 zB rfl R5 (show 0 < 1 by omega)) ?_
            refine ok_go 0 ?_
            refine sy_round 0 (by kernel_rfl) (LB r' (.cells [.bool false] 4 false) Rl) ?_
            refine ok_go 0 ?_
            exact sy_done 0 (v := .bool true) (h := (r'.put q4.next (.cells [.bool false] 4 false)).put (q4.next + 2) ((rcOf Tryd.prog 22 1).obj F2 d .ready none)) (by kernel_rfl) ⟨rfl, fin r' false (Hp.Ext.refl _) (by rw [pb, hp]; rfl)⟩
        obtain ⟨w, g', e, rfl, hI⟩ := key2
        exact ⟨g', e, hI⟩
      obtain ⟨w, h3, ev, hI3⟩ := single_run n hn lf (m + 1) (q4.next + 1) (q4.next + 2) hlf (some ⟨b0, 0, none⟩) c Inv (fun _ => False) hb (fun i q hi hq => .inl (hy i q hi hq)) (h := HH) ⟨⟨Nat.le_refl _, fun _ _ _ => rfl⟩, H5, HL⟩
      obtain ⟨X3', P3, L3'⟩ := hI3.resolve_right id
      refine ⟨w, h3, .ready, none, d, .normal, ev, L3', by decide, rfl, ?_⟩
      have nh3 := X3'.next
      let h4 : Hp := h3.put (q4.next + 2) ((rcOf Tryd.prog 22 1).obj F2 d .exhausted none)
      have K4 : ∀ j, j < q4.next → h4.get j = q4.get j := fun j hj => by
        show (h3.put _ _).get _ = _
        rw [Hp.get_put_ne (by omega), X3'.get j (by omega) (by simp; omega), XH.get j hj]
      have n4h : h4.next = h3.next := rfl
      have X44 : q4.Ext h4 := ⟨by omega, K4⟩
      have P4 : h4.get q4.next = some (.cells [.bool (pb f (2 ^ n) mm v n)] 4 false) := by
        show (h3.put _ _).get _ = _
        rw [Hp.get_put_ne (by omega)]; exact P3
      have LL : h4.get L = some ((rcOf Tryd.prog 22 0).obj F d .busy none) := by rw [K4 L (by omega)]; exact L4
      refine ok_go 0 ?_
      refine sy_load 0 (r := loadT Tryd.prog h4 4 (ptr q4.next 0)) (h' := h4) (v := .bool (pb f (2 ^ n) mm v n)) (by kernel_rfl) (load1 agB P4 rfl) ?_
      refine ok_go 0 ?_
      refine sy_test 0 (pb f (2 ^ n) mm v n) (by kernel_rfl) ?_ ?_
      · intro hp
        have hprm : prm f (2 ^ n) n mm v = true := by unfold prm; rw [hI, hp]; rfl
        have O4 : h4.get oB = some (.cells [l] 49 oo) := by rw [K4 _ (by omega), o4 _ hoq d1]; exact gO
        have xx4 : h4.get q.next = some (.cells [J mm, J v] 75 false) := by rw [K4 _ (by omega)]; exact x4
        have lst4 : OpenP h4 75 l ps := lst.of (by omega) (fun i n c e => by
          rcases lst.lw with ⟨h1, _, _⟩ | ⟨i', n', c', h1, _, hi⟩
          · rw [h1] at e; cases e
          · rw [h1] at e
            injection e with e1
            injection e1 with e1
            injection e1 with e1
            subst e1
            rw [K4 _ (by omega)]
            exact o4 _ hi (fun hl => far L (by simp) _ _ (by rw [h1, hl])))
        obtain ⟨l', h5, e5, O5, y1, y2, y3⟩ := append2 s49 lst4 (a := mm) (b := v) hps
        have oB5 : h5.get oB = some (.cells [l] 49 oo) := by rw [y2 oB (by omega) (fun n c => far oB (by simp) n c)]; exact O4
        let h6 : Hp := h5.put oB (.cells [l'] 49 oo)
        have L6 : h6.get L = some ((rcOf Tryd.prog 22 0).obj F d .busy none) := by
          show (h5.put _ _).get _ = _
          rw [Hp.get_put_ne (fun e => d1 e.symm), y2 L (by omega) (fun n c => far L (by simp) n c)]; exact LL
        have sc : scalar l' = true := by obtain ⟨a, c, rfl⟩ := O5.shape; rfl
        have K6 : ∀ j, j < q.next → j ≠ L → j ≠ oB → (∀ n c, l ≠ .slice (some ⟨j, 0, none⟩) n c) → h6.get j = q.get j := fun j hj h1 h2 h3 => by
          show (h5.put _ _).get _ = _
          rw [Hp.get_put_ne h2, y2 j (by omega) h3, K4 j (by omega)]; exact o4 j hj h1
        obtain ⟨a0, c0, hl0⟩ := lst.shape
        refine ok_go 0 ?_
        refine sy_load 0 (r := loadT Tryd.prog h4 49 (ptr oB 0)) (h' := h4) (v := l) (by kernel_rfl) (load1 (by kernel_rfl) O4 rfl) ?_
        refine ok_go 0 ?_
        refine sy_load 0 (r := loadT Tryd.prog h4 75 (ptr q.next 0)) (h' := h4) (by kernel_rfl) (load2 agP szP xx4) ?_
        refine ok_go 1 ?_
        refine sy_call 0 (r := appendOp Tryd.prog (h4.new (.cells [J mm, J v] 75 false)) 49 l (.slice (some ⟨h4.next, 0, none⟩) 1 2)) (v := l') (h' := h5) (by subst hl0; kernel_rfl) e5 ?_
        refine ok_go 0 ?_
        refine sy_store 0 (r := storeT Tryd.prog h5 49 (ptr oB 0) l') (h' := h6) (by kernel_rfl) (store1 (by kernel_rfl) sc oB5 (show 0 < 1 by omega)) ?_
        refine ok_go 0 ?_
        refine sy_round 0 (by kernel_rfl) L6 ?_
        refine ok_go 0 ?_
        have K7 : ∀ j, j < q.next → j ≠ L → j ≠ oB → (∀ n c, l ≠ .slice (some ⟨j, 0, none⟩) n c) → (h6.put L ((rcOf Tryd.prog 22 0).obj F d .ready none)).get j = q.get j := fun j hj h1 h2 h3 => by
          rw [Hp.get_put_ne h1]; exact K6 j hj h1 h2 h3
        have n7' : (h6.put L ((rcOf Tryd.prog 22 0).obj F d .ready none)).next = h5.next := rfl
        have flw : ∀ j, j ∉ lw l → ∀ n c, l ≠ .slice (some ⟨j, 0, none⟩) n c := fun j hj n c e => hj (by rw [e]; simp [lw])
        refine sy_done 0 (v := .bool true) (h := h6.put L ((rcOf Tryd.prog 22 0).obj F d .ready none)) (by kernel_rfl) ⟨rfl, l', ?_, ⟨by omega, fun j hj hm => ?_⟩, fun j hj => ?_⟩
        · rw [if_pos hprm]
          refine ⟨⟨by omega, get_put _ _ _⟩, ⟨by omega, oo, ?_⟩, ?_, fun j hj n c => ?_, ⟨by omega, ob, ?_⟩, ?_, ?_⟩
          · rw [Hp.get_put_ne d1]; exact get_put _ _ _
          · refine O5.of (by omega) (fun i n c e => ?_)
            have hi : i ≠ oB := fun h => y3 oB (by omega) n c (by rw [e, h])
            have hi2 : i ≠ L := fun h => y3 L (by omega) n c (by rw [e, h])
            rw [Hp.get_put_ne hi2]
            exact Hp.get_put_ne hi
          · refine y3 j ?_ n c
            simp only [List.mem_cons, List.not_mem_nil, or_false] at hj
            have := A.lt
            obtain ⟨h1', _⟩ := D
            rcases hj with rfl | rfl | rfl | rfl | rfl <;> omega
          · rw [K7 b1 hbq d3 d2 (far b1 (by simp))]; exact gB
          · obtain ⟨h1, z, o, e⟩ := D
            exact ⟨by omega, z, o, by rw [K7 bd h1 d5 d4 (far bd (by simp))]; exact e⟩
          · obtain ⟨o, e⟩ := A.get
            have := A.lt
            exact ⟨by omega, o, by rw [K7 b0 this d7 d6 (far b0 (by simp))]; exact e⟩
        · have hm' : j ≠ oB ∧ j ≠ L ∧ j ∉ lw l := by simpa [not_or] using hm
          exact K7 j hj hm'.2.1 hm'.1 (flw j hm'.2.2)
        · rcases O5.lw with ⟨_, h1, _⟩ | ⟨i, n', c', h1, h2, _⟩
          · simp at h1
          · rw [h2] at hj
            have hj : j = i := by simpa using hj
            subst hj
            rcases Nat.lt_or_ge j q.next with h3 | h3
            · exact absurd h1 (y3 j (by omega) n' c')
            · exact .inr h3
      · intro hp
        refine ok_go 0 ?_
        refine sy_round 0 (by kernel_rfl) LL ?_
        refine ok_go 0 ?_
        exact sy_done 0 (v := .bool true) (h := h4.put L ((rcOf Tryd.prog 22 0).obj F d .ready none)) (by kernel_rfl) (stay (by unfold prm; rw [hp, Bool.and_false]) h4 X44)
  obtain ⟨w, q', e, rfl, l', r⟩ := key
  exact ⟨q', l', e, r⟩
end Go.Proofs.YtnfboopfpkaeaaaDoor
namespace Go.Proofs.YtnfboopfpkaeaaaDoor
open Go Go.Eng Nim
set_option maxRecDepth 100000
set_option maxHeartbeats 4000000
theorem parts_of (m : Nat) (lf bd : Nat) (h : Hp) : Ev lf (m + 1) 48 [ptr bd 0] h = some (.func (.func 72) #[] #[ptr h.next 0], h.new (.cells [ptr bd 0] 50 false)) := by
  kernel_rfl
/-- All that is there is as it was: the state too. -/
theorem St.of {f : Nat → Bool} {N c b0 bd b1 oB L d : Nat} {CC : RC} {F : Fm} {l : Value} {ps : List (Nat × Nat)} {q q' : Hp} (S : St f N c b0 bd b1 oB L d CC F l ps q) (hn : q.next ≤ q'.next) (hg : ∀ j, j ∈ [b0, bd, b1, oB, L] ++ lw l → q'.get j = q.get j) : St f N c b0 bd b1 oB L d CC F l ps q' := by
  obtain ⟨⟨h1, g1⟩, ⟨h2, o2, g2⟩, lst, far, ⟨h3, o3, g3⟩, D, A⟩ := S
  refine ⟨⟨by omega, by rw [hg L (by simp)]; exact g1⟩, ⟨by omega, o2, by rw [hg oB (by simp)]; exact g2⟩, lst.of hn (fun i n c e => hg i (by rw [e]; simp [lw])), far, ⟨by omega, o3, by rw [hg b1 (by simp)]; exact g3⟩, ?_, ?_⟩
  · obtain ⟨h4, z, o, e⟩ := D
    exact ⟨by omega, z, o, by rw [hg bd (by simp)]; exact e⟩
  · obtain ⟨o, e⟩ := A.get
    have := A.lt
    exact ⟨by omega, o, by rw [hg b0 (by simp)]; exact e⟩
theorem St.lt {f : Nat → Bool} {N c b0 bd b1 oB L d : Nat} {CC : RC} {F : Fm} {l : Value} {ps : List (Nat × Nat)} {q : Hp} (S : St f N c b0 bd b1 oB L d CC F l ps q) : ∀ j, j ∈ [b0, bd, b1, oB, L] ++ lw l → j < q.next := by
  obtain ⟨⟨h1, g1⟩, ⟨h2, o2, g2⟩, lst, far, ⟨h3, o3, g3⟩, ⟨h4, _⟩, A⟩ := S
  intro j hj
  rcases List.mem_append.1 hj with hj | hj
  · simp only [List.mem_cons, List.not_mem_nil, or_false] at hj
    have := A.lt
    rcases hj with rfl | rfl | rfl | rfl | rfl <;> omega
  · rcases lst.lw with ⟨_, _, h⟩ | ⟨i, _, _, _, h, hi⟩
    · rw [h] at hj; cases hj
    · rw [h] at hj
      have hj : j = i := by simpa using hj
      omega
theorem row_up (pr : Nat → Nat → Bool) (m : Nat) : accP pr (m + 1) = accP pr m ++ rowP pr m (m + 1) := rfl
theorem primes_of (f : Nat → Bool) (n : Nat) (hn : n ≤ 6) (lf k b0 c bd : Nat) (hlf : 300 ≤ lf) (h : Hp) (A : ArB b0 (2 ^ n) f h) (D : Dcd bd b0 (2 ^ n) c h)
    (io : ∀ F mm v h, (F = k + 4 ∨ F = k + 2 ∨ F = k) → mm < 64 → v < 2 ^ n → ArB b0 (2 ^ n) f h → Dcd bd b0 (2 ^ n) c h → ∃ y h', Ev lf F 35 [ptr bd 0, .agg #[J mm, J v]] h = some (y, h') ∧ y = .bool (IM f (2 ^ n) mm v) ∧ h.Ext h') :
    ∃ v h', Ev lf (k + 7) 22 [ptr bd 0] h = some (v, h') ∧ OpenP h' 75 v (accP (prm f (2 ^ n) n) (2 ^ n)) ∧ Exc [b0, bd] h h' ∧ ArB b0 (2 ^ n) f h' := by
  have hp64 : 2 ^ n ≤ 64 := Nat.pow_le_pow_right (n := 2) (by decide) hn
  have hp0 : 1 ≤ 2 ^ n := Nat.one_le_two_pow
  refine fnS_ok (Q := fun v h' => OpenP h' 75 v (accP (prm f (2 ^ n) n) (2 ^ n)) ∧ Exc [b0, bd] h h' ∧ ArB b0 (2 ^ n) f h') ?_
  obtain ⟨hbd, zd, od, gd⟩ := D
  have hb0 := A.lt
  let H1 : Hp := h.new (.cells [ptr bd 0] 50 false)
  let H2 : Hp := H1.new (.cells [.slice none 0 0] 49 false)
  let H3 : Hp := H2.new (.cells [ptr bd 0] 50 false)
  have n3 : H3.next = h.next + 3 := rfl
  have o3 : ∀ j, j < h.next → H3.get j = h.get j := fun j hj => by
    simp only [H3, H2, H1, gn, nn]
    repeat (first | rw [if_pos (by omega)] | rw [if_neg (by omega)])
  have e2 : H2.get h.next = some (.cells [ptr bd 0] 50 false) := by
    simp only [H2, H1, gn, nn, if_true]
    repeat (first | rw [if_pos (by omega)] | rw [if_neg (by omega)])
  refine ok_go 2 ?_
  refine sy_load 0 (r := loadT Tryd.prog H2 50 (ptr h.next 0)) (h' := H2) (v := ptr bd 0) (by kernel_rfl) (load1 (by kernel_rfl) e2 rfl) ?_
  refine ok_go 1 ?_
  refine sy_range 0 (callF := evInv Tryd.prog orc lf (k + 6)) (P := Tryd.prog) (lf := lf) (m := 48) (rcOf Tryd.prog 22 0) H3 [(1, ptr h.next 0), (3, ptr (h.next + 1) 0)] 72 [.func (.yield (H3.next + 1)) #[] #[], ptr H2.next 0]
    (by kernel_rfl) (fun F => by kernel_rfl) ⟨by kernel_rfl, by kernel_rfl, trivial⟩ (by kernel_rfl) (by kernel_rfl) fun F f2 hr => ?_
  let CC : RC := rcOf Tryd.prog 22 0
  let HH : Hp := (rcOf Tryd.prog 22 0).heap F H3
  have nH : HH.next = h.next + 5 := rfl
  have oH : ∀ j, j < h.next + 3 → HH.get j = H3.get j := fun j hj => by
    simp only [HH, RC.heap, gn, nn]
    repeat (first | rw [if_pos (by omega)] | rw [if_neg (by omega)])
  have HD : HH.get (h.next + 3) = some (.defd false) := by
    simp only [HH, RC.heap, gn, nn, n3, if_true]
    repeat (first | rw [if_pos (by omega)] | rw [if_neg (by omega)])
  have HL : HH.get (h.next + 4) = some ((rcOf Tryd.prog 22 0).obj F (h.next + 3) .ready none) := get_new (H3.new _) _
  have H1g : HH.get h.next = some (.cells [ptr bd 0] 50 false) := by
    rw [oH _ (by omega)]
    simp only [H3, H2, H1, gn, nn, if_true]
    repeat (first | rw [if_pos (by omega)] | rw [if_neg (by omega)])
  have H2g : HH.get (h.next + 1) = some (.cells [.slice none 0 0] 49 false) := by
    rw [oH _ (by omega)]
    simp only [H3, H2, H1, gn, nn, if_true]
    repeat (first | rw [if_pos (by omega)] | rw [if_neg (by omega)])
  have H3g : HH.get (h.next + 2) = some (.cells [ptr bd 0] 50 false) := by
    rw [oH _ (by omega)]
    simp only [H3, H2, H1, gn, nn, if_true]
  have XH : h.Ext HH := ⟨by omega, fun j hj => by rw [oH j (by omega)]; exact o3 j hj⟩
  have DH : Dcd bd b0 (2 ^ n) c HH := ⟨by omega, zd, od, by rw [XH.get _ hbd]; exact gd⟩
  have AH : ArB b0 (2 ^ n) f HH := A.ext XH
  let base : List Nat := [b0, bd, h.next, h.next + 1, h.next + 4]
  let pr := prm f (2 ^ n) n
  let S : Value → List (Nat × Nat) → Hp → Prop := fun l ps q => St f (2 ^ n) c b0 bd h.next (h.next + 1) (h.next + 4) (h.next + 3) (rcOf Tryd.prog 22 0) F l ps q
  let I0 : Nat → List Nat → Hp → Prop := fun m W q => ∃ l, W = base ++ lw l ∧ S l (accP pr m) q
  let I1 : Nat → Nat → List Nat → Hp → Prop := fun m s W q => ∃ l, W = base ++ lw l ∧ S l (accP pr m ++ rowP pr m (s + 1)) q
  have hdist : h.next + 1 ≠ h.next + 4 ∧ h.next ≠ h.next + 1 ∧ h.next ≠ h.next + 4 ∧ bd ≠ h.next + 1 ∧ bd ≠ h.next + 4 ∧ b0 ≠ h.next + 1 ∧ b0 ≠ h.next + 4 := by omega
  have step : ∀ mm' (m : Nat) (v : Nat) l ps q, (mm' = k ∨ mm' = k + 2) → m < 2 ^ n → v < 2 ^ n → ps.length < 8388608 → S l ps q → ∃ q' W', evInv Tryd.prog orc lf (mm' + 3) (.yield (h.next + 4) [.agg #[J m, J v]]) q = some (.bool true, q') ∧ (∃ l', W' = base ++ lw l' ∧ S l' (if pr m v = true then ps ++ [(m, v)] else ps) q') ∧ Exc (base ++ lw l) q q' ∧ ∀ j ∈ W', j ∈ base ++ lw l ∨ q.next ≤ j := fun mm' m v l ps q hmm hm hv hps hS => by
    obtain ⟨q', l', e, S', E', hW'⟩ := round22 f n hn lf mm' b0 c bd h.next (h.next + 1) (h.next + 4) (h.next + 3) hlf hdist (fun F mm v h hF => io F mm v h (by omega)) F f2 hr q l ps m v hm hv hps hS
    refine ⟨q', base ++ lw l', e, ⟨l', rfl, S'⟩, ⟨E'.next, fun j hj hm => E'.get j hj (fun hc => hm ?_)⟩, fun j hj => ?_⟩
    · rcases List.mem_append.1 hc with h1 | h1
      · refine List.mem_append_left _ ?_
        simp only [List.mem_cons, List.not_mem_nil, or_false] at h1
        rcases h1 with rfl | rfl <;> simp [base]
      · exact List.mem_append_right _ h1
    · rcases List.mem_append.1 hj with h1 | h1
      · exact .inl (List.mem_append_left _ h1)
      · rcases hW' j h1 with h2 | h2
        · exact .inl (List.mem_append_right _ h2)
        · exact .inr h2
  have C : Cons lf (k + 3) (h.next + 4) (2 ^ n) I0 I1 := by
    refine ⟨fun m W q ⟨l, hW, hS⟩ j hj => ?_, fun m s W q ⟨l, hW, hS⟩ j hj => ?_, fun m W q q' ⟨l, hW, hS⟩ hn' hg => ⟨l, hW, hS.of hn' (fun j hj => hg j (by rw [hW]; exact hj))⟩, fun m s W q q' ⟨l, hW, hS⟩ hn' hg => ⟨l, hW, hS.of hn' (fun j hj => hg j (by rw [hW]; exact hj))⟩, fun m W q ⟨l, hW, hS⟩ => ⟨l, hW, hS⟩, fun m W q hm ⟨l, hW, hS⟩ => ?_, fun m s t W q hm hst htm hts hbt ⟨l, hW, hS⟩ => ?_⟩
    · rw [hW] at hj; exact hS.lt j hj
    · rw [hW] at hj; exact hS.lt j hj
    · subst hW
      have hl := accP_len pr m (by omega)
      obtain ⟨q', W', e, ⟨l', hW', S'⟩, E', r⟩ := step (k + 2) m 0 l _ q (.inr rfl) hm (by omega) (by omega) hS
      refine ⟨q', W', e, ⟨l', hW', ?_⟩, E', r⟩
      have hs0 : sub 0 m = true := by simp [sub]
      rw [rowP, hs0, Bool.true_and]
      cases hp : pr m 0
      · rw [hp] at S'
        rw [if_neg (by decide)] at S' ⊢
        show S l' (accP pr m ++ rowP pr m 0) q'
        rw [rowP, List.append_nil]; exact S'
      · rw [hp, if_pos rfl] at S'
        rw [if_pos rfl]
        exact S'
    · subst hW
      have hl := accP_len pr m (by omega)
      have hl2 := rowP_len pr m (s + 1)
      have hsk : rowP pr m t = rowP pr m (s + 1) := rowP_skip pr m (s + 1) t (by omega) fun v h1 h2 => by
        cases hs : sub v m with
        | false => rfl
        | true => exact absurd (eq_of_beq hs) (hbt v (by omega) h2)
      obtain ⟨q', W', e, ⟨l', hW', S'⟩, E', r⟩ := step k m t l _ q (.inl rfl) hm (by omega) (by rw [List.length_append]; omega) hS
      refine ⟨q', W', e, ⟨l', hW', ?_⟩, E', r⟩
      have hst' : sub t m = true := by show (t &&& m == t) = true; rw [hts]; exact beq_self_eq_true t
      rw [rowP, hst', Bool.true_and, hsk]
      cases hp : pr m t
      · rw [hp] at S'
        rw [if_neg (by decide)] at S' ⊢
        exact S'
      · rw [hp, if_pos rfl] at S'
        rw [if_pos rfl, ← List.append_assoc]
        exact S'
  have S0 : S (.slice none 0 0) [] HH := ⟨⟨by omega, HL⟩, ⟨by omega, false, H2g⟩, .inl ⟨rfl, rfl⟩, fun j _ n c hc => (by cases hc), ⟨by omega, false, H1g⟩, DH, AH⟩
  obtain ⟨v, h3, W', ev, ⟨l, hW, S3⟩, E3, hW3⟩ := parts_run (2 ^ n) hp64 lf (k + 3) (h.next + 4) b0 c bd (h.next + 2) hlf C (base ++ lw (.slice none 0 0)) HH ⟨_, rfl, S0⟩ (by omega) (by simp [base, lw]; omega) ⟨false, H3g⟩ DH
  obtain ⟨⟨hL3, gL3⟩, ⟨hO3, oo, gO3⟩, lst, far, _, _, A3⟩ := S3
  refine ⟨v, h3, .ready, none, h.next + 3, .normal, ev, gL3, by decide, rfl, ?_⟩
  let h4 : Hp := h3.put (h.next + 4) ((rcOf Tryd.prog 22 0).obj F (h.next + 3) .exhausted none)
  have nh3 := E3.next
  have O4 : h4.get (h.next + 1) = some (.cells [l] 49 oo) := by
    show (h3.put _ _).get _ = _
    rw [Hp.get_put_ne (by omega)]; exact gO3
  have D4 : h4.get (h.next + 3) = some (.defd false) := by
    show (h3.put _ _).get _ = _
    rw [Hp.get_put_ne (by omega), E3.get _ (by omega) (by simp [base, lw]; omega)]; exact HD
  obtain ⟨a0, c0, hl0⟩ := lst.shape
  have sc : scalar l = true := by rw [hl0]; rfl
  have hA3 := A3.lt
  have hlwd : ∀ i n c, l = .slice (some ⟨i, 0, none⟩) n c → i ≠ h.next + 3 := fun i n c e hi => by
    have h1 : i ∈ W' := by rw [hW]; exact List.mem_append_right _ (by rw [e]; simp [lw])
    rcases hW3 i h1 with h2 | h2
    · simp [base, lw] at h2; omega
    · omega
  refine ok_go 0 ?_
  refine sy_load 0 (r := loadT Tryd.prog h4 49 (ptr (h.next + 1) 0)) (h' := h4) (v := l) (by kernel_rfl) (load1 (by kernel_rfl) O4 rfl) ?_
  refine ok_go 0 ?_
  refine sy_marks 0 (h := h4) [h.next + 3] (by kernel_rfl) (by simp) (fun e he => by
    have he : e = h.next + 3 := by simpa using he
    rw [he]; exact D4) fun h' n'' o'' => ?_
  have P4 : ∀ j, j ≠ h.next + 4 → j ≠ h.next + 3 → h'.get j = h3.get j := fun j h1 h2 => by
    rw [o'' j (by simpa using h2)]
    exact Hp.get_put_ne h1
  have nh' : h'.next = h3.next := n''
  refine ok_go 0 ?_
  refine sy_done 0 (v := l) (h := h') (by kernel_rfl) ⟨lst.of (by omega) (fun i n c e => P4 i (fun hi => far (h.next + 4) (by simp) n c (by rw [e, hi])) (hlwd i n c e)), ⟨by omega, fun j hj hm => ?_⟩, ?_⟩
  · have hm' : j ≠ b0 ∧ j ≠ bd := by simpa using hm
    rw [P4 j (by omega) (by omega), E3.get j (by omega) (by simp [base, lw]; omega)]
    exact XH.get j hj
  · obtain ⟨o, e⟩ := A3.get
    exact ⟨by omega, o, by rw [P4 b0 (by omega) (by omega)]; exact e⟩
end Go.Proofs.YtnfboopfpkaeaaaDoor
