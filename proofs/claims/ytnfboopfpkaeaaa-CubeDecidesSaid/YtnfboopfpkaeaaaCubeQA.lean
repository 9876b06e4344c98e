/- The tables, turns, forms and spectra of the program: contracts. -/
import GoSem.Core.View
import Derived.Test.YtnfboopfpkaeaaaProg
import Derived.KernelRfl
import Derived.Test.YtnfboopfpkaeaaaSyF
import Derived.Test.YtnfboopfpkaeaaaSyD
import Derived.Test.YtnfboopfpkaeaaaAwake
/- Vectors over the inputs of a few bits, turned bit by bit. -/
namespace Go.Proofs.Ytnfboopfpkaeaaa.Nim
section
variable {α : Type}
/-- One bit. -/
def stg (s : α → α → α × α) (i : Nat) (l : Nat → α) : Nat → α := fun x => match x.testBit i with
  | true => (s (l (x ^^^ 2 ^ i)) (l x)).2
  | false => (s (l x) (l (x ^^^ 2 ^ i))).1
/-- The bits below n. -/
def trn (s : α → α → α × α) : Nat → (Nat → α) → Nat → α
  | 0, l => l
  | n + 1, l => stg s n (trn s n l)
theorem tb_same (x i : Nat) : (x ^^^ 2 ^ i).testBit i = !x.testBit i := by simp [Nat.testBit_xor]
theorem tb_other {i j : Nat} (h : i ≠ j) (x : Nat) : (x ^^^ 2 ^ i).testBit j = x.testBit j := by simp [Nat.testBit_xor, h]
theorem xx (x i : Nat) : x ^^^ 2 ^ i ^^^ 2 ^ i = x := by rw [Nat.xor_assoc, Nat.xor_self, Nat.xor_zero]
theorem xc (x i j : Nat) : x ^^^ 2 ^ i ^^^ 2 ^ j = x ^^^ 2 ^ j ^^^ 2 ^ i := by rw [Nat.xor_assoc, Nat.xor_comm (2 ^ i), ← Nat.xor_assoc]
theorem stg_t {s : α → α → α × α} {i x : Nat} {l : Nat → α} (h : x.testBit i = true) : stg s i l x = (s (l (x ^^^ 2 ^ i)) (l x)).2 := by unfold stg; rw [h]
theorem stg_f {s : α → α → α × α} {i x : Nat} {l : Nat → α} (h : x.testBit i = false) : stg s i l x = (s (l x) (l (x ^^^ 2 ^ i))).1 := by unfold stg; rw [h]
end

/-- A step that keeps the lower and turns the upper. -/
def up {α : Type} (f : α → α → α) (a b : α) : α × α := (a, f a b)
/-- Two such steps at different bits. -/
theorem up_comm {α : Type} {f g : α → α → α} (hfg : ∀ a b c d : α, g (f a b) (f c d) = f (g a c) (g b d)) {i j : Nat} (hij : i ≠ j) (l : Nat → α) : stg (up f) i (stg (up g) j l) = stg (up g) j (stg (up f) i l) := by
  funext x
  cases hi : x.testBit i <;> cases hj : x.testBit j
  · rw [stg_f hi, stg_f hj]
    simp only [up]
    rw [stg_f hj, stg_f hi]; rfl
  · rw [stg_f hi, stg_t hj]
    simp only [up]
    rw [stg_t hj, stg_f hi, stg_f ((tb_other (Ne.symm hij) x).trans hi)]; rfl
  · rw [stg_t hi, stg_f hj]
    simp only [up]
    rw [stg_f hj, stg_t hi, stg_f ((tb_other hij x).trans hj)]; rfl
  · rw [stg_t hi, stg_t hj]
    simp only [up]
    rw [stg_t hj, stg_t hi, stg_t ((tb_other hij x).trans hj), stg_t ((tb_other (Ne.symm hij) x).trans hi)]
    simp only [up]
    rw [xc x j i]
    exact (hfg _ _ _ _).symm
theorem up_trn {α : Type} {f g : α → α → α} (hfg : ∀ a b c d : α, g (f a b) (f c d) = f (g a c) (g b d)) (n : Nat) : ∀ (k : Nat), k ≤ n → ∀ l : Nat → α, trn (up f) k (stg (up g) n l) = stg (up g) n (trn (up f) k l)
  | 0, _, l => rfl
  | k + 1, hk, l => by
    simp only [trn]
    rw [up_trn hfg n k (by omega) l, up_comm hfg (by omega)]
theorem up_inv {α : Type} {f g : α → α → α} (hfg : ∀ a b c d : α, g (f a b) (f c d) = f (g a c) (g b d)) (hinv : ∀ a b, f a (g a b) = b) : ∀ (n : Nat) (l : Nat → α), trn (up f) n (trn (up g) n l) = l
  | 0, l => rfl
  | n + 1, l => by
    simp only [trn]
    rw [up_trn hfg n n (Nat.le_refl _)]
    have h1 : ∀ m : Nat → α, stg (up f) n (stg (up g) n m) = m := by
      intro m
      funext x
      cases h : x.testBit n
      · rw [stg_f h]; simp only [up]; rw [stg_f h]; rfl
      · rw [stg_t h]
        simp only [up]
        rw [stg_t h, stg_f (by rw [tb_same, h]; rfl)]
        exact hinv _ _
    rw [h1]
    exact up_inv hfg hinv n l
theorem xor_step : ∀ a b c d : Bool, ((a != b) != (c != d)) = ((a != c) != (b != d)) := by decide
theorem rem_twice (n : Nat) (f : Nat → Bool) : trn (up fun a b => a != b) n (trn (up fun a b => a != b) n f) = f := up_inv xor_step (by decide) n f
theorem reals_back (n : Nat) (f : Nat → Int) : trn (up fun a b => b + a) n (trn (up fun a b => b - a) n f) = f := up_inv (fun a b c d => by omega) (fun a b => by omega) n f

/-- Sums over the inputs of n bits. -/
def sm : Nat → (Nat → Int) → Int
  | 0, g => g 0
  | n + 1, g => sm n g + sm n fun x => g (x + 2 ^ n)
theorem sm_congr : ∀ (n : Nat) {g h : Nat → Int}, (∀ x, x < 2 ^ n → g x = h x) → sm n g = sm n h
  | 0, g, h, e => e 0 (by decide)
  | n + 1, g, h, e => by
    simp only [sm]
    rw [sm_congr n fun x hx => e x (by rw [Nat.pow_succ]; omega), sm_congr n (g := fun x => g (x + 2 ^ n)) (h := fun x => h (x + 2 ^ n)) fun x hx => e _ (by rw [Nat.pow_succ]; omega)]
theorem sm_add : ∀ (n : Nat) (g h : Nat → Int), sm n (fun x => g x + h x) = sm n g + sm n h
  | 0, _, _ => rfl
  | n + 1, g, h => by
    simp only [sm]
    rw [sm_add n g h, sm_add n (fun x => g (x + 2 ^ n)) (fun x => h (x + 2 ^ n))]
    omega
theorem sm_mul : ∀ (n : Nat) (c : Int) (g : Nat → Int), sm n (fun x => c * g x) = c * sm n g
  | 0, _, _ => rfl
  | n + 1, c, g => by
    simp only [sm]
    rw [sm_mul n c g, sm_mul n c (fun x => g (x + 2 ^ n)), Int.mul_add]
theorem sm_one : ∀ n, sm n (fun _ => 1) = 2 ^ n
  | 0 => rfl
  | n + 1 => by simp only [sm]; rw [sm_one n, Int.pow_succ]; omega
theorem add_pow {n x : Nat} (h : x < 2 ^ n) : x + 2 ^ n = x ^^^ 2 ^ n := by
  apply Nat.eq_of_testBit_eq
  intro j
  rw [Nat.testBit_xor, Nat.testBit_two_pow, Nat.add_comm]
  rcases Nat.lt_trichotomy j n with hj | hj | hj
  · rw [Nat.testBit_two_pow_add_gt hj]
    simp [show ¬ n = j by omega]
  · subst hj
    rw [Nat.testBit_two_pow_add_eq, Nat.testBit_lt_two_pow h]
    simp
  · rw [Nat.testBit_lt_two_pow (x := 2 ^ n + x) (by
      have : 2 ^ (n + 1) ≤ 2 ^ j := Nat.pow_le_pow_right (by decide) hj
      rw [Nat.pow_succ] at this
      omega), Nat.testBit_lt_two_pow (x := x) (Nat.lt_of_lt_of_le h (Nat.pow_le_pow_right (by decide) (Nat.le_of_lt hj)))]
    simp [show ¬ n = j by omega]
theorem flip_lt {n i x : Nat} (hi : i < n) (hx : x < 2 ^ n) : x ^^^ 2 ^ i < 2 ^ n := Nat.xor_lt_two_pow hx (Nat.pow_lt_pow_right (by decide) hi)
theorem sm_flip : ∀ (n i : Nat), i < n → ∀ g : Nat → Int, sm n (fun x => g (x ^^^ 2 ^ i)) = sm n g
  | 0, i, h, _ => by omega
  | n + 1, i, h, g => by
    simp only [sm]
    by_cases hin : i = n
    · subst hin
      rw [sm_congr i (g := fun x => g (x ^^^ 2 ^ i)) (h := fun x => g (x + 2 ^ i)) fun x hx => by rw [add_pow hx],
        sm_congr i (g := fun x => g ((x + 2 ^ i) ^^^ 2 ^ i)) (h := g) fun x hx => by rw [add_pow hx, xx]]
      omega
    · rw [sm_flip n i (by omega) g, sm_congr n (g := fun x => g ((x + 2 ^ n) ^^^ 2 ^ i)) (h := fun x => (fun y => g (y + 2 ^ n)) (x ^^^ 2 ^ i)) fun x hx => by
        show g _ = g _
        rw [add_pow hx, xc, ← add_pow (flip_lt (by omega) hx)], sm_flip n i (by omega) (fun y => g (y + 2 ^ n))]
/-- What pairs of inputs come to. -/
theorem sm_pair {n i : Nat} (hi : i < n) {g h : Nat → Int} (c : Int) (e : ∀ x, g x + g (x ^^^ 2 ^ i) = c * (h x + h (x ^^^ 2 ^ i))) : sm n g = c * sm n h := by
  have h1 : sm n (fun x => g x + g (x ^^^ 2 ^ i)) = sm n g + sm n g := by rw [sm_add, sm_flip n i hi g]
  have h2 : sm n (fun x => c * (h x + h (x ^^^ 2 ^ i))) = c * (sm n h + sm n h) := by rw [sm_mul, sm_add, sm_flip n i hi h]
  rw [show (fun x => g x + g (x ^^^ 2 ^ i)) = fun x => c * (h x + h (x ^^^ 2 ^ i)) from funext e, h2, Int.mul_add] at h1
  omega
def wsh (a b : Int) : Int × Int := (a + b, a - b)
theorem sq2 (a b : Int) : (a + b) * (a + b) + (a - b) * (a - b) = 2 * (a * a + b * b) := by
  rw [Int.add_mul, Int.sub_mul, Int.mul_add, Int.mul_add, Int.mul_sub, Int.mul_sub, Int.mul_comm b a]
  omega
theorem wsh_pair (i : Nat) (l : Nat → Int) (x : Nat) : stg wsh i l x * stg wsh i l x + stg wsh i l (x ^^^ 2 ^ i) * stg wsh i l (x ^^^ 2 ^ i) = 2 * (l x * l x + l (x ^^^ 2 ^ i) * l (x ^^^ 2 ^ i)) := by
  cases h : x.testBit i
  · rw [stg_f h, stg_t (x := x ^^^ 2 ^ i) (by rw [tb_same, h]; rfl), xx]
    exact sq2 _ _
  · rw [stg_t h, stg_f (x := x ^^^ 2 ^ i) (by rw [tb_same, h]; rfl), xx]
    have := sq2 (l (x ^^^ 2 ^ i)) (l x)
    simp only [wsh]
    omega
theorem energy {n i : Nat} (hi : i < n) (l : Nat → Int) : sm n (fun x => stg wsh i l x * stg wsh i l x) = 2 * sm n (fun x => l x * l x) := sm_pair hi 2 (wsh_pair i l)
theorem energy_trn (n : Nat) (l : Nat → Int) : ∀ k, k ≤ n → sm n (fun x => trn wsh k l x * trn wsh k l x) = 2 ^ k * sm n (fun x => l x * l x)
  | 0, _ => by simp [trn]
  | k + 1, hk => by
    simp only [trn]
    rw [energy (by omega), energy_trn n l k (by omega), Int.pow_succ, ← Int.mul_assoc, Int.mul_comm 2]
/-- The squares at the inputs that have a bit. -/
def rB (n i : Nat) (l : Nat → Int) : Int := sm n fun x => match x.testBit i with | true => l x * l x | false => 0
/-- The squares of the differences over a bit. -/
def qB (n i : Nat) (l : Nat → Int) : Int := sm n fun x => (l x - l (x ^^^ 2 ^ i)) * (l x - l (x ^^^ 2 ^ i))
theorem rB_step {n i j : Nat} (hij : i ≠ j) (hj : j < n) (l : Nat → Int) : rB n i (stg wsh j l) = 2 * rB n i l := by
  refine sm_pair hj 2 fun x => ?_
  rw [tb_other (Ne.symm hij)]
  cases x.testBit i
  · rfl
  · exact wsh_pair j l x
theorem qB_step {n i j : Nat} (hij : i ≠ j) (hj : j < n) (l : Nat → Int) : qB n i (stg wsh j l) = 2 * qB n i l := by
  have key : (fun x => stg wsh j l x - stg wsh j l (x ^^^ 2 ^ i)) = stg wsh j (fun x => l x - l (x ^^^ 2 ^ i)) := by
    funext x
    cases h : x.testBit j
    · rw [stg_f h, stg_f (x := x ^^^ 2 ^ i) ((tb_other hij x).trans h), stg_f h, xc x i j]
      simp only [wsh]
      omega
    · rw [stg_t h, stg_t (x := x ^^^ 2 ^ i) ((tb_other hij x).trans h), stg_t h, xc x i j]
      simp only [wsh]
      omega
  unfold qB
  have k1 : (fun x => (stg wsh j l x - stg wsh j l (x ^^^ 2 ^ i)) * (stg wsh j l x - stg wsh j l (x ^^^ 2 ^ i))) = fun x => stg wsh j (fun x => l x - l (x ^^^ 2 ^ i)) x * stg wsh j (fun x => l x - l (x ^^^ 2 ^ i)) x := by
    funext x
    have e : stg wsh j l x - stg wsh j l (x ^^^ 2 ^ i) = stg wsh j (fun x => l x - l (x ^^^ 2 ^ i)) x := congrFun key x
    rw [e]
  rw [k1]
  exact energy hj fun x => l x - l (x ^^^ 2 ^ i)
theorem rq {n i : Nat} (hi : i < n) (l : Nat → Int) : 2 * rB n i (stg wsh i l) = qB n i l := by
  unfold rB qB
  have h1 : sm n (fun x => (match x.testBit i with | true => stg wsh i l x * stg wsh i l x | false => 0)) + sm n (fun x => (match x.testBit i with | true => stg wsh i l x * stg wsh i l x | false => 0)) = sm n (fun x => (l x - l (x ^^^ 2 ^ i)) * (l x - l (x ^^^ 2 ^ i))) := by
    conv => lhs; rhs; rw [← sm_flip n i hi]
    rw [← sm_add]
    congr 1
    funext x
    simp only [tb_same]
    cases h : x.testBit i
    · simp only [Bool.not_false]
      rw [stg_t (x := x ^^^ 2 ^ i) (by rw [tb_same, h]; rfl), xx]
      simp only [wsh]
      omega
    · simp only [Bool.not_true]
      rw [stg_t h]
      simp only [wsh]
      have : (l (x ^^^ 2 ^ i) - l x) = -(l x - l (x ^^^ 2 ^ i)) := by omega
      rw [this, Int.neg_mul_neg]
      omega
  omega
theorem qB_trn {n i : Nat} (hi : i < n) (l : Nat → Int) : ∀ k, k ≤ i → qB n i (trn wsh k l) = 2 ^ k * qB n i l
  | 0, _ => by simp [trn]
  | k + 1, hk => by
    simp only [trn]
    rw [qB_step (by omega) (by omega), qB_trn hi l k (by omega), Int.pow_succ, ← Int.mul_assoc, Int.mul_comm 2]
theorem rB_trn {n i : Nat} (hi : i < n) (l : Nat → Int) : ∀ k, i + 1 + k ≤ n → 2 * rB n i (trn wsh (i + 1 + k) l) = 2 ^ (i + k) * qB n i l
  | 0, _ => by
    show 2 * rB n i (stg wsh i (trn wsh i l)) = _
    rw [rq hi, qB_trn hi l i (Nat.le_refl _)]
    rfl
  | k + 1, hk => by
    show 2 * rB n i (stg wsh (i + 1 + k) (trn wsh (i + 1 + k) l)) = _
    rw [rB_step (by omega) (by omega), ← Int.mul_assoc, Int.mul_comm 2 2, Int.mul_assoc, rB_trn hi l k (by omega), ← Int.mul_assoc, show i + (k + 1) = i + k + 1 from rfl, Int.pow_succ, Int.mul_comm 2]
/-- A function's values as signs. -/
def sgn (f : Nat → Bool) (x : Nat) : Int := if f x = true then -1 else 1
def cnt (n i : Nat) (f : Nat → Bool) : Int := sm n fun x => if f (x ^^^ 2 ^ i) ≠ f x then 1 else 0
theorem parseval (n : Nat) (f : Nat → Bool) : sm n (fun x => trn wsh n (sgn f) x * trn wsh n (sgn f) x) = 2 ^ n * 2 ^ n := by
  rw [energy_trn n _ n (Nat.le_refl _), ← sm_one n]
  congr 1
  refine congrArg (sm n) (funext fun x => ?_)
  unfold sgn
  split <;> rfl
theorem influence {n i : Nat} (hi : i < n) (f : Nat → Bool) : cnt n i f * 2 ^ n = rB n i (trn wsh n (sgn f)) := by
  have h1 := rB_trn hi (sgn f) (n - (i + 1)) (by omega)
  have h2 : qB n i (sgn f) = 4 * cnt n i f := by
    unfold qB cnt
    rw [← sm_mul]
    refine congrArg (sm n) (funext fun x => ?_)
    unfold sgn
    cases f x <;> cases f (x ^^^ 2 ^ i) <;> rfl
  rw [h2, show i + 1 + (n - (i + 1)) = n by omega, show i + (n - (i + 1)) = n - 1 by omega] at h1
  obtain ⟨m, rfl⟩ : ∃ m, n = m + 1 := ⟨n - 1, by omega⟩
  rw [Nat.add_sub_cancel] at h1
  rw [Int.pow_succ]
  generalize cnt (m + 1) i f = c at *
  generalize (2 : Int) ^ m = p at *
  have e1 : p * (4 * c) = 4 * (p * c) := Int.mul_left_comm p 4 c
  have e2 : c * (p * 2) = 2 * (p * c) := by rw [← Int.mul_assoc, Int.mul_comm c p, Int.mul_comm]
  omega
/-- How large the numbers become. -/
theorem trn_le {s : Int → Int → Int × Int} (hs : ∀ a b B : Int, -B ≤ a → a ≤ B → -B ≤ b → b ≤ B → (-(2 * B) ≤ (s a b).1 ∧ (s a b).1 ≤ 2 * B) ∧ (-(2 * B) ≤ (s a b).2 ∧ (s a b).2 ≤ 2 * B)) {l : Nat → Int} {B : Int} (hl : ∀ x, -B ≤ l x ∧ l x ≤ B) : ∀ k x, -(2 ^ k * B) ≤ trn s k l x ∧ trn s k l x ≤ 2 ^ k * B
  | 0, x => by simpa [trn] using hl x
  | k + 1, x => by
    have ih := trn_le hs hl k
    have e : (2 : Int) ^ (k + 1) * B = 2 * (2 ^ k * B) := by rw [Int.pow_succ, Int.mul_comm ((2 : Int) ^ k), Int.mul_assoc]
    rw [e]
    simp only [trn]
    cases h : x.testBit k
    · rw [stg_f h]
      exact (hs _ _ _ (ih x).1 (ih x).2 (ih _).1 (ih _).2).1
    · rw [stg_t h]
      exact (hs _ _ _ (ih _).1 (ih _).2 (ih x).1 (ih x).2).2
end Go.Proofs.Ytnfboopfpkaeaaa.Nim
/- Whole numbers of 64 bits as natural numbers. -/
namespace Go.Proofs.Ytnfboopfpkaeaaa.Nim

abbrev andI (x y : Int) : Int := IntKind.wrap .i64 ((BitVec.ofInt 64 x &&& BitVec.ofInt 64 y).toNat : Int)
abbrev orI (x y : Int) : Int := IntKind.wrap .i64 ((BitVec.ofInt 64 x ||| BitVec.ofInt 64 y).toNat : Int)
abbrev xorI (x y : Int) : Int := IntKind.wrap .i64 ((BitVec.ofInt 64 x ^^^ BitVec.ofInt 64 y).toNat : Int)
abbrev shlI (x : Int) (n : Nat) : Int := IntKind.wrap .i64 (x * 2 ^ n)
abbrev shrI (x : Int) (n : Nat) : Int := x.fdiv (2 ^ n)

theorem wrap_nat {n : Nat} (h : n < 2 ^ 63) : IntKind.wrap .i64 (Int.ofNat n) = Int.ofNat n := by
  unfold IntKind.wrap
  have h1 : (Int.ofNat n) % (2 ^ IntKind.i64.bits : Int) = Int.ofNat n := Int.emod_eq_of_lt (by simp) (by
    show (n : Int) < 2 ^ 64
    have : (n : Int) < ((2 ^ 63 : Nat) : Int) := by exact_mod_cast h
    simp at this
    omega)
  simp only [h1]
  have h2 : ¬ ((Int.ofNat n : Int) ≥ (2 ^ (IntKind.i64.bits - 1) : Int)) := by
    show ¬ ((n : Int) ≥ 2 ^ 63)
    have : (n : Int) < ((2 ^ 63 : Nat) : Int) := by exact_mod_cast h
    simp at this
    omega
  have h3 : decide ((Int.ofNat n : Int) ≥ (2 ^ (IntKind.i64.bits - 1) : Int)) = false := decide_eq_false h2
  simp only [h3, Bool.and_false]
  rfl

theorem ofInt_nat (n : Nat) : BitVec.ofInt 64 (Int.ofNat n) = BitVec.ofNat 64 n := by
  simp [BitVec.ofInt_natCast]

theorem and_nat {a b : Nat} (ha : a < 2 ^ 63) : andI (Int.ofNat a) (Int.ofNat b) = Int.ofNat (a &&& b) := by
  unfold andI
  rw [ofInt_nat, ofInt_nat, BitVec.toNat_and, BitVec.toNat_ofNat, BitVec.toNat_ofNat]
  have h1 : a % 2 ^ 64 = a := Nat.mod_eq_of_lt (by omega)
  have h2 : a &&& b % 2 ^ 64 = a &&& b := by
    apply Nat.eq_of_testBit_eq
    intro i
    simp only [Nat.testBit_and, Nat.testBit_mod_two_pow]
    by_cases hi : i < 64
    · simp [hi]
    · have : a.testBit i = false := Nat.testBit_lt_two_pow (Nat.lt_of_lt_of_le (show a < 2 ^ 64 by omega) (Nat.pow_le_pow_right (by omega) (by omega)))
      simp [this]
  rw [h1, h2]
  exact wrap_nat (Nat.lt_of_le_of_lt Nat.and_le_left ha)

theorem xor_nat {a b : Nat} (ha : a < 2 ^ 63) (hb : b < 2 ^ 63) : xorI (Int.ofNat a) (Int.ofNat b) = Int.ofNat (a ^^^ b) := by
  unfold xorI
  rw [ofInt_nat, ofInt_nat, BitVec.toNat_xor, BitVec.toNat_ofNat, BitVec.toNat_ofNat]
  rw [Nat.mod_eq_of_lt (show a < 2 ^ 64 by omega), Nat.mod_eq_of_lt (show b < 2 ^ 64 by omega)]
  exact wrap_nat (Nat.xor_lt_two_pow ha hb)

theorem shr_nat (a n : Nat) : shrI (Int.ofNat a) n = Int.ofNat (a / 2 ^ n) := by
  show Int.fdiv (a : Int) (2 ^ n) = _
  have : (2 : Int) ^ n = ((2 ^ n : Nat) : Int) := by simp
  rw [this, Int.fdiv_eq_ediv_of_nonneg _ (Int.natCast_nonneg _)]
  exact (Int.natCast_ediv a (2 ^ n)).symm

theorem shl_nat {a n : Nat} (h : a * 2 ^ n < 2 ^ 63) : shlI (Int.ofNat a) n = Int.ofNat (a * 2 ^ n) := by
  unfold shlI
  have : (Int.ofNat a) * (2 : Int) ^ n = Int.ofNat (a * 2 ^ n) := by simp
  rw [this, wrap_nat h]

theorem or_nat {a b : Nat} (ha : a < 2 ^ 63) (hb : b < 2 ^ 63) : orI (Int.ofNat a) (Int.ofNat b) = Int.ofNat (a ||| b) := by
  unfold orI
  rw [ofInt_nat, ofInt_nat, BitVec.toNat_or, BitVec.toNat_ofNat, BitVec.toNat_ofNat]
  rw [Nat.mod_eq_of_lt (show a < 2 ^ 64 by omega), Nat.mod_eq_of_lt (show b < 2 ^ 64 by omega)]
  exact wrap_nat (Nat.or_lt_two_pow ha hb)
theorem wrap_int {x : Int} (h0 : -(2 ^ 63) ≤ x) (h1 : x < 2 ^ 63) : IntKind.wrap .i64 x = x := by
  cases x with
  | ofNat n => exact wrap_nat (by simp at h1; omega)
  | negSucc n =>
    have hn : n < 2 ^ 63 := by omega
    unfold IntKind.wrap
    have e1 : (Int.negSucc n) % (2 ^ IntKind.i64.bits : Int) = Int.ofNat (2 ^ 64 - 1 - n) := by
      show (Int.negSucc n) % (2 ^ 64 : Int) = _
      simp only [Int.ofNat_eq_natCast]
      omega
    simp only [e1]
    have h3 : decide ((Int.ofNat (2 ^ 64 - 1 - n) : Int) ≥ (2 ^ (IntKind.i64.bits - 1) : Int)) = true := by
      refine decide_eq_true ?_
      show ((2 ^ 64 - 1 - n : Nat) : Int) ≥ 2 ^ 63
      omega
    simp only [h3, Bool.and_true, show IntKind.i64.signed = true from rfl, if_true]
    show ((2 ^ 64 - 1 - n : Nat) : Int) - 2 ^ 64 = _
    omega
/-- One bit of a number. -/
theorem and_bit (x i : Nat) : (x &&& 2 ^ i = 0) ↔ x.testBit i = false := by
  constructor
  · intro h
    have : (x &&& 2 ^ i).testBit i = x.testBit i := by simp [Nat.testBit_and, Nat.testBit_two_pow]
    rw [← this, h, Nat.zero_testBit]
  · intro h
    apply Nat.eq_of_testBit_eq
    intro j
    rw [Nat.testBit_and, Nat.testBit_two_pow, Nat.zero_testBit]
    by_cases hij : i = j
    · subst hij; simp [h]
    · simp [hij]
theorem or_bit {x i : Nat} (h : x.testBit i = false) : x ||| 2 ^ i = x ^^^ 2 ^ i := by
  apply Nat.eq_of_testBit_eq
  intro j
  rw [Nat.testBit_or, Nat.testBit_xor, Nat.testBit_two_pow]
  by_cases hij : i = j
  · subst hij; simp [h]
  · simp [hij]
end Go.Proofs.Ytnfboopfpkaeaaa.Nim
/- CubeA: contracts of functions. -/
namespace Go.Proofs.Ytnfboopfpkaeaaa
open Go Go.Eng Nim
set_option maxRecDepth 100000
/-- A number that is not less than 0. -/
abbrev J (a : Nat) : Value := .int .i64 (Int.ofNat a)
/-- A number of Go's int. -/
abbrev I (z : Int) : Value := .int .i64 z
noncomputable abbrev Ev (lf n f : Nat) (l : List Value) (h : Hp) := evInv Try.prog orc lf n (.fn f l) h
theorem ok_nat {a b : Nat} (h : decide (Int.ofNat a < Int.ofNat b) = true) : a < b := by have := of_decide_eq_true h; simpa using this
theorem no_nat {a b : Nat} (h : decide (Int.ofNat a < Int.ofNat b) = false) : b ≤ a := by have := of_decide_eq_false h; simp at this; omega
theorem ne_no {a b : Nat} (h : a = b) : (Int.ofNat a != Int.ofNat b) = false := by subst h; exact bne_self_eq_false _
/-- The number of bits of a table. -/
theorem size_of (n : Nat) (hn : n ≤ 6) (m : Nat) (h : Hp) : Ev 100000 (m + 10) 56 [J (2 ^ n)] h = some (.tuple #[J n, .bool true], h) := by
  rcases (by omega : n = 0 ∨ n = 1 ∨ n = 2 ∨ n = 3 ∨ n = 4 ∨ n = 5 ∨ n = 6) with rfl | rfl | rfl | rfl | rfl | rfl | rfl <;> kernel_rfl
theorem number_of (b : Bool) (m : Nat) (h : Hp) : Ev 100000 (m + 10) 74 [.bool b] h = some (I (if b = true then 1 else 0), h) := by
  cases b <;> kernel_rfl
end Go.Proofs.Ytnfboopfpkaeaaa
/- CubeT: contracts of functions. -/
namespace Go.Proofs.Ytnfboopfpkaeaaa
open Go Go.Eng Nim
set_option maxRecDepth 100000
set_option maxHeartbeats 4000000
/-- The lower of a pair. -/
def low (i y : Nat) : Nat := match y.testBit i with | true => y ^^^ 2 ^ i | false => y
/-- The vector when the pairs of which the lower is less than x are turned. -/
def mid {α : Type} (s : α → α → α × α) (i x : Nat) (v : Nat → α) : Nat → α := fun y => if low i y < x then stg s i v y else v y
theorem low_f {i y : Nat} (h : y.testBit i = false) : low i y = y := by unfold low; rw [h]
theorem low_t {i y : Nat} (h : y.testBit i = true) : low i y = y ^^^ 2 ^ i := by unfold low; rw [h]
theorem low_bit (i y : Nat) : (low i y).testBit i = false := by
  cases h : y.testBit i
  · rw [low_f h, h]
  · rw [low_t h, tb_same, h]; rfl
theorem low_lt {n i y : Nat} (hi : i < n) (hy : y < 2 ^ n) : low i y < 2 ^ n := by
  cases h : y.testBit i
  · rw [low_f h]; exact hy
  · rw [low_t h]; exact flip_lt hi hy
theorem mid_zero {α : Type} (s : α → α → α × α) (i : Nat) (v : Nat → α) : mid s i 0 v = v := by
  funext y
  unfold mid
  rw [if_neg (Nat.not_lt_zero _)]
theorem mid_end {α : Type} (s : α → α → α × α) {n i : Nat} (hi : i < n) (v : Nat → α) {y : Nat} (hy : y < 2 ^ n) : mid s i (2 ^ n) v y = stg s i v y := if_pos (low_lt hi hy)
theorem mid_skip {α : Type} (s : α → α → α × α) {i x : Nat} (h : x.testBit i = true) (v : Nat → α) : mid s i (x + 1) v = mid s i x v := by
  funext y
  unfold mid
  have : low i y ≠ x := fun hc => by have := low_bit i y; rw [hc, h] at this; cases this
  by_cases hl : low i y < x
  · rw [if_pos hl, if_pos (by omega)]
  · rw [if_neg hl, if_neg (by omega)]
theorem mid_lo {α : Type} (s : α → α → α × α) {i x : Nat} (h : x.testBit i = false) (v : Nat → α) : mid s i x v x = v x := by
  unfold mid
  rw [low_f h, if_neg (Nat.lt_irrefl _)]
theorem mid_hi {α : Type} (s : α → α → α × α) {i x : Nat} (h : x.testBit i = false) (v : Nat → α) : mid s i x v (x ^^^ 2 ^ i) = v (x ^^^ 2 ^ i) := by
  unfold mid
  rw [low_t (by rw [tb_same, h]; rfl), xx, if_neg (Nat.lt_irrefl _)]
theorem mid_next {α : Type} (s : α → α → α × α) {i x : Nat} (h : x.testBit i = false) (v : Nat → α) (y : Nat) : (if y = x ^^^ 2 ^ i then (s (v x) (v (x ^^^ 2 ^ i))).2 else if y = x then (s (v x) (v (x ^^^ 2 ^ i))).1 else mid s i x v y) = mid s i (x + 1) v y := by
  have ht : (x ^^^ 2 ^ i).testBit i = true := by rw [tb_same, h]; rfl
  by_cases h1 : y = x ^^^ 2 ^ i
  · rw [if_pos h1, h1]
    unfold mid
    rw [low_t ht, xx, if_pos (Nat.lt_succ_self _), stg_t ht, xx]
  · rw [if_neg h1]
    by_cases h2 : y = x
    · rw [if_pos h2, h2]
      unfold mid
      rw [low_f h, if_pos (Nat.lt_succ_self _), stg_f h]
    · rw [if_neg h2]
      have : low i y ≠ x := by
        intro hc
        cases hb : y.testBit i
        · rw [low_f hb] at hc; exact h2 hc
        · rw [low_t hb] at hc
          exact h1 (by rw [← hc, xx])
      unfold mid
      by_cases hl : low i y < x
      · rw [if_pos hl, if_pos (by omega)]
      · rw [if_neg hl, if_neg (by omega)]

/-- Ints in block b. -/
structure ArI (b N : Nat) (v : Nat → Int) (h : Hp) : Prop where
  lt : b < h.next
  get : ∃ opn, h.get b = some (.cells (cellsF N fun x => I (v x)) 3 opn)
theorem uI : Try.prog.underlying 50 = some (.slice 3) := by kernel_rfl
theorem zI : sizeT Try.prog 3 = some 1 := by kernel_rfl
theorem agI : isAggT Try.prog 3 = some false := by kernel_rfl
theorem idxI {b N c v : Nat} (hv : v < N) : indexAddrOp Try.prog 50 (.slice (some ⟨b, 0, none⟩) N c) (J v) = some (ptr b v) := by
  rw [idxSl uI zI hv, Nat.zero_add, Nat.mul_one]
theorem ArI.read {b N : Nat} {v : Nat → Int} {h : Hp} (H : ArI b N v h) {x : Nat} (hx : x < N) : loadT Try.prog h 3 (ptr b x) = some (I (v x)) := by
  obtain ⟨o, e⟩ := H.get
  exact load1 agI e (cellsF_get hx)
theorem ArI.store {b N : Nat} {v : Nat → Int} {h : Hp} (H : ArI b N v h) {x : Nat} (hx : x < N) (z : Int) : ∃ g, storeT Try.prog h 3 (ptr b x) (I z) = some g ∧ ArI b N (fun y => if y = x then z else v y) g ∧ g.next = h.next ∧ ∀ j, j ≠ b → g.get j = h.get j := by
  obtain ⟨o, e⟩ := H.get
  refine ⟨_, store1 zI rfl e (by rw [cellsF_len]; exact hx), ⟨H.lt, o, ?_⟩, rfl, fun j hj => Hp.get_put_ne hj⟩
  rw [cellsF_set, get_put]
  refine congrArg (fun l => some (AObj.cells l 3 o)) (cellsF_congr fun y _ => ?_)
  show (if y = x then I z else I (v y)) = I (if y = x then z else v y)
  by_cases hy : y = x
  · rw [if_pos hy, if_pos hy]
  · rw [if_neg hy, if_neg hy]
theorem ArI.congr {b N : Nat} {v v' : Nat → Int} {h : Hp} (H : ArI b N v h) (e : ∀ x, x < N → v x = v' x) : ArI b N v' h := by
  obtain ⟨o, e'⟩ := H.get
  exact ⟨H.lt, o, by rw [e']; exact congrArg (fun l => some (AObj.cells l 3 o)) (cellsF_congr fun x hx => by rw [e x hx])⟩
theorem ArI.rds {b N : Nat} {v : Nat → Int} {h : Hp} (H : ArI b N v h) (c : Nat) : Rds h (.slice (some ⟨b, 0, none⟩) N c) (cellsF N fun x => I (v x)) := by
  obtain ⟨o, e⟩ := H.get
  exact rd_cells H.lt e
theorem turnI (k : Nat) (s : Int → Int → Int × Int) (n : Nat) (hn : n ≤ 6) (Bd : Int → Prop) (v : Nat → Int) (hB : ∀ i x, i ≤ n → Bd (trn s i v x)) (lf m : Nat) (hlf : 300 ≤ lf) (h : Hp)
    (st : ∀ a b h, Bd a → Bd b → Ev lf m k [I a, I b] h = some (.tuple #[I (s a b).1, I (s a b).2], h)) (b c : Nat) (A : ArI b (2 ^ n) v h) :
    ∃ x h', Ev lf (m+1) 68 [.slice (some ⟨b, 0, none⟩) (2 ^ n) c, .func (.func k) #[] #[]] h = some (x, h') ∧ x = .tuple #[] ∧ ArI b (2 ^ n) (trn s n v) h' ∧ h'.next = h.next ∧ ∀ j, j ≠ b → h'.get j = h.get j := by
  have hp64 : 2 ^ n ≤ 64 := Nat.pow_le_pow_right (n := 2) (by decide) hn
  refine fnS_ok (Q := fun x h' => x = .tuple #[] ∧ ArI b (2 ^ n) (trn s n v) h' ∧ h'.next = h.next ∧ ∀ j, j ≠ b → h'.get j = h.get j) ?_
  generalize hN : 2 ^ n = N at *
  refine ok_go 0 ?_
  refine sy_loop 0 lf h (α := Nat) (fun i => [(0, .slice (some ⟨b, 0, none⟩) N c), (1, .func (.func k) #[] #[]), (4, J (2 ^ i))]) (fun i g => i ≤ n ∧ ArI b N (trn s i v) g ∧ g.next = h.next ∧ ∀ j, j ≠ b → g.get j = h.get j) (fun i _ => n - i) 0 (by kernel_rfl) (by kernel_rfl) ⟨by kernel_rfl, by kernel_rfl, by kernel_rfl, trivial⟩ (show n - 0 < lf by omega) ⟨Nat.zero_le _, A, rfl, fun _ _ => rfl⟩ ?_
  rintro m1 i f1 g1 ⟨hi, A1, n1, o1⟩ ih1
  have hpi : 2 ^ i ≤ 64 := Nat.le_trans (Nat.pow_le_pow_right (n := 2) (by decide) hi) (by omega)
  refine ok_go 2 ?_
  refine sy_test 0 (decide (Int.ofNat (2 ^ i) < Int.ofNat N)) (by kernel_rfl) ?_ ?_
  · intro hlt
    have hlt := ok_nat hlt
    have hin : i < n := by
      rw [← hN] at hlt
      exact (Nat.pow_lt_pow_iff_right (by decide)).1 hlt
    generalize hv : trn s i v = w at A1
    have hBw : ∀ x, Bd (w x) := fun x => by rw [← hv]; exact hB i x hi
    have hnext : trn s (i + 1) v = stg s i w := by rw [← hv]; rfl
    generalize hP : 2 ^ i = P at *
    refine ok_go 1 ?_
    refine sy_loop 0 lf g1 (α := Nat) (fun x => [(0, .slice (some ⟨b, 0, none⟩) N c), (1, .func (.func k) #[] #[]), (4, J P), (12, .slice (some ⟨b, 0, none⟩) N c), (13, J N), (14, J x)]) (fun x g => x ≤ N ∧ ArI b N (mid s i x w) g ∧ g.next = h.next ∧ ∀ j, j ≠ b → g.get j = h.get j) (fun x _ => N - x) 0 (by kernel_rfl) (by kernel_rfl) ⟨by kernel_rfl, by kernel_rfl, by kernel_rfl, by kernel_rfl, by kernel_rfl, by kernel_rfl, trivial⟩ (show N - 0 < lf by omega) ⟨Nat.zero_le _, by rw [mid_zero]; exact A1, n1, o1⟩ ?_
    rintro m2 x f2 g2 ⟨hx, A2, n2, o2⟩ ih2
    refine ok_go 1 ?_
    refine sy_test 0 (decide (Int.ofNat x < Int.ofNat N)) (by kernel_rfl) ?_ ?_
    · intro hxl
      have hxl := ok_nat hxl
      have hP63 : P < 2 ^ 63 := by omega
      have hx63 : x < 2 ^ 63 := by omega
      refine ok_go 2 ?_
      refine sy_test 0 (andI (Int.ofNat x) (Int.ofNat P) == 0) (by kernel_rfl) ?_ ?_
      · intro hb
        have hb : x.testBit i = false := by
          rw [and_nat hx63] at hb
          have hb : Int.ofNat (x &&& P) = Int.ofNat 0 := eq_of_beq hb
          rw [← hP] at hb
          exact (and_bit x i).1 (Int.ofNat.inj hb)
        have hor : orI (Int.ofNat x) (Int.ofNat P) = Int.ofNat (x ^^^ P) := by
          rw [or_nat hx63 hP63, ← hP, or_bit hb]
        have hfl : x ^^^ P < N := by
          rw [← hN, ← hP]
          exact flip_lt hin (by rw [hN]; exact hxl)
        have r1 := A2.read hxl
        rw [mid_lo s hb w] at r1
        have r2 := A2.read hfl
        rw [← hP, mid_hi s hb w, hP] at r2
        obtain ⟨g3, e3, A3, n3, o3⟩ := A2.store hxl (s (w x) (w (x ^^^ P))).1
        obtain ⟨g4, e4, A4, n4, o4⟩ := A3.store hfl (s (w x) (w (x ^^^ P))).2
        refine ok_go 1 ?_
        refine sy_load 0 (r := indexAddrOp Try.prog 50 (.slice (some ⟨b, 0, none⟩) N c) (J x)) (h' := g2) (by kernel_rfl) (idxI hxl) ?_
        refine ok_go 0 ?_
        refine sy_load 0 (r := loadT Try.prog g2 3 (ptr b x)) (h' := g2) (by kernel_rfl) r1 ?_
        refine ok_go 1 ?_
        refine sy_load 0 (r := indexAddrOp Try.prog 50 (.slice (some ⟨b, 0, none⟩) N c) (.int .i64 (orI (Int.ofNat x) (Int.ofNat P)))) (h' := g2) (by kernel_rfl) (by rw [hor]; exact idxI hfl) ?_
        refine ok_go 0 ?_
        refine sy_load 0 (r := loadT Try.prog g2 3 (ptr b (x ^^^ P))) (h' := g2) (by kernel_rfl) r2 ?_
        refine ok_go 0 ?_
        refine sy_call 0 (by kernel_rfl) (st (w x) (w (x ^^^ P)) g2 (hBw _) (hBw _)) ?_
        refine ok_go 2 ?_
        refine sy_load 0 (r := indexAddrOp Try.prog 50 (.slice (some ⟨b, 0, none⟩) N c) (J x)) (h' := g2) (by kernel_rfl) (idxI hxl) ?_
        refine ok_go 0 ?_
        refine sy_store 0 (r := storeT Try.prog g2 3 (ptr b x) (I (s (w x) (w (x ^^^ P))).1)) (by kernel_rfl) e3 ?_
        refine ok_go 0 ?_
        refine sy_load 0 (r := indexAddrOp Try.prog 50 (.slice (some ⟨b, 0, none⟩) N c) (.int .i64 (orI (Int.ofNat x) (Int.ofNat P)))) (h' := g3) (by kernel_rfl) (by rw [hor]; exact idxI hfl) ?_
        refine ok_go 0 ?_
        refine sy_store 0 (r := storeT Try.prog g3 3 (ptr b (x ^^^ P)) (I (s (w x) (w (x ^^^ P))).2)) (by kernel_rfl) e4 ?_
        refine ok_go 1 ?_
        exact sy_next 0 _ g4 (by kernel_rfl) (by kernel_rfl) (ih2 (x + 1) _ g4 ⟨hxl, A4.congr fun y _ => by rw [← hP]; exact mid_next s hb w y, by rw [n4, n3, n2], fun j hj => (o4 j hj).trans ((o3 j hj).trans (o2 j hj))⟩ (show N - (x + 1) < N - x by omega) ⟨by kernel_rfl, by kernel_rfl, by kernel_rfl, by kernel_rfl, by kernel_rfl, (by kernel_rfl : _ = Value.int .i64 (IntKind.wrap .i64 (Int.ofNat (x + 1)))).trans (by rw [wrap_nat (by omega)]), trivial⟩)
      · intro hb
        have hb : x.testBit i = true := by
          rw [and_nat hx63] at hb
          cases hc : x.testBit i with
          | true => rfl
          | false =>
            rw [← hP, (and_bit x i).2 hc] at hb
            cases hb
        refine ok_go 1 ?_
        exact sy_next 0 _ g2 (by kernel_rfl) (by kernel_rfl) (ih2 (x + 1) _ g2 ⟨hxl, by rw [mid_skip s hb]; exact A2, n2, o2⟩ (show N - (x + 1) < N - x by omega) ⟨by kernel_rfl, by kernel_rfl, by kernel_rfl, by kernel_rfl, by kernel_rfl, (by kernel_rfl : _ = Value.int .i64 (IntKind.wrap .i64 (Int.ofNat (x + 1)))).trans (by rw [wrap_nat (by omega)]), trivial⟩)
    · intro hxl
      have hxl := no_nat hxl
      have hxN : x = N := by omega
      rw [hxN] at A2
      have A5 : ArI b N (trn s (i + 1) v) g2 := by
        rw [hnext]
        refine A2.congr fun y hy => ?_
        rw [← hN] at hy ⊢
        exact mid_end s hin w hy
      refine ok_go 1 ?_
      exact sy_next 0 _ g2 (by kernel_rfl) (by kernel_rfl) (ih1 (i + 1) _ g2 ⟨hin, A5, n2, o2⟩ (show n - (i + 1) < n - i by omega) ⟨by kernel_rfl, by kernel_rfl, (by kernel_rfl : _ = Value.int .i64 (IntKind.wrap .i64 (Int.ofNat (P * 2)))).trans (by rw [wrap_nat (by omega), ← hP, ← Nat.pow_succ]), trivial⟩)
  · intro hlt
    have hlt := no_nat hlt
    have hin : i = n := by
      rcases Nat.lt_or_ge i n with hc | hc
      · have := (Nat.pow_lt_pow_iff_right (a := 2) (by decide)).2 hc
        omega
      · omega
    subst hin
    refine ok_go 0 ?_
    exact sy_done 0 (v := .tuple #[]) (h := g1) (by kernel_rfl) ⟨rfl, A1, n1, o1⟩

/-- Bools in block b. -/
structure ArB (b N : Nat) (v : Nat → Bool) (h : Hp) : Prop where
  lt : b < h.next
  get : ∃ opn, h.get b = some (.cells (cellsF N fun x => Value.bool (v x)) 4 opn)
theorem uB : Try.prog.underlying 27 = some (.slice 4) := by kernel_rfl
theorem zB : sizeT Try.prog 4 = some 1 := by kernel_rfl
theorem agB : isAggT Try.prog 4 = some false := by kernel_rfl
theorem idxB {b N c v : Nat} (hv : v < N) : indexAddrOp Try.prog 27 (.slice (some ⟨b, 0, none⟩) N c) (J v) = some (ptr b v) := by
  rw [idxSl uB zB hv, Nat.zero_add, Nat.mul_one]
theorem ArB.read {b N : Nat} {v : Nat → Bool} {h : Hp} (H : ArB b N v h) {x : Nat} (hx : x < N) : loadT Try.prog h 4 (ptr b x) = some (Value.bool (v x)) := by
  obtain ⟨o, e⟩ := H.get
  exact load1 agB e (cellsF_get hx)
theorem ArB.store {b N : Nat} {v : Nat → Bool} {h : Hp} (H : ArB b N v h) {x : Nat} (hx : x < N) (z : Bool) : ∃ g, storeT Try.prog h 4 (ptr b x) (Value.bool z) = some g ∧ ArB b N (fun y => if y = x then z else v y) g ∧ g.next = h.next ∧ ∀ j, j ≠ b → g.get j = h.get j := by
  obtain ⟨o, e⟩ := H.get
  refine ⟨_, store1 zB rfl e (by rw [cellsF_len]; exact hx), ⟨H.lt, o, ?_⟩, rfl, fun j hj => Hp.get_put_ne hj⟩
  rw [cellsF_set, get_put]
  refine congrArg (fun l => some (AObj.cells l 4 o)) (cellsF_congr fun y _ => ?_)
  show (if y = x then Value.bool z else Value.bool (v y)) = Value.bool (if y = x then z else v y)
  by_cases hy : y = x
  · rw [if_pos hy, if_pos hy]
  · rw [if_neg hy, if_neg hy]
theorem ArB.congr {b N : Nat} {v v' : Nat → Bool} {h : Hp} (H : ArB b N v h) (e : ∀ x, x < N → v x = v' x) : ArB b N v' h := by
  obtain ⟨o, e'⟩ := H.get
  exact ⟨H.lt, o, by rw [e']; exact congrArg (fun l => some (AObj.cells l 4 o)) (cellsF_congr fun x hx => by rw [e x hx])⟩
theorem ArB.rds {b N : Nat} {v : Nat → Bool} {h : Hp} (H : ArB b N v h) (c : Nat) : Rds h (.slice (some ⟨b, 0, none⟩) N c) (cellsF N fun x => Value.bool (v x)) := by
  obtain ⟨o, e⟩ := H.get
  exact rd_cells H.lt e
theorem turnB (k : Nat) (s : Bool → Bool → Bool × Bool) (n : Nat) (hn : n ≤ 6) (Bd : Bool → Prop) (v : Nat → Bool) (hB : ∀ i x, i ≤ n → Bd (trn s i v x)) (lf m : Nat) (hlf : 300 ≤ lf) (h : Hp)
    (st : ∀ a b h, Bd a → Bd b → Ev lf m k [Value.bool a, Value.bool b] h = some (.tuple #[Value.bool (s a b).1, Value.bool (s a b).2], h)) (b c : Nat) (A : ArB b (2 ^ n) v h) :
    ∃ x h', Ev lf (m+1) 63 [.slice (some ⟨b, 0, none⟩) (2 ^ n) c, .func (.func k) #[] #[]] h = some (x, h') ∧ x = .tuple #[] ∧ ArB b (2 ^ n) (trn s n v) h' ∧ h'.next = h.next ∧ ∀ j, j ≠ b → h'.get j = h.get j := by
  have hp64 : 2 ^ n ≤ 64 := Nat.pow_le_pow_right (n := 2) (by decide) hn
  refine fnS_ok (Q := fun x h' => x = .tuple #[] ∧ ArB b (2 ^ n) (trn s n v) h' ∧ h'.next = h.next ∧ ∀ j, j ≠ b → h'.get j = h.get j) ?_
  generalize hN : 2 ^ n = N at *
  refine ok_go 0 ?_
  refine sy_loop 0 lf h (α := Nat) (fun i => [(0, .slice (some ⟨b, 0, none⟩) N c), (1, .func (.func k) #[] #[]), (4, J (2 ^ i))]) (fun i g => i ≤ n ∧ ArB b N (trn s i v) g ∧ g.next = h.next ∧ ∀ j, j ≠ b → g.get j = h.get j) (fun i _ => n - i) 0 (by kernel_rfl) (by kernel_rfl) ⟨by kernel_rfl, by kernel_rfl, by kernel_rfl, trivial⟩ (show n - 0 < lf by omega) ⟨Nat.zero_le _, A, rfl, fun _ _ => rfl⟩ ?_
  rintro m1 i f1 g1 ⟨hi, A1, n1, o1⟩ ih1
  have hpi : 2 ^ i ≤ 64 := Nat.le_trans (Nat.pow_le_pow_right (n := 2) (by decide) hi) (by omega)
  refine ok_go 2 ?_
  refine sy_test 0 (decide (Int.ofNat (2 ^ i) < Int.ofNat N)) (by kernel_rfl) ?_ ?_
  · intro hlt
    have hlt := ok_nat hlt
    have hin : i < n := by
      rw [← hN] at hlt
      exact (Nat.pow_lt_pow_iff_right (by decide)).1 hlt
    generalize hv : trn s i v = w at A1
    have hBw : ∀ x, Bd (w x) := fun x => by rw [← hv]; exact hB i x hi
    have hnext : trn s (i + 1) v = stg s i w := by rw [← hv]; rfl
    generalize hP : 2 ^ i = P at *
    refine ok_go 1 ?_
    refine sy_loop 0 lf g1 (α := Nat) (fun x => [(0, .slice (some ⟨b, 0, none⟩) N c), (1, .func (.func k) #[] #[]), (4, J P), (12, .slice (some ⟨b, 0, none⟩) N c), (13, J N), (14, J x)]) (fun x g => x ≤ N ∧ ArB b N (mid s i x w) g ∧ g.next = h.next ∧ ∀ j, j ≠ b → g.get j = h.get j) (fun x _ => N - x) 0 (by kernel_rfl) (by kernel_rfl) ⟨by kernel_rfl, by kernel_rfl, by kernel_rfl, by kernel_rfl, by kernel_rfl, by kernel_rfl, trivial⟩ (show N - 0 < lf by omega) ⟨Nat.zero_le _, by rw [mid_zero]; exact A1, n1, o1⟩ ?_
    rintro m2 x f2 g2 ⟨hx, A2, n2, o2⟩ ih2
    refine ok_go 1 ?_
    refine sy_test 0 (decide (Int.ofNat x < Int.ofNat N)) (by kernel_rfl) ?_ ?_
    · intro hxl
      have hxl := ok_nat hxl
      have hP63 : P < 2 ^ 63 := by omega
      have hx63 : x < 2 ^ 63 := by omega
      refine ok_go 2 ?_
      refine sy_test 0 (andI (Int.ofNat x) (Int.ofNat P) == 0) (by kernel_rfl) ?_ ?_
      · intro hb
        have hb : x.testBit i = false := by
          rw [and_nat hx63] at hb
          have hb : Int.ofNat (x &&& P) = Int.ofNat 0 := eq_of_beq hb
          rw [← hP] at hb
          exact (and_bit x i).1 (Int.ofNat.inj hb)
        have hor : orI (Int.ofNat x) (Int.ofNat P) = Int.ofNat (x ^^^ P) := by
          rw [or_nat hx63 hP63, ← hP, or_bit hb]
        have hfl : x ^^^ P < N := by
          rw [← hN, ← hP]
          exact flip_lt hin (by rw [hN]; exact hxl)
        have r1 := A2.read hxl
        rw [mid_lo s hb w] at r1
        have r2 := A2.read hfl
        rw [← hP, mid_hi s hb w, hP] at r2
        obtain ⟨g3, e3, A3, n3, o3⟩ := A2.store hxl (s (w x) (w (x ^^^ P))).1
        obtain ⟨g4, e4, A4, n4, o4⟩ := A3.store hfl (s (w x) (w (x ^^^ P))).2
        refine ok_go 1 ?_
        refine sy_load 0 (r := indexAddrOp Try.prog 27 (.slice (some ⟨b, 0, none⟩) N c) (J x)) (h' := g2) (by kernel_rfl) (idxB hxl) ?_
        refine ok_go 0 ?_
        refine sy_load 0 (r := loadT Try.prog g2 4 (ptr b x)) (h' := g2) (by kernel_rfl) r1 ?_
        refine ok_go 1 ?_
        refine sy_load 0 (r := indexAddrOp Try.prog 27 (.slice (some ⟨b, 0, none⟩) N c) (.int .i64 (orI (Int.ofNat x) (Int.ofNat P)))) (h' := g2) (by kernel_rfl) (by rw [hor]; exact idxB hfl) ?_
        refine ok_go 0 ?_
        refine sy_load 0 (r := loadT Try.prog g2 4 (ptr b (x ^^^ P))) (h' := g2) (by kernel_rfl) r2 ?_
        refine ok_go 0 ?_
        refine sy_call 0 (by kernel_rfl) (st (w x) (w (x ^^^ P)) g2 (hBw _) (hBw _)) ?_
        refine ok_go 2 ?_
        refine sy_load 0 (r := indexAddrOp Try.prog 27 (.slice (some ⟨b, 0, none⟩) N c) (J x)) (h' := g2) (by kernel_rfl) (idxB hxl) ?_
        refine ok_go 0 ?_
        refine sy_store 0 (r := storeT Try.prog g2 4 (ptr b x) (Value.bool (s (w x) (w (x ^^^ P))).1)) (by kernel_rfl) e3 ?_
        refine ok_go 0 ?_
        refine sy_load 0 (r := indexAddrOp Try.prog 27 (.slice (some ⟨b, 0, none⟩) N c) (.int .i64 (orI (Int.ofNat x) (Int.ofNat P)))) (h' := g3) (by kernel_rfl) (by rw [hor]; exact idxB hfl) ?_
        refine ok_go 0 ?_
        refine sy_store 0 (r := storeT Try.prog g3 4 (ptr b (x ^^^ P)) (Value.bool (s (w x) (w (x ^^^ P))).2)) (by kernel_rfl) e4 ?_
        refine ok_go 1 ?_
        exact sy_next 0 _ g4 (by kernel_rfl) (by kernel_rfl) (ih2 (x + 1) _ g4 ⟨hxl, A4.congr fun y _ => by rw [← hP]; exact mid_next s hb w y, by rw [n4, n3, n2], fun j hj => (o4 j hj).trans ((o3 j hj).trans (o2 j hj))⟩ (show N - (x + 1) < N - x by omega) ⟨by kernel_rfl, by kernel_rfl, by kernel_rfl, by kernel_rfl, by kernel_rfl, (by kernel_rfl : _ = Value.int .i64 (IntKind.wrap .i64 (Int.ofNat (x + 1)))).trans (by rw [wrap_nat (by omega)]), trivial⟩)
      · intro hb
        have hb : x.testBit i = true := by
          rw [and_nat hx63] at hb
          cases hc : x.testBit i with
          | true => rfl
          | false =>
            rw [← hP, (and_bit x i).2 hc] at hb
            cases hb
        refine ok_go 1 ?_
        exact sy_next 0 _ g2 (by kernel_rfl) (by kernel_rfl) (ih2 (x + 1) _ g2 ⟨hxl, by rw [mid_skip s hb]; exact A2, n2, o2⟩ (show N - (x + 1) < N - x by omega) ⟨by kernel_rfl, by kernel_rfl, by kernel_rfl, by kernel_rfl, by kernel_rfl, (by kernel_rfl : _ = Value.int .i64 (IntKind.wrap .i64 (Int.ofNat (x + 1)))).trans (by rw [wrap_nat (by omega)]), trivial⟩)
    · intro hxl
      have hxl := no_nat hxl
      have hxN : x = N := by omega
      rw [hxN] at A2
      have A5 : ArB b N (trn s (i + 1) v) g2 := by
        rw [hnext]
        refine A2.congr fun y hy => ?_
        rw [← hN] at hy ⊢
        exact mid_end s hin w hy
      refine ok_go 1 ?_
      exact sy_next 0 _ g2 (by kernel_rfl) (by kernel_rfl) (ih1 (i + 1) _ g2 ⟨hin, A5, n2, o2⟩ (show n - (i + 1) < n - i by omega) ⟨by kernel_rfl, by kernel_rfl, (by kernel_rfl : _ = Value.int .i64 (IntKind.wrap .i64 (Int.ofNat (P * 2)))).trans (by rw [wrap_nat (by omega), ← hP, ← Nat.pow_succ]), trivial⟩)
  · intro hlt
    have hlt := no_nat hlt
    have hin : i = n := by
      rcases Nat.lt_or_ge i n with hc | hc
      · have := (Nat.pow_lt_pow_iff_right (a := 2) (by decide)).2 hc
        omega
      · omega
    subst hin
    refine ok_go 0 ?_
    exact sy_done 0 (v := .tuple #[]) (h := g1) (by kernel_rfl) ⟨rfl, A1, n1, o1⟩
end Go.Proofs.Ytnfboopfpkaeaaa
/- CubeB: contracts of functions. -/
namespace Go.Proofs.Ytnfboopfpkaeaaa
open Go Go.Eng Nim
set_option maxRecDepth 100000
set_option maxHeartbeats 4000000
theorem slI : SlT Try.prog 50 3 := ⟨by kernel_rfl, by kernel_rfl, ⟨_, rfl, by kernel_rfl⟩, ⟨_, rfl, by kernel_rfl⟩⟩
theorem slB : SlT Try.prog 27 4 := ⟨by kernel_rfl, by kernel_rfl, ⟨_, rfl, by kernel_rfl⟩, ⟨_, rfl, by kernel_rfl⟩⟩
theorem cellsF_succ (f : Nat → Value) (k : Nat) : cellsF (k + 1) f = cellsF k f ++ [f k] := by
  unfold cellsF
  rw [List.range_succ, List.map_append]
  rfl
/-- What appends have made is a vector in a block. -/
theorem openI {h : Hp} {l : Value} {N : Nat} {v : Nat → Int} (hN : 1 ≤ N) (H : OpenSl h 3 l (cellsF N fun x => I (v x))) : ∃ b, l = .slice (some ⟨b, 0, none⟩) N (2 * N + 1) ∧ ArI b N v h := by
  rcases H with ⟨_, h0⟩ | ⟨b, h1, _, h2, h3, _⟩
  · have := congrArg List.length h0
    rw [cellsF_len] at this
    simp at this
    omega
  · rw [cellsF_len] at h1
    exact ⟨b, h1, h2, true, h3⟩
theorem openB {h : Hp} {l : Value} {N : Nat} {v : Nat → Bool} (hN : 1 ≤ N) (H : OpenSl h 4 l (cellsF N fun x => Value.bool (v x))) : ∃ b, l = .slice (some ⟨b, 0, none⟩) N (2 * N + 1) ∧ ArB b N v h := by
  rcases H with ⟨_, h0⟩ | ⟨b, h1, _, h2, h3, _⟩
  · have := congrArg List.length h0
    rw [cellsF_len] at this
    simp at this
    omega
  · rw [cellsF_len] at h1
    exact ⟨b, h1, h2, true, h3⟩
/-- A function's values as numbers. -/
def num (f : Nat → Bool) (x : Nat) : Int := if f x = true then 1 else 0
theorem numbers_of (f : Nat → Bool) (N lf m : Nat) (hN : 1 ≤ N) (hN2 : N ≤ 64) (hlf : 300 ≤ lf) (nb : ∀ b h, Ev lf m 74 [.bool b] h = some (I (if b = true then 1 else 0), h)) (a : Option Addr) (c : Nat) (h : Hp) (A : Rds h (.slice a N c) (cellsF N fun x => Value.bool (f x))) :
    ∃ x h', Ev lf (m + 1) 67 [.slice a N c] h = some (x, h') ∧ ∃ b, x = .slice (some ⟨b, 0, none⟩) N (2 * N + 1) ∧ h.next ≤ b ∧ h.Ext h' ∧ ArI b N (num f) h' := by
  refine fnS_ok (Q := fun x h' => ∃ b, x = .slice (some ⟨b, 0, none⟩) N (2 * N + 1) ∧ h.next ≤ b ∧ h.Ext h' ∧ ArI b N (num f) h') ?_
  refine ok_go 1 ?_
  refine sy_loop 0 lf h (α := Nat × Value) (fun s => [(6, .slice a N c), (7, J N), (8, J s.1), (3, s.2)]) (fun s g => s.1 ≤ N ∧ h.Ext g ∧ OpenSl g 3 s.2 (cellsF s.1 fun x => I (num f x)) ∧ ∀ j, j < h.next → ∀ p q, s.2 ≠ .slice (some ⟨j, 0, none⟩) p q) (fun s _ => N - s.1) (0, .slice none 0 0) (by kernel_rfl) (by kernel_rfl) ⟨by kernel_rfl, by kernel_rfl, by kernel_rfl, by kernel_rfl, trivial⟩ (show N - 0 < lf by omega) ⟨Nat.zero_le _, Hp.Ext.refl _, .inl ⟨rfl, rfl⟩, fun j _ p q hc => (by cases hc)⟩ ?_
  rintro m1 ⟨k, l⟩ f1 g ⟨hk, X, O, hne⟩ ih
  dsimp only at hk O hne
  refine ok_go 1 ?_
  refine sy_test 0 (decide (Int.ofNat k < Int.ofNat N)) (by kernel_rfl) ?_ ?_
  · intro hlt
    have hlt := ok_nat hlt
    obtain ⟨p, e1, e2⟩ := (A.ext X).read (P := Try.prog) (kd := .i64) uB zB agB (k := k) (v := .bool (f k)) (by rw [cellsF_get hlt])
    obtain ⟨l', g', e3, O', y1, y2, y3⟩ := append1 slI O (v := I (num f k)) rfl (by rw [cellsF_len]; omega)
    refine ok_go 0 ?_
    refine sy_load 0 (r := indexAddrOp Try.prog 27 (.slice a N c) (J k)) (h' := g) (by kernel_rfl) e1 ?_
    refine ok_go 0 ?_
    refine sy_load 0 (r := loadT Try.prog g 4 p) (h' := g) (by kernel_rfl) e2 ?_
    refine ok_go 0 ?_
    refine sy_call 0 (by kernel_rfl) (nb (f k) g) ?_
    refine ok_go 1 ?_
    refine sy_call 0 (r := appendOp Try.prog (g.new (.cells [I (num f k)] 3 false)) 50 l (.slice (some ⟨g.next, 0, none⟩) 1 2)) (v := l') (h' := g') (by kernel_rfl) e3 ?_
    refine ok_go 1 ?_
    have hxn := X.next
    exact sy_next 0 _ g' (by kernel_rfl) (by kernel_rfl) (ih (k + 1, l') _ g' ⟨hlt, ⟨by omega, fun j hj => (y2 j (by omega) (hne j hj)).trans (X.get j hj)⟩, by rw [cellsF_succ]; exact O', fun j hj => y3 j (by omega)⟩ (show N - (k + 1) < N - k by omega) ⟨by kernel_rfl, by kernel_rfl, (by kernel_rfl : _ = Value.int .i64 (IntKind.wrap .i64 (Int.ofNat (k + 1)))).trans (by rw [wrap_nat (by omega)]), by kernel_rfl, trivial⟩)
  · intro hlt
    have hlt := no_nat hlt
    have hkN : k = N := by omega
    subst hkN
    obtain ⟨b, rfl, B⟩ := openI hN O
    refine ok_go 0 ?_
    refine sy_done 0 (v := .slice (some ⟨b, 0, none⟩) k (2 * k + 1)) (h := g) (by kernel_rfl) ⟨b, rfl, Nat.le_of_not_lt fun hc => hne b hc _ _ rfl, X, B⟩
end Go.Proofs.Ytnfboopfpkaeaaa
/- CubeC: contracts of functions. -/
namespace Go.Proofs.Ytnfboopfpkaeaaa
open Go Go.Eng Nim
set_option maxRecDepth 100000
set_option maxHeartbeats 4000000
/-- Appending to an empty slice that has no room. -/
theorem appendEmpty {P : Program} {h : Hp} {t e : TypeId} {x : Value} {vs : List Value} {i : Nat} {opn : Bool} (hT : SlT P t e) (hi : h.get i = some (.cells [] e opn)) (hx : Rds h x vs) (hv : vs.all scalar = true) (h1 : vs ≠ []) (hn : vs.length < 16777216) :
    appendOp P h t (.slice (some ⟨i, 0, none⟩) 0 0) x = some (.slice (some ⟨h.next, 0, none⟩) vs.length (2 * vs.length + 1), h.new (.cells vs e true)) := by
  obtain ⟨inf, hi1, hi2⟩ := hT.i
  obtain ⟨z, hz1, hz2⟩ := hT.z
  obtain ⟨a, c, hsh⟩ := hx.shape
  have hlen : lenV x = some vs.length := by rw [hsh]; rfl
  have hel : elems h 1 vs.length x = some vs := by
    rcases hx with ⟨⟨a, rfl⟩, rfl⟩ | ⟨i, off, c, rfl, hr⟩
    · exact absurd rfl h1
    · cases vs with
      | nil => exact absurd rfl h1
      | cons v r => simp only [elems, List.length_cons, Nat.mul_one]; exact (hr (by simp)).2
  cases vs with
  | nil => exact absurd rfl h1
  | cons v r =>
    simp only [List.length_cons] at hlen hel hn ⊢
    have b1 : Nat.ble (0 + (r.length + 1)) most = true := Nat.ble_eq_true_of_le (by unfold most; omega)
    have b2 : Nat.ble (0 + (r.length + 1)) (0 / 2) = false := by
      cases hb : Nat.ble (0 + (r.length + 1)) (0 / 2) with
      | false => rfl
      | true => have := Nat.le_of_ble_eq_true hb; omega
    have b3 : loadN h i 0 (0 * 1) = some [] := by
      unfold loadN
      rw [hi]
      rfl
    have b4 : Nat.beq (0 % 2) 0 = true := rfl
    simp only [appendOp, hT.u, hT.s, hi1, hz1, hlen, hel, hz2, hi2, hv, b1, b2, b3, b4, List.nil_append]
    rw [Nat.zero_add]
theorem cloneI_of (v : Nat → Int) (N lf m b c : Nat) (hN : 1 ≤ N) (hN2 : N ≤ 64) (h : Hp) (A : ArI b N v h) :
    ∃ x h', Ev lf (m + 1) 72 [.slice (some ⟨b, 0, none⟩) N c] h = some (x, h') ∧ ∃ b', x = .slice (some ⟨b', 0, none⟩) N (2 * N + 1) ∧ h.next ≤ b' ∧ h.Ext h' ∧ ArI b' N v h' := by
  refine fnS_ok (Q := fun x h' => ∃ b', x = .slice (some ⟨b', 0, none⟩) N (2 * N + 1) ∧ h.next ≤ b' ∧ h.Ext h' ∧ ArI b' N v h') ?_
  have X : h.Ext (h.new (.cells [] 3 false)) := Hp.Ext.new _ _
  have hl : (cellsF N fun x => I (v x)).length = N := cellsF_len _ _
  have e := appendEmpty (P := Try.prog) (h := h.new (.cells [] 3 false)) (i := h.next) slI (get_new _ _) ((A.rds c).ext X) (by simp [cellsF, scalar]) (fun hc => by rw [hc] at hl; simp at hl; omega) (by rw [hl]; omega)
  rw [hl] at e
  refine ok_go 3 ?_
  refine sy_call 0 (r := appendOp Try.prog (h.new (.cells [] 3 false)) 50 (.slice (some ⟨h.next, 0, none⟩) 0 0) (.slice (some ⟨b, 0, none⟩) N c)) (v := .slice (some ⟨h.next + 1, 0, none⟩) N (2 * N + 1)) (h' := (h.new (.cells [] 3 false)).new (.cells (cellsF N fun x => I (v x)) 3 true)) (by kernel_rfl) e ?_
  refine ok_go 0 ?_
  exact sy_done 0 (v := .slice (some ⟨h.next + 1, 0, none⟩) N (2 * N + 1)) (h := (h.new (.cells [] 3 false)).new (.cells (cellsF N fun x => I (v x)) 3 true)) (by kernel_rfl) ⟨h.next + 1, rfl, Nat.le_succ _, X.trans (Hp.Ext.new _ _), ⟨Nat.lt_succ_self _, true, get_new _ _⟩⟩
theorem cloneB_of (v : Nat → Bool) (N lf m b c : Nat) (hN : 1 ≤ N) (hN2 : N ≤ 64) (h : Hp) (A : ArB b N v h) :
    ∃ x h', Ev lf (m + 1) 62 [.slice (some ⟨b, 0, none⟩) N c] h = some (x, h') ∧ ∃ b', x = .slice (some ⟨b', 0, none⟩) N (2 * N + 1) ∧ h.next ≤ b' ∧ h.Ext h' ∧ ArB b' N v h' := by
  refine fnS_ok (Q := fun x h' => ∃ b', x = .slice (some ⟨b', 0, none⟩) N (2 * N + 1) ∧ h.next ≤ b' ∧ h.Ext h' ∧ ArB b' N v h') ?_
  have X : h.Ext (h.new (.cells [] 4 false)) := Hp.Ext.new _ _
  have hl : (cellsF N fun x => Value.bool (v x)).length = N := cellsF_len _ _
  have e := appendEmpty (P := Try.prog) (h := h.new (.cells [] 4 false)) (i := h.next) slB (get_new _ _) ((A.rds c).ext X) (by simp [cellsF, scalar]) (fun hc => by rw [hc] at hl; simp at hl; omega) (by rw [hl]; omega)
  rw [hl] at e
  refine ok_go 3 ?_
  refine sy_call 0 (r := appendOp Try.prog (h.new (.cells [] 4 false)) 27 (.slice (some ⟨h.next, 0, none⟩) 0 0) (.slice (some ⟨b, 0, none⟩) N c)) (v := .slice (some ⟨h.next + 1, 0, none⟩) N (2 * N + 1)) (h' := (h.new (.cells [] 4 false)).new (.cells (cellsF N fun x => Value.bool (v x)) 4 true)) (by kernel_rfl) e ?_
  refine ok_go 0 ?_
  exact sy_done 0 (v := .slice (some ⟨h.next + 1, 0, none⟩) N (2 * N + 1)) (h := (h.new (.cells [] 4 false)).new (.cells (cellsF N fun x => Value.bool (v x)) 4 true)) (by kernel_rfl) ⟨h.next + 1, rfl, Nat.le_succ _, X.trans (Hp.Ext.new _ _), ⟨Nat.lt_succ_self _, true, get_new _ _⟩⟩
/-- Numbers that are far from the ends. -/
def Far (z : Int) : Prop := -(2 ^ 40) ≤ z ∧ z ≤ 2 ^ 40
theorem spec_step (lf m : Nat) (a b : Int) (h : Hp) (ha : Far a) (hb : Far b) : Ev lf (m + 1) 69 [I a, I b] h = some (.tuple #[I (wsh a b).1, I (wsh a b).2], h) := by
  obtain ⟨a1, a2⟩ := ha
  obtain ⟨b1, b2⟩ := hb
  refine fn_eq ?_
  refine ok_go 2 ?_
  exact sy_done 0 (v := .tuple #[I (IntKind.wrap .i64 (a + b)), I (IntKind.wrap .i64 (a - b))]) (h := h) (by kernel_rfl) ⟨by rw [wrap_int (by omega) (by omega), wrap_int (by omega) (by omega)]; rfl, rfl⟩
theorem real_step (lf m : Nat) (a b : Int) (h : Hp) (ha : Far a) (hb : Far b) : Ev lf (m + 1) 89 [I a, I b] h = some (.tuple #[I (up (fun a b => b - a) a b).1, I (up (fun a b => b - a) a b).2], h) := by
  obtain ⟨a1, a2⟩ := ha
  obtain ⟨b1, b2⟩ := hb
  refine fn_eq ?_
  refine ok_go 1 ?_
  exact sy_done 0 (v := .tuple #[I a, I (IntKind.wrap .i64 (b - a))]) (h := h) (by kernel_rfl) ⟨by rw [wrap_int (by omega) (by omega)]; rfl, rfl⟩
theorem from_step (lf m : Nat) (a b : Int) (h : Hp) (ha : Far a) (hb : Far b) : Ev lf (m + 1) 73 [I a, I b] h = some (.tuple #[I (up (fun a b => b + a) a b).1, I (up (fun a b => b + a) a b).2], h) := by
  obtain ⟨a1, a2⟩ := ha
  obtain ⟨b1, b2⟩ := hb
  refine fn_eq ?_
  refine ok_go 1 ?_
  exact sy_done 0 (v := .tuple #[I a, I (IntKind.wrap .i64 (b + a))]) (h := h) (by kernel_rfl) ⟨by rw [wrap_int (by omega) (by omega)]; rfl, rfl⟩
theorem rem_step (lf m : Nat) (a b : Bool) (h : Hp) : Ev lf (m + 1) 64 [.bool a, .bool b] h = some (.tuple #[.bool (up (fun a b => a != b) a b).1, .bool (up (fun a b => a != b) a b).2], h) := by
  refine fn_eq ?_
  refine ok_go 1 ?_
  exact sy_done 0 (v := .tuple #[.bool a, .bool (a != b)]) (h := h) (by kernel_rfl) ⟨rfl, rfl⟩
theorem check_of (n : Nat) (a : Option Addr) (c lf m : Nat) (h : Hp) (sz : ∀ h, Ev lf m 56 [J (2 ^ n)] h = some (.tuple #[J n, .bool true], h)) : Ev lf (m + 1) 54 [.slice a (2 ^ n) c] h = some (J 0, h) := by
  refine fn_eq ?_
  refine ok_go 1 ?_
  refine sy_call 0 (by kernel_rfl) (sz h) ?_
  refine ok_go 4 ?_
  exact sy_done 0 (v := J 0) (h := h) (by kernel_rfl) ⟨rfl, rfl⟩
end Go.Proofs.Ytnfboopfpkaeaaa
/- CubeD: contracts of functions. -/
namespace Go.Proofs.Ytnfboopfpkaeaaa
open Go Go.Eng Nim
set_option maxRecDepth 100000
set_option maxHeartbeats 4000000
/-- What the functions below call. -/
structure Lower (lf m n : Nat) : Prop where
  hn : n ≤ 6
  hlf : 300 ≤ lf
  sz : ∀ h, Ev lf m 56 [J (2 ^ n)] h = some (.tuple #[J n, .bool true], h)
  ck : ∀ a c h, Ev lf m 54 [.slice a (2 ^ n) c] h = some (J 0, h)
  nb : ∀ b h, Ev lf m 74 [.bool b] h = some (I (if b = true then 1 else 0), h)
  ns : ∀ f a c h, Rds h (.slice a (2 ^ n) c) (cellsF (2 ^ n) fun x => Value.bool (f x)) → ∃ x h', Ev lf m 67 [.slice a (2 ^ n) c] h = some (x, h') ∧ ∃ b, x = .slice (some ⟨b, 0, none⟩) (2 ^ n) (2 * 2 ^ n + 1) ∧ h.next ≤ b ∧ h.Ext h' ∧ ArI b (2 ^ n) (num f) h'
  tI : ∀ (k : Nat) (s : Int → Int → Int × Int) (Bd : Int → Prop) (v : Nat → Int), (k = 69 ∨ k = 89 ∨ k = 73) → (∀ i x, i ≤ n → Far (trn s i v x)) → (k = 69 → s = wsh) → (k = 89 → s = up (fun a b => b - a)) → (k = 73 → s = up (fun a b => b + a)) → ∀ b c h, ArI b (2 ^ n) v h →
    ∃ x h', Ev lf m 68 [.slice (some ⟨b, 0, none⟩) (2 ^ n) c, .func (.func k) #[] #[]] h = some (x, h') ∧ x = .tuple #[] ∧ ArI b (2 ^ n) (trn s n v) h' ∧ h'.next = h.next ∧ ∀ j, j ≠ b → h'.get j = h.get j
  tB : ∀ (v : Nat → Bool) b c h, ArB b (2 ^ n) v h →
    ∃ x h', Ev lf m 63 [.slice (some ⟨b, 0, none⟩) (2 ^ n) c, .func (.func 64) #[] #[]] h = some (x, h') ∧ x = .tuple #[] ∧ ArB b (2 ^ n) (trn (up fun a b => a != b) n v) h' ∧ h'.next = h.next ∧ ∀ j, j ≠ b → h'.get j = h.get j
  cI : ∀ v b c h, ArI b (2 ^ n) v h → ∃ x h', Ev lf m 72 [.slice (some ⟨b, 0, none⟩) (2 ^ n) c] h = some (x, h') ∧ ∃ b', x = .slice (some ⟨b', 0, none⟩) (2 ^ n) (2 * 2 ^ n + 1) ∧ h.next ≤ b' ∧ h.Ext h' ∧ ArI b' (2 ^ n) v h'
  cB : ∀ v b c h, ArB b (2 ^ n) v h → ∃ x h', Ev lf m 62 [.slice (some ⟨b, 0, none⟩) (2 ^ n) c] h = some (x, h') ∧ ∃ b', x = .slice (some ⟨b', 0, none⟩) (2 ^ n) (2 * 2 ^ n + 1) ∧ h.next ≤ b' ∧ h.Ext h' ∧ ArB b' (2 ^ n) v h'
/-- A block that is new may be turned. -/
theorem ext_of {h g g' : Hp} {b : Nat} (X : h.Ext g) (hb : h.next ≤ b) (hn : g'.next = g.next) (ho : ∀ j, j ≠ b → g'.get j = g.get j) : h.Ext g' :=
  ⟨by rw [hn]; exact X.next, fun j hj => (ho j (by omega)).trans (X.get j hj)⟩
theorem far_sgn (f : Nat → Bool) (n : Nat) (hn : n ≤ 6) : ∀ i x, i ≤ n → Far (trn wsh i (sgn f) x) := by
  intro i x hi
  have h := trn_le (s := wsh) (B := 1) (fun a b B h1 h2 h3 h4 => ⟨⟨by simp only [wsh]; omega, by simp only [wsh]; omega⟩, by simp only [wsh]; omega, by simp only [wsh]; omega⟩) (l := sgn f) (fun x => by unfold sgn; split <;> omega) i x
  have hp : (2 : Int) ^ i ≤ 64 := by
    have : 2 ^ i ≤ 2 ^ 6 := Nat.pow_le_pow_right (by decide) (by omega)
    exact_mod_cast this
  unfold Far
  omega
theorem le_num (f : Nat → Bool) : ∀ i x, -(2 ^ i * 1) ≤ trn (up fun a b : Int => b - a) i (num f) x ∧ trn (up fun a b : Int => b - a) i (num f) x ≤ 2 ^ i * 1 :=
  trn_le (s := up fun a b => b - a) (fun a b B h1 h2 h3 h4 => ⟨⟨by simp only [up]; omega, by simp only [up]; omega⟩, by simp only [up]; omega, by simp only [up]; omega⟩) (l := num f) (fun x => by unfold num; split <;> omega)
theorem pow64 {i n : Nat} (hi : i ≤ n) (hn : n ≤ 6) : (2 : Int) ^ i ≤ 64 := by
  have : 2 ^ i ≤ 2 ^ 6 := Nat.pow_le_pow_right (by decide) (by omega)
  exact_mod_cast this
theorem far_num (f : Nat → Bool) (n : Nat) (hn : n ≤ 6) : ∀ i x, i ≤ n → Far (trn (up fun a b : Int => b - a) i (num f) x) := by
  intro i x hi
  have h := le_num f i x
  have hp := pow64 hi hn
  unfold Far
  omega
theorem far_back (f : Nat → Bool) (n : Nat) (hn : n ≤ 6) : ∀ i x, i ≤ n → Far (trn (up fun a b : Int => b + a) i (trn (up fun a b : Int => b - a) n (num f)) x) := by
  intro i x hi
  have hq := pow64 (Nat.le_refl n) hn
  have h := trn_le (s := up fun a b => b + a) (B := 64) (fun a b B h1 h2 h3 h4 => ⟨⟨by simp only [up]; omega, by simp only [up]; omega⟩, by simp only [up]; omega, by simp only [up]; omega⟩) (l := trn (up fun a b : Int => b - a) n (num f)) (fun x => by have := le_num f n x; omega) i x
  have hp := pow64 hi hn
  unfold Far
  omega
theorem spectrum_of (f : Nat → Bool) (n lf m : Nat) (L : Lower lf m n) (a : Option Addr) (c : Nat) (h : Hp) (A : Rds h (.slice a (2 ^ n) c) (cellsF (2 ^ n) fun x => Value.bool (f x))) :
    ∃ x h', Ev lf (m + 1) 25 [.slice a (2 ^ n) c] h = some (x, h') ∧ ∃ b, x = .tuple #[.slice (some ⟨b, 0, none⟩) (2 ^ n) (2 * 2 ^ n + 1), J 0] ∧ h.next ≤ b ∧ h.Ext h' ∧ ArI b (2 ^ n) (trn wsh n (sgn f)) h' := by
  have hp64 : 2 ^ n ≤ 64 := Nat.pow_le_pow_right (n := 2) (by decide) L.hn
  have hlf := L.hlf
  obtain ⟨x1, h1, e1, b, rfl, hb, X1, A1⟩ := L.ns f a c h A
  refine fnS_ok (Q := fun x h' => ∃ b, x = .tuple #[.slice (some ⟨b, 0, none⟩) (2 ^ n) (2 * 2 ^ n + 1), J 0] ∧ h.next ≤ b ∧ h.Ext h' ∧ ArI b (2 ^ n) (trn wsh n (sgn f)) h') ?_
  have ck := L.ck a c h
  have tI := L.tI 69 wsh Far (sgn f) (.inl rfl) (far_sgn f n L.hn) (fun _ => rfl) (fun hc => by cases hc) (fun hc => by cases hc) b (2 * 2 ^ n + 1)
  generalize hN : 2 ^ n = N at *
  refine ok_go 0 ?_
  refine sy_call 0 (by kernel_rfl) ck ?_
  refine ok_go 2 ?_
  refine sy_call 0 (by kernel_rfl) e1 ?_
  refine ok_go 1 ?_
  refine sy_loop 0 lf h1 (α := Nat) (fun s => [(5, .slice (some ⟨b, 0, none⟩) N (2 * N + 1)), (15, .slice (some ⟨b, 0, none⟩) N (2 * N + 1)), (16, J N), (17, J s)]) (fun s g => s ≤ N ∧ h.Ext g ∧ ArI b N (fun x => if x < s then sgn f x else num f x) g) (fun s _ => N - s) 0 (by kernel_rfl) (by kernel_rfl) ⟨by kernel_rfl, by kernel_rfl, by kernel_rfl, by kernel_rfl, trivial⟩ (show N - 0 < lf by omega) ⟨Nat.zero_le _, X1, A1.congr fun x _ => (if_neg (Nat.not_lt_zero x)).symm⟩ ?_
  rintro m1 k f1 g ⟨hk, X, A2⟩ ih
  refine ok_go 1 ?_
  refine sy_test 0 (decide (Int.ofNat k < Int.ofNat N)) (by kernel_rfl) ?_ ?_
  · intro hlt
    have hlt := ok_nat hlt
    have r := A2.read hlt
    rw [if_neg (Nat.lt_irrefl _)] at r
    obtain ⟨g2, e2, A3, n3, o3⟩ := A2.store hlt (sgn f k)
    have hw : IntKind.wrap .i64 (1 - IntKind.wrap .i64 (2 * num f k)) = sgn f k := by
      unfold num sgn
      cases f k <;> rfl
    refine ok_go 0 ?_
    refine sy_load 0 (r := indexAddrOp Try.prog 50 (.slice (some ⟨b, 0, none⟩) N (2 * N + 1)) (J k)) (h' := g) (by kernel_rfl) (idxI hlt) ?_
    refine ok_go 0 ?_
    refine sy_load 0 (r := loadT Try.prog g 3 (ptr b k)) (h' := g) (by kernel_rfl) r ?_
    refine ok_go 2 ?_
    refine sy_load 0 (r := indexAddrOp Try.prog 50 (.slice (some ⟨b, 0, none⟩) N (2 * N + 1)) (J k)) (h' := g) (by kernel_rfl) (idxI hlt) ?_
    refine ok_go 0 ?_
    refine sy_store 0 (r := storeT Try.prog g 3 (ptr b k) (I (IntKind.wrap .i64 (1 - IntKind.wrap .i64 (2 * num f k))))) (by kernel_rfl) (by rw [hw]; exact e2) ?_
    refine ok_go 1 ?_
    exact sy_next 0 _ g2 (by kernel_rfl) (by kernel_rfl) (ih (k + 1) _ g2 ⟨hlt, ext_of X hb n3 o3, A3.congr fun x _ => by
      by_cases hx : x = k
      · rw [if_pos hx, if_pos (by omega), hx]
      · rw [if_neg hx]
        by_cases hx2 : x < k
        · rw [if_pos hx2, if_pos (by omega)]
        · rw [if_neg hx2, if_neg (by omega)]⟩ (show N - (k + 1) < N - k by omega) ⟨by kernel_rfl, by kernel_rfl, by kernel_rfl, (by kernel_rfl : _ = Value.int .i64 (IntKind.wrap .i64 (Int.ofNat (k + 1)))).trans (by rw [wrap_nat (by omega)]), trivial⟩)
  · intro hlt
    have hlt := no_nat hlt
    obtain ⟨_, g2, e3, rfl, A3, n3, o3⟩ := tI g (A2.congr fun x hx => if_pos (by omega))
    refine ok_go 0 ?_
    refine sy_call 0 (by kernel_rfl) e3 ?_
    refine ok_go 0 ?_
    exact sy_done 0 (v := .tuple #[.slice (some ⟨b, 0, none⟩) N (2 * N + 1), J 0]) (h := g2) (by kernel_rfl) ⟨b, rfl, hb, ext_of X hb n3 o3, A3⟩
theorem reals_of (f : Nat → Bool) (n lf m : Nat) (L : Lower lf m n) (a : Option Addr) (c : Nat) (h : Hp) (A : Rds h (.slice a (2 ^ n) c) (cellsF (2 ^ n) fun x => Value.bool (f x))) :
    ∃ x h', Ev lf (m + 1) 65 [.slice a (2 ^ n) c] h = some (x, h') ∧ ∃ b, x = .slice (some ⟨b, 0, none⟩) (2 ^ n) (2 * 2 ^ n + 1) ∧ h.next ≤ b ∧ h.Ext h' ∧ ArI b (2 ^ n) (trn (up fun a b => b - a) n (num f)) h' := by
  obtain ⟨x1, h1, e1, b, rfl, hb, X1, A1⟩ := L.ns f a c h A
  obtain ⟨_, g2, e3, rfl, A3, n3, o3⟩ := L.tI 89 (up fun a b => b - a) Far (num f) (.inr (.inl rfl)) (far_num f n L.hn) (fun hc => by cases hc) (fun _ => rfl) (fun hc => by cases hc) b (2 * 2 ^ n + 1) h1 A1
  refine fnS_ok (Q := fun x h' => ∃ b, x = .slice (some ⟨b, 0, none⟩) (2 ^ n) (2 * 2 ^ n + 1) ∧ h.next ≤ b ∧ h.Ext h' ∧ ArI b (2 ^ n) (trn (up fun a b => b - a) n (num f)) h') ?_
  generalize hN : 2 ^ n = N at *
  refine ok_go 0 ?_
  refine sy_call 0 (by kernel_rfl) e1 ?_
  refine ok_go 0 ?_
  refine sy_call 0 (by kernel_rfl) e3 ?_
  refine ok_go 0 ?_
  exact sy_done 0 (v := .slice (some ⟨b, 0, none⟩) N (2 * N + 1)) (h := g2) (by kernel_rfl) ⟨b, rfl, hb, ext_of X1 hb n3 o3, A3⟩
theorem Reals_of (f : Nat → Bool) (n lf m : Nat) (L : Lower lf m n) (a : Option Addr) (c : Nat) (h : Hp) (rl : ∃ x h', Ev lf m 65 [.slice a (2 ^ n) c] h = some (x, h') ∧ ∃ b, x = .slice (some ⟨b, 0, none⟩) (2 ^ n) (2 * 2 ^ n + 1) ∧ h.next ≤ b ∧ h.Ext h' ∧ ArI b (2 ^ n) (trn (up fun a b => b - a) n (num f)) h') :
    ∃ x h', Ev lf (m + 1) 23 [.slice a (2 ^ n) c] h = some (x, h') ∧ ∃ b, x = .tuple #[.slice (some ⟨b, 0, none⟩) (2 ^ n) (2 * 2 ^ n + 1), J 0] ∧ h.next ≤ b ∧ h.Ext h' ∧ ArI b (2 ^ n) (trn (up fun a b => b - a) n (num f)) h' := by
  obtain ⟨x1, h1, e1, b, rfl, hb, X1, A1⟩ := rl
  have ck := L.ck a c h
  refine fnS_ok (Q := fun x h' => ∃ b, x = .tuple #[.slice (some ⟨b, 0, none⟩) (2 ^ n) (2 * 2 ^ n + 1), J 0] ∧ h.next ≤ b ∧ h.Ext h' ∧ ArI b (2 ^ n) (trn (up fun a b => b - a) n (num f)) h') ?_
  generalize hN : 2 ^ n = N at *
  refine ok_go 0 ?_
  refine sy_call 0 (by kernel_rfl) ck ?_
  refine ok_go 2 ?_
  refine sy_call 0 (by kernel_rfl) e1 ?_
  refine ok_go 0 ?_
  exact sy_done 0 (v := .tuple #[.slice (some ⟨b, 0, none⟩) N (2 * N + 1), J 0]) (h := h1) (by kernel_rfl) ⟨b, rfl, hb, X1, A1⟩
theorem remainders_of (f : Nat → Bool) (n lf m : Nat) (L : Lower lf m n) (b0 c : Nat) (h : Hp) (A : ArB b0 (2 ^ n) f h) :
    ∃ x h', Ev lf (m + 1) 22 [.slice (some ⟨b0, 0, none⟩) (2 ^ n) c] h = some (x, h') ∧ ∃ b, x = .tuple #[.slice (some ⟨b, 0, none⟩) (2 ^ n) (2 * 2 ^ n + 1), J 0] ∧ h.next ≤ b ∧ h.Ext h' ∧ ArB b (2 ^ n) (trn (up fun a b => a != b) n f) h' := by
  obtain ⟨x1, h1, e1, b, rfl, hb, X1, A1⟩ := L.cB f b0 c h A
  obtain ⟨_, g2, e3, rfl, A3, n3, o3⟩ := L.tB f b (2 * 2 ^ n + 1) h1 A1
  have ck := L.ck (some ⟨b0, 0, none⟩) c h
  refine fnS_ok (Q := fun x h' => ∃ b, x = .tuple #[.slice (some ⟨b, 0, none⟩) (2 ^ n) (2 * 2 ^ n + 1), J 0] ∧ h.next ≤ b ∧ h.Ext h' ∧ ArB b (2 ^ n) (trn (up fun a b => a != b) n f) h') ?_
  generalize hN : 2 ^ n = N at *
  refine ok_go 0 ?_
  refine sy_call 0 (by kernel_rfl) ck ?_
  refine ok_go 2 ?_
  refine sy_call 0 (by kernel_rfl) e1 ?_
  refine ok_go 0 ?_
  refine sy_call 0 (by kernel_rfl) e3 ?_
  refine ok_go 0 ?_
  exact sy_done 0 (v := .tuple #[.slice (some ⟨b, 0, none⟩) N (2 * N + 1), J 0]) (h := g2) (by kernel_rfl) ⟨b, rfl, hb, ext_of X1 hb n3 o3, A3⟩
end Go.Proofs.Ytnfboopfpkaeaaa
/- CubeE: contracts of functions. -/
namespace Go.Proofs.Ytnfboopfpkaeaaa
open Go Go.Eng Nim
set_option maxRecDepth 100000
set_option maxHeartbeats 4000000
theorem from_of (f : Nat → Bool) (n lf m : Nat) (L : Lower lf m n) (b0 c : Nat) (h : Hp) (A : ArI b0 (2 ^ n) (trn (up fun a b => b - a) n (num f)) h) :
    ∃ x h', Ev lf (m + 1) 32 [.slice (some ⟨b0, 0, none⟩) (2 ^ n) c] h = some (x, h') ∧ ∃ b, x = .tuple #[.slice (some ⟨b, 0, none⟩) (2 ^ n) (2 * 2 ^ n + 1), J 0] ∧ h.next ≤ b ∧ h.Ext h' ∧ ArB b (2 ^ n) f h' := by
  have hp64 : 2 ^ n ≤ 64 := Nat.pow_le_pow_right (n := 2) (by decide) L.hn
  have hp1 : 1 ≤ 2 ^ n := Nat.one_le_two_pow
  have hlf := L.hlf
  have hn6 := L.hn
  have hle := fun x => le_num f n x
  have hpc : ((2 : Int) ^ n) = ((2 ^ n : Nat) : Int) := by simp
  have hback := reals_back n (num f)
  have hfb := far_back f n L.hn
  generalize hv : trn (up fun a b : Int => b - a) n (num f) = v at *
  obtain ⟨x1, h1, e1, b, rfl, hb, X1, A1⟩ := L.cI v b0 c h A
  obtain ⟨_, g2, e3, rfl, A3, n3, o3⟩ := L.tI 73 (up fun a b => b + a) Far v (.inr (.inr rfl)) hfb (fun hc => by cases hc) (fun hc => by cases hc) (fun _ => rfl) b (2 * 2 ^ n + 1) h1 A1
  rw [hback] at A3
  have sz := L.sz h
  have X3 : h.Ext g2 := ext_of X1 hb n3 o3
  refine fnS_ok (Q := fun x h' => ∃ b, x = .tuple #[.slice (some ⟨b, 0, none⟩) (2 ^ n) (2 * 2 ^ n + 1), J 0] ∧ h.next ≤ b ∧ h.Ext h' ∧ ArB b (2 ^ n) f h') ?_
  have hmin : min (IntKind.wrap .u64 (Int.ofNat n)).toNat IntKind.i64.bits = n := by
    rcases (by omega : n = 0 ∨ n = 1 ∨ n = 2 ∨ n = 3 ∨ n = 4 ∨ n = 5 ∨ n = 6) with rfl | rfl | rfl | rfl | rfl | rfl | rfl <;> rfl
  have hsh : IntKind.wrap .i64 (1 * 2 ^ n) = Int.ofNat (2 ^ n) := by
    rw [Int.one_mul, hpc]
    exact wrap_nat (by omega)
  generalize hN : 2 ^ n = N at *
  refine ok_go 1 ?_
  refine sy_call 0 (by kernel_rfl) sz ?_
  refine ok_go 5 ?_
  refine sy_loop 0 lf h (α := Nat) (fun s => [(0, .slice (some ⟨b0, 0, none⟩) N c), (4, J n), (20, .slice (some ⟨b0, 0, none⟩) N c), (21, J N), (22, J s)]) (fun s g => s ≤ N ∧ g = h) (fun s _ => N - s) 0 (by kernel_rfl) (by kernel_rfl) ⟨by kernel_rfl, by kernel_rfl, by kernel_rfl, by kernel_rfl, by kernel_rfl, trivial⟩ (show N - 0 < lf by omega) ⟨Nat.zero_le _, rfl⟩ ?_
  rintro m1 k f1 g ⟨hk, rfl⟩ ih
  refine ok_go 1 ?_
  refine sy_test 0 (decide (Int.ofNat k < Int.ofNat N)) (by kernel_rfl) ?_ ?_
  · intro hlt
    have hlt := ok_nat hlt
    have hlk := hle k
    refine ok_go 0 ?_
    refine sy_load 0 (r := indexAddrOp Try.prog 50 (.slice (some ⟨b0, 0, none⟩) N c) (J k)) (h' := g) (by kernel_rfl) (idxI hlt) ?_
    refine ok_go 0 ?_
    refine sy_load 0 (r := loadT Try.prog g 3 (ptr b0 k)) (h' := g) (by kernel_rfl) (A.read hlt) ?_
    refine ok_go 4 ?_
    refine sy_no 0 (b := decide (v k < IntKind.wrap .i64 (0 - IntKind.wrap .i64 (1 * 2 ^ min (IntKind.wrap .u64 (Int.ofNat n)).toNat IntKind.i64.bits)))) (by kernel_rfl) (by
      rw [hmin, hsh, wrap_int (by have : Int.ofNat N = (N : Int) := rfl; omega) (by have : Int.ofNat N = (N : Int) := rfl; omega)]
      refine decide_eq_false ?_
      have : Int.ofNat N = (N : Int) := rfl
      omega) ?_
    refine ok_go 8 ?_
    refine sy_no 0 (b := decide (v k > IntKind.wrap .i64 (1 * 2 ^ min (IntKind.wrap .u64 (Int.ofNat n)).toNat IntKind.i64.bits))) (by kernel_rfl) (by
      rw [hmin, hsh]
      refine decide_eq_false ?_
      have : Int.ofNat N = (N : Int) := rfl
      omega) ?_
    refine ok_go 1 ?_
    exact sy_next 0 _ g (by kernel_rfl) (by kernel_rfl) (ih (k + 1) _ g ⟨hlt, rfl⟩ (show N - (k + 1) < N - k by omega) ⟨by kernel_rfl, by kernel_rfl, by kernel_rfl, by kernel_rfl, (by kernel_rfl : _ = Value.int .i64 (IntKind.wrap .i64 (Int.ofNat (k + 1)))).trans (by rw [wrap_nat (by omega)]), trivial⟩)
  · intro hlt
    have hlt := no_nat hlt
    refine ok_go 0 ?_
    refine sy_call 0 (by kernel_rfl) e1 ?_
    refine ok_go 0 ?_
    refine sy_call 0 (by kernel_rfl) e3 ?_
    refine ok_go 1 ?_
    refine sy_loop 0 lf g2 (α := Nat × Value) (fun s => [(9, s.2), (44, .slice (some ⟨b, 0, none⟩) N (2 * N + 1)), (45, J N), (46, J s.1)]) (fun s k => s.1 ≤ N ∧ g2.Ext k ∧ OpenSl k 4 s.2 (cellsF s.1 fun x => Value.bool (f x)) ∧ ∀ j, j < g2.next → ∀ p q, s.2 ≠ .slice (some ⟨j, 0, none⟩) p q) (fun s _ => N - s.1) (0, .slice none 0 0) (by kernel_rfl) (by kernel_rfl) ⟨by kernel_rfl, by kernel_rfl, by kernel_rfl, by kernel_rfl, trivial⟩ (show N - 0 < lf by omega) ⟨Nat.zero_le _, Hp.Ext.refl _, .inl ⟨rfl, rfl⟩, fun j _ p q hc => (by cases hc)⟩ ?_
    rintro m2 ⟨x, l⟩ f2 g3 ⟨hx, X4, O, hne⟩ ih2
    dsimp only at hx O hne
    refine ok_go 1 ?_
    refine sy_test 0 (decide (Int.ofNat x < Int.ofNat N)) (by kernel_rfl) ?_ ?_
    · intro hxl
      have hxl := ok_nat hxl
      have hbl := A3.lt
      have r3 : loadT Try.prog g3 3 (ptr b x) = some (I (num f x)) := by
        obtain ⟨op, eo⟩ := A3.get
        exact load1 agI (X4.at_ hbl eo) (cellsF_get hxl)
      obtain ⟨l', g4, e4, O', y1, y2, y3⟩ := append1 slB O (v := .bool (f x)) rfl (by rw [cellsF_len]; omega)
      have hx4 := X4.next
      have hstep := ih2 (x + 1, l')
      refine ok_go 0 ?_
      refine sy_load 0 (r := indexAddrOp Try.prog 50 (.slice (some ⟨b, 0, none⟩) N (2 * N + 1)) (J x)) (h' := g3) (by kernel_rfl) (idxI hxl) ?_
      cases hfx : f x with
      | true =>
        rw [show num f x = 1 by unfold num; rw [hfx]; rfl] at r3
        rw [hfx] at e4
        refine ok_go 0 ?_
        refine sy_load 0 (r := loadT Try.prog g3 3 (ptr b x)) (h' := g3) (by kernel_rfl) r3 ?_
        refine ok_go 8 ?_
        refine sy_call 0 (r := appendOp Try.prog (g3.new (.cells [.bool true] 4 false)) 27 l (.slice (some ⟨g3.next, 0, none⟩) 1 2)) (v := l') (h' := g4) (by kernel_rfl) e4 ?_
        refine ok_go 1 ?_
        exact sy_next 0 _ g4 (by kernel_rfl) (by kernel_rfl) (ih2 (x + 1, l') _ g4 ⟨hxl, ⟨by omega, fun j hj => (y2 j (by omega) (hne j hj)).trans (X4.get j hj)⟩, by rw [cellsF_succ]; exact O', fun j hj => y3 j (by omega)⟩ (show N - (x + 1) < N - x by omega) ⟨by kernel_rfl, by kernel_rfl, by kernel_rfl, (by kernel_rfl : _ = Value.int .i64 (IntKind.wrap .i64 (Int.ofNat (x + 1)))).trans (by rw [wrap_nat (by omega)]), trivial⟩)
      | false =>
        rw [show num f x = 0 by unfold num; rw [hfx]; rfl] at r3
        rw [hfx] at e4
        refine ok_go 0 ?_
        refine sy_load 0 (r := loadT Try.prog g3 3 (ptr b x)) (h' := g3) (by kernel_rfl) r3 ?_
        refine ok_go 7 ?_
        refine sy_call 0 (r := appendOp Try.prog (g3.new (.cells [.bool false] 4 false)) 27 l (.slice (some ⟨g3.next, 0, none⟩) 1 2)) (v := l') (h' := g4) (by kernel_rfl) e4 ?_
        refine ok_go 1 ?_
        exact sy_next 0 _ g4 (by kernel_rfl) (by kernel_rfl) (ih2 (x + 1, l') _ g4 ⟨hxl, ⟨by omega, fun j hj => (y2 j (by omega) (hne j hj)).trans (X4.get j hj)⟩, by rw [cellsF_succ]; exact O', fun j hj => y3 j (by omega)⟩ (show N - (x + 1) < N - x by omega) ⟨by kernel_rfl, by kernel_rfl, by kernel_rfl, (by kernel_rfl : _ = Value.int .i64 (IntKind.wrap .i64 (Int.ofNat (x + 1)))).trans (by rw [wrap_nat (by omega)]), trivial⟩)
    · intro hxl
      have hxl := no_nat hxl
      have hxN : x = N := by omega
      subst hxN
      obtain ⟨bb, rfl, B⟩ := openB hp1 O
      refine ok_go 0 ?_
      exact sy_done 0 (v := .tuple #[.slice (some ⟨bb, 0, none⟩) x (2 * x + 1), J 0]) (h := g3) (by kernel_rfl) ⟨bb, rfl, Nat.le_trans X3.next (Nat.le_of_not_lt fun hc => hne bb hc _ _ rfl), X3.trans X4, B⟩

/-- How many of the first k inputs are turned by a bit. -/
def part (f : Nat → Bool) (i k : Nat) : Int := ((List.range k).map fun x => if f (x ^^^ 2 ^ i) ≠ f x then (1 : Int) else 0).sum
theorem part_succ (f : Nat → Bool) (i k : Nat) : part f i (k + 1) = part f i k + (if f (k ^^^ 2 ^ i) ≠ f k then 1 else 0) := by
  unfold part
  rw [List.range_succ, List.map_append, List.sum_append]
  simp
theorem part_le (f : Nat → Bool) (i : Nat) : ∀ k, 0 ≤ part f i k ∧ part f i k ≤ k
  | 0 => by simp [part]
  | k + 1 => by
    rw [part_succ]
    have := part_le f i k
    split <;> omega
theorem influence_of (f : Nat → Bool) (n i lf m : Nat) (hi : i < n) (L : Lower lf m n) (b0 c : Nat) (h : Hp) (A : ArB b0 (2 ^ n) f h) :
    Ev lf (m + 1) 35 [.slice (some ⟨b0, 0, none⟩) (2 ^ n) c, J i] h = some (.tuple #[I (part f i (2 ^ n)), J 0], h) := by
  have hp64 : 2 ^ n ≤ 64 := Nat.pow_le_pow_right (n := 2) (by decide) L.hn
  have hlf := L.hlf
  have hn6 := L.hn
  have ck := L.ck (some ⟨b0, 0, none⟩) c h
  have sz := L.sz h
  have hfl : ∀ x, x < 2 ^ n → x ^^^ 2 ^ i < 2 ^ n := fun x hx => flip_lt hi hx
  have hpi : 2 ^ i ≤ 64 := Nat.le_trans (Nat.pow_le_pow_right (n := 2) (by decide) (Nat.le_of_lt hi)) hp64
  have hmin : min (IntKind.wrap .u64 (Int.ofNat i)).toNat IntKind.i64.bits = i := by
    rcases (by omega : i = 0 ∨ i = 1 ∨ i = 2 ∨ i = 3 ∨ i = 4 ∨ i = 5) with rfl | rfl | rfl | rfl | rfl | rfl <;> rfl
  have hsh : IntKind.wrap .i64 (1 * 2 ^ i) = Int.ofNat (2 ^ i) := by
    have hpc : ((2 : Int) ^ i) = ((2 ^ i : Nat) : Int) := by simp
    rw [Int.one_mul, hpc]
    exact wrap_nat (by omega)
  refine fn_eq ?_
  generalize hN : 2 ^ n = N at *
  refine ok_go 0 ?_
  refine sy_call 0 (by kernel_rfl) ck ?_
  refine ok_go 3 ?_
  refine sy_call 0 (by kernel_rfl) sz ?_
  refine ok_go 8 ?_
  refine sy_no 0 (b := decide (Int.ofNat i ≥ Int.ofNat n)) (by kernel_rfl) (decide_eq_false (by simp; omega)) ?_
  refine ok_go 1 ?_
  refine sy_loop 0 lf h (α := Nat) (fun s => [(0, .slice (some ⟨b0, 0, none⟩) N c), (1, J i), (9, I (part f i s)), (30, .slice (some ⟨b0, 0, none⟩) N c), (31, J N), (32, J s)]) (fun s g => s ≤ N ∧ g = h) (fun s _ => N - s) 0 (by kernel_rfl) (by kernel_rfl) ⟨by kernel_rfl, by kernel_rfl, by kernel_rfl, by kernel_rfl, by kernel_rfl, by kernel_rfl, trivial⟩ (show N - 0 < lf by omega) ⟨Nat.zero_le _, rfl⟩ ?_
  rintro m1 k f1 g ⟨hk, rfl⟩ ih
  refine ok_go 1 ?_
  refine sy_test 0 (decide (Int.ofNat k < Int.ofNat N)) (by kernel_rfl) ?_ ?_
  · intro hlt
    have hlt := ok_nat hlt
    have hx := hfl k hlt
    have hpl := part_le f i k
    have hxor : xorI (Int.ofNat k) (IntKind.wrap .i64 (1 * 2 ^ min (IntKind.wrap .u64 (Int.ofNat i)).toNat IntKind.i64.bits)) = Int.ofNat (k ^^^ 2 ^ i) := by
      rw [hmin, hsh, xor_nat (by omega) (by omega)]
    refine ok_go 0 ?_
    refine sy_load 0 (r := indexAddrOp Try.prog 27 (.slice (some ⟨b0, 0, none⟩) N c) (J k)) (h' := g) (by kernel_rfl) (idxB hlt) ?_
    refine ok_go 0 ?_
    refine sy_load 0 (r := loadT Try.prog g 4 (ptr b0 k)) (h' := g) (by kernel_rfl) (A.read hlt) ?_
    refine ok_go 3 ?_
    refine sy_load 0 (r := indexAddrOp Try.prog 27 (.slice (some ⟨b0, 0, none⟩) N c) (.int .i64 (xorI (Int.ofNat k) (IntKind.wrap .i64 (1 * 2 ^ min (IntKind.wrap .u64 (Int.ofNat i)).toNat IntKind.i64.bits))))) (h' := g) (by kernel_rfl) (by rw [hxor]; exact idxB hx) ?_
    refine ok_go 0 ?_
    refine sy_load 0 (r := loadT Try.prog g 4 (ptr b0 (k ^^^ 2 ^ i))) (h' := g) (by kernel_rfl) (A.read hx) ?_
    refine ok_go 1 ?_
    refine sy_call 0 (by kernel_rfl) (L.nb (f (k ^^^ 2 ^ i) != f k) g) ?_
    refine ok_go 2 ?_
    exact sy_next 0 _ g (by kernel_rfl) (by kernel_rfl) (ih (k + 1) _ g ⟨hlt, rfl⟩ (show N - (k + 1) < N - k by omega) ⟨by kernel_rfl, by kernel_rfl, (by kernel_rfl : _ = I (IntKind.wrap .i64 (part f i k + (if (f (k ^^^ 2 ^ i) != f k) = true then 1 else 0)))).trans (by
      rw [part_succ, wrap_int (by split <;> omega) (by split <;> omega)]
      congr 2
      cases f (k ^^^ 2 ^ i) <;> cases f k <;> rfl), by kernel_rfl, by kernel_rfl, (by kernel_rfl : _ = Value.int .i64 (IntKind.wrap .i64 (Int.ofNat (k + 1)))).trans (by rw [wrap_nat (by omega)]), trivial⟩)
  · intro hlt
    have hlt := no_nat hlt
    have hkN : k = N := by omega
    subst hkN
    refine ok_go 0 ?_
    exact sy_done 0 (v := .tuple #[I (part f i k), J 0]) (h := g) (by kernel_rfl) ⟨rfl, rfl⟩
theorem bools_of (f : Nat → Bool) (N lf m a ca b cb : Nat) (hN : N ≤ 64) (hlf : 300 ≤ lf) (h : Hp) (A : ArB a N f h) (B : ArB b N f h) : Ev lf (m + 1) 26 [.slice (some ⟨a, 0, none⟩) N ca, .slice (some ⟨b, 0, none⟩) N cb] h = some (.bool true, h) := by
  refine fn_eq ?_
  refine ok_go 3 ?_
  refine sy_no 0 (b := Int.ofNat N != Int.ofNat N) (by kernel_rfl) (ne_no rfl) ?_
  refine ok_go 0 ?_
  refine sy_loop 0 lf h (α := Nat) (fun s => [(0, .slice (some ⟨a, 0, none⟩) N ca), (1, .slice (some ⟨b, 0, none⟩) N cb), (5, J s)]) (fun s g => s ≤ N ∧ g = h) (fun s _ => N - s) 0 (by kernel_rfl) (by kernel_rfl) ⟨by kernel_rfl, by kernel_rfl, by kernel_rfl, trivial⟩ (show N - 0 < lf by omega) ⟨Nat.zero_le _, rfl⟩ ?_
  rintro m1 k f1 g ⟨hk, rfl⟩ ih
  refine ok_go 2 ?_
  refine sy_test 0 (decide (Int.ofNat k < Int.ofNat N)) (by kernel_rfl) ?_ ?_
  · intro hlt
    have hlt := ok_nat hlt
    refine ok_go 0 ?_
    refine sy_load 0 (r := indexAddrOp Try.prog 27 (.slice (some ⟨a, 0, none⟩) N ca) (J k)) (h' := g) (by kernel_rfl) (idxB hlt) ?_
    refine ok_go 0 ?_
    refine sy_load 0 (r := loadT Try.prog g 4 (ptr a k)) (h' := g) (by kernel_rfl) (A.read hlt) ?_
    refine ok_go 0 ?_
    refine sy_load 0 (r := indexAddrOp Try.prog 27 (.slice (some ⟨b, 0, none⟩) N cb) (J k)) (h' := g) (by kernel_rfl) (idxB hlt) ?_
    refine ok_go 0 ?_
    refine sy_load 0 (r := loadT Try.prog g 4 (ptr b k)) (h' := g) (by kernel_rfl) (B.read hlt) ?_
    refine ok_go 1 ?_
    refine sy_no 0 (b := f k != f k) (by kernel_rfl) (by simp) ?_
    refine ok_go 1 ?_
    exact sy_next 0 _ g (by kernel_rfl) (by kernel_rfl) (ih (k + 1) _ g ⟨hlt, rfl⟩ (show N - (k + 1) < N - k by omega) ⟨by kernel_rfl, by kernel_rfl, (by kernel_rfl : _ = Value.int .i64 (IntKind.wrap .i64 (Int.ofNat (k + 1)))).trans (by rw [wrap_nat (by omega)]), trivial⟩)
  · intro _
    refine ok_go 0 ?_
    exact sy_done 0 (v := .bool true) (h := g) (by kernel_rfl) ⟨rfl, rfl⟩
end Go.Proofs.Ytnfboopfpkaeaaa
/- CubeG: contracts of functions. -/
namespace Go.Proofs.Ytnfboopfpkaeaaa
open Go Go.Eng Nim
set_option maxRecDepth 100000
set_option maxHeartbeats 4000000
theorem bits_of (z : Int) : ∃ k, k ≤ 6 ∧ ∀ lf m h, Ev lf (m + 1) 11 [I z, J 6] h = some (J k, h) := by
  have h0 : 0 ≤ IntKind.wrap .u64 z := by
    show 0 ≤ z % 2 ^ 64
    exact Int.emod_nonneg _ (by decide)
  obtain ⟨u, hu⟩ := Int.eq_ofNat_of_zero_le h0
  have hu : IntKind.wrap .u64 z = Int.ofNat u := hu
  refine ⟨u % 7, by omega, fun lf m h => ?_⟩
  refine fn_eq ?_
  refine ok_go 5 ?_
  exact sy_done 0 (v := I (IntKind.wrap .i64 ((IntKind.wrap .u64 z).tmod 7))) (h := h) (by kernel_rfl) ⟨by rw [hu]; show I (IntKind.wrap .i64 (Int.ofNat (u % 7))) = _; rw [wrap_nat (by omega)], rfl⟩
/-- What make makes. -/
theorem makeSl {P : Program} {h : Hp} {t e : TypeId} {len : Nat} {z : Value} {inf : TypeInfo} {kd kd' : IntKind} (hu : P.underlying t = some (.slice e)) (hz : zeroOf P e = some z) (hi : P.info? e = some inf) (hb : Nat.ble inf.bytes 4096 = true)
    (hs : Nat.beq z.cells.size inf.size = true) (hsc : z.cells.toList.all scalar = true) (hn : len < 16777216) :
    makeSliceOp P h t (.int kd (Int.ofNat len)) (.int kd' (Int.ofNat len)) = some (.slice (some ⟨h.next, 0, none⟩) len (2 * len), h.new (.cells (zeros z.cells.toList len) e false)) := by
  have h1 : Nat.ble len len = true := Nat.ble_eq_true_of_le (Nat.le_refl _)
  have h2 : Nat.ble len most = true := Nat.ble_eq_true_of_le (by unfold most; omega)
  simp only [makeSliceOp, hu, natOf, hz, hi, h1, h2, hb, hs, hsc]
theorem table_of (x : Int) (n : Nat) (hn : n ≤ 6) (kind : Int) (lf m : Nat) (hlf : 300 ≤ lf) (h : Hp) :
    ∃ y h', Ev lf (m + 1) 10 [.int .u64 x, J n, I kind] h = some (y, h') ∧ ∃ b f, y = .slice (some ⟨b, 0, none⟩) (2 ^ n) (2 * 2 ^ n) ∧ h.next ≤ b ∧ h.Ext h' ∧ ArB b (2 ^ n) f h' := by
  have hp64 : 2 ^ n ≤ 64 := Nat.pow_le_pow_right (n := 2) (by decide) hn
  have hpc : ((2 : Int) ^ n) = ((2 ^ n : Nat) : Int) := by simp
  have hmin : min (IntKind.wrap .u64 (Int.ofNat n)).toNat IntKind.i64.bits = n := by
    rcases (by omega : n = 0 ∨ n = 1 ∨ n = 2 ∨ n = 3 ∨ n = 4 ∨ n = 5 ∨ n = 6) with rfl | rfl | rfl | rfl | rfl | rfl | rfl <;> rfl
  have hsh : IntKind.wrap .i64 (1 * 2 ^ n) = Int.ofNat (2 ^ n) := by
    rw [Int.one_mul, hpc]
    exact wrap_nat (by omega)
  obtain ⟨y, hy, ey⟩ : ∃ y, y < 4 ∧ (IntKind.wrap .u64 kind).tmod 4 = Int.ofNat y := by
    have h0 : 0 ≤ IntKind.wrap .u64 kind := by
      show 0 ≤ kind % 2 ^ 64
      exact Int.emod_nonneg _ (by decide)
    obtain ⟨u, hu⟩ := Int.eq_ofNat_of_zero_le h0
    have hu : IntKind.wrap .u64 kind = Int.ofNat u := hu
    exact ⟨u % 4, by omega, by rw [hu]; rfl⟩
  refine fnS_ok (Q := fun y h' => ∃ b f, y = .slice (some ⟨b, 0, none⟩) (2 ^ n) (2 * 2 ^ n) ∧ h.next ≤ b ∧ h.Ext h' ∧ ArB b (2 ^ n) f h') ?_
  generalize hN : 2 ^ n = N at *
  refine sy_call 1 (r := some (.int .i64 (IntKind.wrap .i64 (1 * 2 ^ min (IntKind.wrap .u64 (Int.ofNat n)).toNat IntKind.i64.bits)), h)) (v := J N) (h' := h) (by kernel_rfl) (by rw [hmin, hsh]) ?_
  refine ok_go 0 ?_
  refine sy_call 0 (r := makeSliceOp Try.prog h 27 (J N) (J N)) (v := .slice (some ⟨h.next, 0, none⟩) N (2 * N)) (h' := h.new (.cells (zeros [.bool false] N) 4 false)) (by kernel_rfl) (makeSl (z := .bool false) (inf := (Try.prog.info? 4).get!) uB (by kernel_rfl) (by kernel_rfl) (by kernel_rfl) (by kernel_rfl) (by kernel_rfl) (by omega)) ?_
  have B0 : ArB h.next N (fun _ => false) (h.new (.cells (zeros [.bool false] N) 4 false)) := ⟨Nat.lt_succ_self _, false, by rw [zeros_one]; exact get_new _ _⟩
  have X0 : h.Ext (h.new (.cells (zeros [.bool false] N) 4 false)) := Hp.Ext.new _ _
  generalize hh0 : h.new (.cells (zeros [.bool false] N) 4 false) = h0 at B0 X0
  clear hh0
  refine ok_go 0 ?_
  refine sy_loop 0 lf h0 (α := Nat) (fun s => [(0, .int .u64 x), (2, I kind), (7, J N), (8, .slice (some ⟨h.next, 0, none⟩) N (2 * N)), (9, J s)]) (fun s g => s ≤ N ∧ h.Ext g ∧ ∃ f, ArB h.next N f g) (fun s _ => N - s) 0 (by kernel_rfl) (by kernel_rfl) ⟨by kernel_rfl, by kernel_rfl, by kernel_rfl, by kernel_rfl, by kernel_rfl, trivial⟩ (show N - 0 < lf by omega) ⟨Nat.zero_le _, X0, _, B0⟩ ?_
  rintro m1 i f1 g ⟨hi, X, f, A⟩ ih
  refine ok_go 1 ?_
  refine sy_test 0 (decide (Int.ofNat i < Int.ofNat N)) (by kernel_rfl) ?_ ?_
  · intro hlt
    have hlt := ok_nat hlt
    have fin : ∀ z : Bool, ∃ g', storeT Try.prog g 4 (ptr h.next i) (.bool z) = some g' ∧ h.Ext g' ∧ ∃ f, ArB h.next N f g' := fun z => by
      obtain ⟨g', e, A', n', o'⟩ := A.store hlt z
      exact ⟨g', e, ext_of X (Nat.le_refl _) n' o', _, A'⟩
    refine sy_call 5 (r := some (.int .u64 ((IntKind.wrap .u64 kind).tmod 4), g)) (v := .int .u64 (Int.ofNat y)) (h' := g) (by kernel_rfl) (by rw [ey]) ?_
    rcases (by omega : y = 0 ∨ y = 1 ∨ y = 2 ∨ y = 3) with rfl | rfl | rfl | rfl
    · obtain ⟨g', e, X', f', A'⟩ := fin ((x.fdiv (2 ^ min (IntKind.wrap .u64 (Int.ofNat i)).toNat IntKind.u64.bits)).tmod 2 == 1)
      refine ok_go 6 ?_
      refine sy_load 0 (r := indexAddrOp Try.prog 27 (.slice (some ⟨h.next, 0, none⟩) N (2 * N)) (J i)) (h' := g) (by kernel_rfl) (idxB hlt) ?_
      refine ok_go 0 ?_
      refine sy_store 0 (r := storeT Try.prog g 4 (ptr h.next i) (.bool ((x.fdiv (2 ^ min (IntKind.wrap .u64 (Int.ofNat i)).toNat IntKind.u64.bits)).tmod 2 == 1))) (by kernel_rfl) e ?_
      refine ok_go 1 ?_
      exact sy_next 0 _ g' (by kernel_rfl) (by kernel_rfl) (ih (i + 1) _ g' ⟨hlt, X', f', A'⟩ (show N - (i + 1) < N - i by omega) ⟨by kernel_rfl, by kernel_rfl, by kernel_rfl, by kernel_rfl, (by kernel_rfl : _ = Value.int .i64 (IntKind.wrap .i64 (Int.ofNat (i + 1)))).trans (by rw [wrap_nat (by omega)]), trivial⟩)
    · refine ok_go 2 ?_
      refine sy_test 0 ((x.fdiv (2 ^ min (IntKind.wrap .u64 (Int.ofNat i)).toNat IntKind.u64.bits)).tmod 2 == 1) (by kernel_rfl) ?_ ?_
      · intro _
        have hw : (IntKind.wrap .i64 (IntKind.wrap .i64 (Int.ofNat i * 7) + 3)).tmod 64 = Int.ofNat ((i * 7 + 3) % 64) := by
          rw [show Int.ofNat i * 7 = Int.ofNat (i * 7) from rfl, wrap_nat (by omega), show Int.ofNat (i * 7) + 3 = Int.ofNat (i * 7 + 3) from rfl, wrap_nat (by omega)]
          rfl
        refine sy_call 6 (r := some (.int .i64 ((IntKind.wrap .i64 (IntKind.wrap .i64 (Int.ofNat i * 7) + 3)).tmod 64), g)) (v := J ((i * 7 + 3) % 64)) (h' := g) (by kernel_rfl) (by rw [hw]) ?_
        obtain ⟨g', e, X', f', A'⟩ := fin ((x.fdiv (2 ^ min (IntKind.wrap .u64 (Int.ofNat ((i * 7 + 3) % 64))).toNat IntKind.u64.bits)).tmod 2 == 1)
        refine ok_go 9 ?_
        refine sy_load 0 (r := indexAddrOp Try.prog 27 (.slice (some ⟨h.next, 0, none⟩) N (2 * N)) (J i)) (h' := g) (by kernel_rfl) (idxB hlt) ?_
        refine ok_go 0 ?_
        refine sy_store 0 (r := storeT Try.prog g 4 (ptr h.next i) (.bool ((x.fdiv (2 ^ min (IntKind.wrap .u64 (Int.ofNat ((i * 7 + 3) % 64))).toNat IntKind.u64.bits)).tmod 2 == 1))) (by kernel_rfl) e ?_
        refine ok_go 1 ?_
        exact sy_next 0 _ g' (by kernel_rfl) (by kernel_rfl) (ih (i + 1) _ g' ⟨hlt, X', f', A'⟩ (show N - (i + 1) < N - i by omega) ⟨by kernel_rfl, by kernel_rfl, by kernel_rfl, by kernel_rfl, (by kernel_rfl : _ = Value.int .i64 (IntKind.wrap .i64 (Int.ofNat (i + 1)))).trans (by rw [wrap_nat (by omega)]), trivial⟩)
      · intro _
        obtain ⟨g', e, X', f', A'⟩ := fin false
        refine ok_go 9 ?_
        refine sy_load 0 (r := indexAddrOp Try.prog 27 (.slice (some ⟨h.next, 0, none⟩) N (2 * N)) (J i)) (h' := g) (by kernel_rfl) (idxB hlt) ?_
        refine ok_go 0 ?_
        refine sy_store 0 (r := storeT Try.prog g 4 (ptr h.next i) (.bool false)) (by kernel_rfl) e ?_
        refine ok_go 1 ?_
        exact sy_next 0 _ g' (by kernel_rfl) (by kernel_rfl) (ih (i + 1) _ g' ⟨hlt, X', f', A'⟩ (show N - (i + 1) < N - i by omega) ⟨by kernel_rfl, by kernel_rfl, by kernel_rfl, by kernel_rfl, (by kernel_rfl : _ = Value.int .i64 (IntKind.wrap .i64 (Int.ofNat (i + 1)))).trans (by rw [wrap_nat (by omega)]), trivial⟩)
    · refine ok_go 4 ?_
      refine sy_loop 0 lf g (α := Nat × Nat) (fun s => [(0, .int .u64 x), (2, I kind), (7, J N), (8, .slice (some ⟨h.next, 0, none⟩) N (2 * N)), (9, J i), (11, J s.1), (12, J s.2)]) (fun s k => k = g ∧ s.1 + s.2 ≤ i) (fun s _ => s.2) (0, i) (by kernel_rfl) (by kernel_rfl) ⟨by kernel_rfl, by kernel_rfl, by kernel_rfl, by kernel_rfl, by kernel_rfl, by kernel_rfl, by kernel_rfl, trivial⟩ (show i < lf by omega) ⟨rfl, by show 0 + i ≤ i; omega⟩ ?_
      rintro m2 ⟨o, k⟩ f2 g2 ⟨rfl, hok⟩ ih2
      dsimp only at hok
      refine ok_go 1 ?_
      refine sy_test 0 (decide (Int.ofNat k > 0)) (by kernel_rfl) ?_ ?_
      · intro hk
        have hk : 0 < k := by have := of_decide_eq_true hk; simp at this; omega
        refine ok_go 3 ?_
        exact sy_next 0 _ g2 (by kernel_rfl) (by kernel_rfl) (ih2 (o + k % 2, k / 2) _ g2 ⟨rfl, by show o + k % 2 + k / 2 ≤ i; omega⟩ (show k / 2 < k by omega) ⟨by kernel_rfl, by kernel_rfl, by kernel_rfl, by kernel_rfl, by kernel_rfl, (by kernel_rfl : _ = Value.int .i64 (IntKind.wrap .i64 (Int.ofNat (o + k % 2)))).trans (by rw [wrap_nat (by omega)]), (by kernel_rfl : _ = Value.int .i64 (IntKind.wrap .i64 (Int.ofNat (k / 2)))).trans (by rw [wrap_nat (by omega)]), trivial⟩)
      · intro _
        obtain ⟨g', e, X', f', A'⟩ := fin ((x.fdiv (2 ^ min (IntKind.wrap .u64 (Int.ofNat o)).toNat IntKind.u64.bits)).tmod 2 == 1)
        refine ok_go 4 ?_
        refine sy_load 0 (r := indexAddrOp Try.prog 27 (.slice (some ⟨h.next, 0, none⟩) N (2 * N)) (J i)) (h' := g2) (by kernel_rfl) (idxB hlt) ?_
        refine ok_go 0 ?_
        refine sy_store 0 (r := storeT Try.prog g2 4 (ptr h.next i) (.bool ((x.fdiv (2 ^ min (IntKind.wrap .u64 (Int.ofNat o)).toNat IntKind.u64.bits)).tmod 2 == 1))) (by kernel_rfl) e ?_
        refine ok_go 1 ?_
        exact sy_next 0 _ g' (by kernel_rfl) (by kernel_rfl) (ih (i + 1) _ g' ⟨hlt, X', f', A'⟩ (show N - (i + 1) < N - i by omega) ⟨by kernel_rfl, by kernel_rfl, by kernel_rfl, by kernel_rfl, (by kernel_rfl : _ = Value.int .i64 (IntKind.wrap .i64 (Int.ofNat (i + 1)))).trans (by rw [wrap_nat (by omega)]), trivial⟩)
    · obtain ⟨g', e, X', f', A'⟩ := fin ((x.fdiv (2 ^ min (IntKind.wrap .u64 ((Int.ofNat i).tmod 4)).toNat IntKind.u64.bits)).tmod 2 == 1)
      refine ok_go 11 ?_
      refine sy_load 0 (r := indexAddrOp Try.prog 27 (.slice (some ⟨h.next, 0, none⟩) N (2 * N)) (J i)) (h' := g) (by kernel_rfl) (idxB hlt) ?_
      refine ok_go 0 ?_
      refine sy_store 0 (r := storeT Try.prog g 4 (ptr h.next i) (.bool ((x.fdiv (2 ^ min (IntKind.wrap .u64 ((Int.ofNat i).tmod 4)).toNat IntKind.u64.bits)).tmod 2 == 1))) (by kernel_rfl) e ?_
      refine ok_go 1 ?_
      exact sy_next 0 _ g' (by kernel_rfl) (by kernel_rfl) (ih (i + 1) _ g' ⟨hlt, X', f', A'⟩ (show N - (i + 1) < N - i by omega) ⟨by kernel_rfl, by kernel_rfl, by kernel_rfl, by kernel_rfl, (by kernel_rfl : _ = Value.int .i64 (IntKind.wrap .i64 (Int.ofNat (i + 1)))).trans (by rw [wrap_nat (by omega)]), trivial⟩)
  · intro hlt
    have hlt := no_nat hlt
    refine ok_go 0 ?_
    exact sy_done 0 (v := .slice (some ⟨h.next, 0, none⟩) N (2 * N)) (h := g) (by kernel_rfl) ⟨h.next, f, rfl, Nat.le_refl _, X, A⟩
end Go.Proofs.Ytnfboopfpkaeaaa
/- CubeH: contracts of functions. -/
namespace Go.Proofs.Ytnfboopfpkaeaaa
open Go Go.Eng Nim
set_option maxRecDepth 100000
set_option maxHeartbeats 8000000
theorem ArI.ext {b N : Nat} {v : Nat → Int} {h g : Hp} (H : ArI b N v h) (k : h.Ext g) : ArI b N v g := ⟨Nat.lt_of_lt_of_le H.lt k.next, by obtain ⟨o, e⟩ := H.get; exact ⟨o, k.at_ H.lt e⟩⟩
theorem ArB.ext {b N : Nat} {v : Nat → Bool} {h g : Hp} (H : ArB b N v h) (k : h.Ext g) : ArB b N v g := ⟨Nat.lt_of_lt_of_le H.lt k.next, by obtain ⟨o, e⟩ := H.get; exact ⟨o, k.at_ H.lt e⟩⟩
/-- The first k numbers of a row, added. -/
def ps (g : Nat → Int) (k : Nat) : Int := ((List.range k).map g).sum
theorem ps_succ (g : Nat → Int) (k : Nat) : ps g (k + 1) = ps g k + g k := by
  unfold ps
  rw [List.range_succ, List.map_append, List.sum_append]
  simp
theorem ps_bound {g : Nat → Int} {B : Nat} (hg : ∀ x, 0 ≤ g x ∧ g x ≤ B) : ∀ k, 0 ≤ ps g k ∧ ps g k ≤ k * B
  | 0 => by simp [ps]
  | k + 1 => by
    rw [ps_succ]
    have := ps_bound hg k
    have h2 := hg k
    have : ((k + 1 : Nat) : Int) * (B : Int) = k * B + B := by rw [Int.natCast_add, Int.add_mul]; simp
    omega
theorem ps_add (g : Nat → Int) (a : Nat) : ∀ k, ps g (a + k) = ps g a + ps (fun x => g (x + a)) k
  | 0 => by simp [ps]
  | k + 1 => by
    rw [← Nat.add_assoc, ps_succ, ps_add g a k, ps_succ, Nat.add_comm k a]
    omega
theorem sm_ps : ∀ (n : Nat) (g : Nat → Int), sm n g = ps g (2 ^ n)
  | 0, g => by simp [sm, ps]
  | n + 1, g => by
    rw [Nat.pow_succ, show 2 ^ n * 2 = 2 ^ n + 2 ^ n by omega, ps_add, ← sm_ps n g, ← sm_ps n fun x => g (x + 2 ^ n)]
    rfl
theorem sq_bound {z : Int} (h0 : -64 ≤ z) (h1 : z ≤ 64) : 0 ≤ z * z ∧ z * z ≤ (4096 : Nat) := by
  have h2 : z.natAbs ≤ 64 := by omega
  have h3 : z.natAbs * z.natAbs ≤ 64 * 64 := Nat.mul_le_mul h2 h2
  rw [← Int.natAbs_mul_self]
  omega
/-- What the law calls. -/
structure Upper (lf m : Nat) : Prop where
  hlf : 300 ≤ lf
  tb : ∀ x n kind h, n ≤ 6 → ∃ y h', Ev lf m 10 [.int .u64 x, J n, I kind] h = some (y, h') ∧ ∃ b f, y = .slice (some ⟨b, 0, none⟩) (2 ^ n) (2 * 2 ^ n) ∧ h.next ≤ b ∧ h.Ext h' ∧ ArB b (2 ^ n) f h'
  bt : ∀ z, ∃ k, k ≤ 6 ∧ ∀ h, Ev lf m 11 [I z, J 6] h = some (J k, h)
  sp : ∀ f n b c h, n ≤ 6 → ArB b (2 ^ n) f h → ∃ x h', Ev lf m 25 [.slice (some ⟨b, 0, none⟩) (2 ^ n) c] h = some (x, h') ∧ ∃ b, x = .tuple #[.slice (some ⟨b, 0, none⟩) (2 ^ n) (2 * 2 ^ n + 1), J 0] ∧ h.next ≤ b ∧ h.Ext h' ∧ ArI b (2 ^ n) (trn wsh n (sgn f)) h'
  inf : ∀ f n i b c h, n ≤ 6 → i < n → ArB b (2 ^ n) f h → Ev lf m 35 [.slice (some ⟨b, 0, none⟩) (2 ^ n) c, J i] h = some (.tuple #[I (part f i (2 ^ n)), J 0], h)
  rm : ∀ f n b c h, n ≤ 6 → ArB b (2 ^ n) f h → ∃ x h', Ev lf m 22 [.slice (some ⟨b, 0, none⟩) (2 ^ n) c] h = some (x, h') ∧ ∃ b, x = .tuple #[.slice (some ⟨b, 0, none⟩) (2 ^ n) (2 * 2 ^ n + 1), J 0] ∧ h.next ≤ b ∧ h.Ext h' ∧ ArB b (2 ^ n) (trn (up fun a b => a != b) n f) h'
  re : ∀ f n b c h, n ≤ 6 → ArB b (2 ^ n) f h → ∃ x h', Ev lf m 23 [.slice (some ⟨b, 0, none⟩) (2 ^ n) c] h = some (x, h') ∧ ∃ b, x = .tuple #[.slice (some ⟨b, 0, none⟩) (2 ^ n) (2 * 2 ^ n + 1), J 0] ∧ h.next ≤ b ∧ h.Ext h' ∧ ArI b (2 ^ n) (trn (up fun a b => b - a) n (num f)) h'
  fr : ∀ f n b c h, n ≤ 6 → ArI b (2 ^ n) (trn (up fun a b => b - a) n (num f)) h → ∃ x h', Ev lf m 32 [.slice (some ⟨b, 0, none⟩) (2 ^ n) c] h = some (x, h') ∧ ∃ b, x = .tuple #[.slice (some ⟨b, 0, none⟩) (2 ^ n) (2 * 2 ^ n + 1), J 0] ∧ h.next ≤ b ∧ h.Ext h' ∧ ArB b (2 ^ n) f h'
  bo : ∀ f N a ca b cb h, N ≤ 64 → ArB a N f h → ArB b N f h → Ev lf m 26 [.slice (some ⟨a, 0, none⟩) N ca, .slice (some ⟨b, 0, none⟩) N cb] h = some (.bool true, h)
  aw : ∀ h, Ev lf m 21 [] h = some (.bool true, h)
theorem min_nat {i : Nat} (hi : i ≤ 6) : min (IntKind.wrap .u64 (Int.ofNat i)).toNat IntKind.i64.bits = i := by
  rcases (by omega : i = 0 ∨ i = 1 ∨ i = 2 ∨ i = 3 ∨ i = 4 ∨ i = 5 ∨ i = 6) with rfl | rfl | rfl | rfl | rfl | rfl | rfl <;> rfl
theorem shl_nat {i : Nat} (hi : i ≤ 6) : IntKind.wrap .i64 (1 * 2 ^ min (IntKind.wrap .u64 (Int.ofNat i)).toNat IntKind.i64.bits) = Int.ofNat (2 ^ i) := by
  have hp64 : 2 ^ i ≤ 64 := Nat.pow_le_pow_right (n := 2) (by decide) hi
  have hpc : ((2 : Int) ^ i) = ((2 ^ i : Nat) : Int) := by simp
  rw [min_nat hi, Int.one_mul, hpc]
  exact wrap_nat (by omega)
/-- The squares of the numbers whose bit i is set. -/
def sqb (w : Nat → Int) (i x : Nat) : Int := match x.testBit i with | true => w x * w x | false => 0
theorem bit_eq (k : Nat) {i : Nat} (hi : i ≤ 6) : (((Int.ofNat k).fdiv (2 ^ min (IntKind.wrap .u64 (Int.ofNat i)).toNat IntKind.i64.bits)).tmod 2 == 1) = k.testBit i := by
  have hpc : ((2 : Int) ^ i) = ((2 ^ i : Nat) : Int) := by simp
  rw [min_nat hi, hpc, Nat.testBit_eq_decide_div_mod_eq, show (Int.ofNat k).fdiv ((2 ^ i : Nat) : Int) = ((k / 2 ^ i : Nat) : Int) from (Int.ofNat_fdiv _ _).symm, show ((k / 2 ^ i : Nat) : Int).tmod 2 = ((k / 2 ^ i % 2 : Nat) : Int) from (Int.ofNat_tmod _ 2).symm]
  rcases Nat.mod_two_eq_zero_or_one (k / 2 ^ i) with h | h <;> rw [h] <;> rfl
theorem sqb_le {w : Nat → Int} (h : ∀ x, 0 ≤ w x * w x ∧ w x * w x ≤ (4096 : Nat)) (i : Nat) : ∀ x, 0 ≤ sqb w i x ∧ sqb w i x ≤ (4096 : Nat) := by
  intro x
  unfold sqb
  split
  · exact h x
  · omega
theorem facts (n : Nat) (hn : n ≤ 6) (f : Nat → Bool) : ∃ w, trn wsh n (sgn f) = w ∧ (∀ x, 0 ≤ w x * w x ∧ w x * w x ≤ (4096 : Nat)) ∧ ps (fun x => w x * w x) (2 ^ n) = ((2 ^ n * 2 ^ n : Nat) : Int) ∧ ∀ i, i < n → part f i (2 ^ n) * ((2 ^ n : Nat) : Int) = ps (sqb w i) (2 ^ n) := by
  have hpc : ((2 : Int) ^ n) = ((2 ^ n : Nat) : Int) := by simp
  have hp64 : 2 ^ n ≤ 64 := Nat.pow_le_pow_right (n := 2) (by decide) hn
  refine ⟨_, rfl, fun x => ?_, ?_, fun i hi => ?_⟩
  · have h := trn_le (s := wsh) (B := 1) (fun a b B h1 h2 h3 h4 => ⟨⟨by simp only [wsh]; omega, by simp only [wsh]; omega⟩, by simp only [wsh]; omega, by simp only [wsh]; omega⟩) (l := sgn f) (fun x => by unfold sgn; split <;> omega) n x
    rw [hpc] at h
    exact sq_bound (by omega) (by omega)
  · rw [← sm_ps, parseval, hpc, Int.natCast_mul]
  · have h := influence hi f
    rw [hpc] at h
    rw [← sm_ps, show part f i (2 ^ n) = cnt n i f by unfold cnt; rw [sm_ps]; rfl, h]
    rfl
theorem s6 (x a0 a1 : Int) (lf m : Nat) (U : Upper lf m) (h : Hp) : ∃ H, Ev lf (m + 1) 6 [.int .u64 x, .agg #[I a0, I a1]] h = some (.bool true, H) := by
  obtain ⟨n, hn, bt⟩ := U.bt a0
  have hp64 : 2 ^ n ≤ 64 := Nat.pow_le_pow_right (n := 2) (by decide) hn
  refine fn_val ?_
  have X0 : h.Ext (h.new (.cells [I a0, I a1] 49 false)) := Hp.Ext.new _ _
  have gx := get_new h (.cells [I a0, I a1] 49 false)
  generalize hX : h.new (.cells [I a0, I a1] 49 false) = X at X0 gx
  refine ok_go 2 ?_
  refine sy_load 0 (r := loadT Try.prog (h.new (.cells [I a0, I a1] 49 false)) 3 (ptr h.next 0)) (h' := (h.new (.cells [I a0, I a1] 49 false))) (by kernel_rfl) (by rw [hX]; exact load1 agI gx rfl) ?_
  rw [hX]
  refine ok_go 0 ?_
  refine sy_call 0 (by kernel_rfl) (bt X) ?_
  refine ok_go 1 ?_
  refine sy_load 0 (r := loadT Try.prog X 3 (ptr h.next 1)) (h' := X) (by kernel_rfl) (load1 agI gx rfl) ?_
  obtain ⟨_, h1, e1, b, f, rfl, hb, X1, A1⟩ := U.tb x n a1 X hn
  refine ok_go 0 ?_
  refine sy_call 0 (by kernel_rfl) e1 ?_
  refine ok_go 0 ?_
  refine sy_need 0 [3] [⟨some (Eng.undef, X), Eng.undef, X⟩] (by kernel_rfl) ⟨rfl, trivial⟩ ?_
  refine ok_go 0 ?_
  obtain ⟨_, h2, e2, b2, rfl, hb2, X2, A2⟩ := U.sp f n b (2 * 2 ^ n) h1 hn A1
  obtain ⟨w, hw, hsq, hpar, hinf⟩ := facts n hn f
  rw [hw] at A2
  have hlf := U.hlf
  refine sy_call 0 (by kernel_rfl) e2 ?_
  generalize hN : 2 ^ n = N at *
  refine ok_go 12 ?_
  refine sy_no 0 (b := Int.ofNat N != Int.ofNat N) (by kernel_rfl) (ne_no rfl) ?_
  refine ok_go 0 ?_
  refine sy_loop 0 lf h2 (α := Nat) (fun s => [(5, .slice (some ⟨b, 0, none⟩) N (2 * N)), (6, .slice (some ⟨b2, 0, none⟩) N (2 * N + 1)), (8, I (ps (fun x => w x * w x) s)), (9, J s)]) (fun s g => s ≤ N ∧ g = h2) (fun s _ => N - s) 0 (by kernel_rfl) (by kernel_rfl) ⟨by kernel_rfl, by kernel_rfl, by kernel_rfl, by kernel_rfl, trivial⟩ (show N - 0 < lf by omega) ⟨Nat.zero_le _, rfl⟩ ?_
  rintro m1 k f1 g ⟨hk, rfl⟩ ih
  refine ok_go 2 ?_
  refine sy_test 0 (decide (Int.ofNat k < Int.ofNat N)) (by kernel_rfl) ?_ ?_
  · intro hlt
    have hlt := ok_nat hlt
    have hb4 := ps_bound hsq k
    have hb5 := hsq k
    refine ok_go 0 ?_
    refine sy_load 0 (r := indexAddrOp Try.prog 50 (.slice (some ⟨b2, 0, none⟩) N (2 * N + 1)) (J k)) (h' := g) (by kernel_rfl) (idxI hlt) ?_
    refine ok_go 0 ?_
    refine sy_load 0 (r := loadT Try.prog g 3 (ptr b2 k)) (h' := g) (by kernel_rfl) (A2.read hlt) ?_
    refine ok_go 0 ?_
    refine sy_load 0 (r := indexAddrOp Try.prog 50 (.slice (some ⟨b2, 0, none⟩) N (2 * N + 1)) (J k)) (h' := g) (by kernel_rfl) (idxI hlt) ?_
    refine ok_go 0 ?_
    refine sy_load 0 (r := loadT Try.prog g 3 (ptr b2 k)) (h' := g) (by kernel_rfl) (A2.read hlt) ?_
    refine ok_go 3 ?_
    exact sy_next 0 _ g (by kernel_rfl) (by kernel_rfl) (ih (k + 1) _ g ⟨hlt, rfl⟩ (show N - (k + 1) < N - k by omega) ⟨by kernel_rfl, by kernel_rfl, (by kernel_rfl : _ = I (IntKind.wrap .i64 (ps (fun x => w x * w x) k + IntKind.wrap .i64 (w k * w k)))).trans (by
      rw [ps_succ]
      generalize w k * w k = q at hb5 ⊢
      generalize ps (fun x => w x * w x) k = r at hb4 ⊢
      have : (k : Int) * ((4096 : Nat) : Int) ≤ 64 * 4096 := Int.mul_le_mul_of_nonneg_right (by omega) (by omega)
      rw [wrap_int (x := q) (by omega) (by omega), wrap_int (by omega) (by omega)]), (by kernel_rfl : _ = Value.int .i64 (IntKind.wrap .i64 (Int.ofNat (k + 1)))).trans (by rw [wrap_nat (by omega)]), trivial⟩)
  · intro hlt
    have hlt := no_nat hlt
    have hkN : N = k := by omega
    subst hkN
    refine ok_go 4 ?_
    refine sy_no 0 (b := ps (fun x => w x * w x) N != IntKind.wrap .i64 (Int.ofNat N * Int.ofNat N)) (by kernel_rfl) (by
      have h64 : N * N ≤ 64 * 64 := Nat.mul_le_mul hp64 hp64
      rw [hpar, show Int.ofNat N * Int.ofNat N = Int.ofNat (N * N) from rfl, wrap_nat (by omega)]
      exact bne_self_eq_false _) ?_
    refine ok_go 0 ?_
    have hX2 := X2
    have hpow : ∀ i, (2 : Nat) ^ i < N ↔ i < n := by
      intro i
      rw [← hN]
      exact Nat.pow_lt_pow_iff_right (by decide)
    refine sy_loop 0 lf g (α := Nat) (fun s => [(5, .slice (some ⟨b, 0, none⟩) N (2 * N)), (6, .slice (some ⟨b2, 0, none⟩) N (2 * N + 1)), (10, J s)]) (fun s k => s ≤ n ∧ k = g) (fun s _ => n - s) 0 (by kernel_rfl) (by kernel_rfl) ⟨by kernel_rfl, by kernel_rfl, by kernel_rfl, trivial⟩ (show n - 0 < lf by omega) ⟨Nat.zero_le _, rfl⟩ ?_
    rintro m2 i f2 g2 ⟨hi, rfl⟩ ih2
    refine ok_go 4 ?_
    refine sy_test 0 (decide (IntKind.wrap .i64 (1 * 2 ^ min (IntKind.wrap .u64 (Int.ofNat i)).toNat IntKind.i64.bits) < Int.ofNat N)) (by kernel_rfl) ?_ ?_
    · intro hlt
      rw [shl_nat (by omega)] at hlt
      have hlt := (hpow i).1 (ok_nat hlt)
      have inf := U.inf f n i b (2 * N) g2 hn hlt
      rw [hN] at inf
      have inf := inf (A1.ext hX2)
      refine ok_go 0 ?_
      refine sy_call 0 (by kernel_rfl) inf ?_
      refine ok_go 2 ?_
      refine sy_loop 0 lf g2 (α := Nat) (fun s => [(5, .slice (some ⟨b, 0, none⟩) N (2 * N)), (6, .slice (some ⟨b2, 0, none⟩) N (2 * N + 1)), (10, J i), (11, I (part f i N)), (12, J 0), (13, I (ps (sqb w i) s)), (14, J s)]) (fun s k => s ≤ N ∧ k = g2) (fun s _ => N - s) 0 (by kernel_rfl) (by kernel_rfl) ⟨by kernel_rfl, by kernel_rfl, by kernel_rfl, by kernel_rfl, by kernel_rfl, by kernel_rfl, by kernel_rfl, trivial⟩ (show N - 0 < lf by omega) ⟨Nat.zero_le _, rfl⟩ ?_
      rintro m3 k f3 g3 ⟨hk, rfl⟩ ih3
      refine ok_go 2 ?_
      refine sy_test 0 (decide (Int.ofNat k < Int.ofNat N)) (by kernel_rfl) ?_ ?_
      · intro hlt
        have hlt := ok_nat hlt
        have hb4 := ps_bound (sqb_le hsq i) k
        have hb5 := hsq k
        refine ok_go 4 ?_
        refine sy_test 0 (((Int.ofNat k).fdiv (2 ^ min (IntKind.wrap .u64 (Int.ofNat i)).toNat IntKind.i64.bits)).tmod 2 == 1) (by kernel_rfl) ?_ ?_
        · intro hbit
          rw [bit_eq k (by omega)] at hbit
          refine ok_go 0 ?_
          refine sy_load 0 (r := indexAddrOp Try.prog 50 (.slice (some ⟨b2, 0, none⟩) N (2 * N + 1)) (J k)) (h' := g3) (by kernel_rfl) (idxI hlt) ?_
          refine ok_go 0 ?_
          refine sy_load 0 (r := loadT Try.prog g3 3 (ptr b2 k)) (h' := g3) (by kernel_rfl) (A2.read hlt) ?_
          refine ok_go 0 ?_
          refine sy_load 0 (r := indexAddrOp Try.prog 50 (.slice (some ⟨b2, 0, none⟩) N (2 * N + 1)) (J k)) (h' := g3) (by kernel_rfl) (idxI hlt) ?_
          refine ok_go 0 ?_
          refine sy_load 0 (r := loadT Try.prog g3 3 (ptr b2 k)) (h' := g3) (by kernel_rfl) (A2.read hlt) ?_
          refine ok_go 3 ?_
          exact sy_next 0 _ g3 (by kernel_rfl) (by kernel_rfl) (ih3 (k + 1) _ g3 ⟨hlt, rfl⟩ (show N - (k + 1) < N - k by omega) ⟨by kernel_rfl, by kernel_rfl, by kernel_rfl, by kernel_rfl, by kernel_rfl, (by kernel_rfl : _ = I (IntKind.wrap .i64 (ps (sqb w i) k + IntKind.wrap .i64 (w k * w k)))).trans (by
            rw [ps_succ, show sqb w i k = w k * w k by unfold sqb; rw [hbit]]
            generalize w k * w k = q at hb5 ⊢
            generalize ps (sqb w i) k = r at hb4 ⊢
            have : (k : Int) * ((4096 : Nat) : Int) ≤ 64 * 4096 := Int.mul_le_mul_of_nonneg_right (by omega) (by omega)
            rw [wrap_int (x := q) (by omega) (by omega), wrap_int (by omega) (by omega)]), (by kernel_rfl : _ = Value.int .i64 (IntKind.wrap .i64 (Int.ofNat (k + 1)))).trans (by rw [wrap_nat (by omega)]), trivial⟩)
        · intro hbit
          rw [bit_eq k (by omega)] at hbit
          refine ok_go 1 ?_
          exact sy_next 0 _ g3 (by kernel_rfl) (by kernel_rfl) (ih3 (k + 1) _ g3 ⟨hlt, rfl⟩ (show N - (k + 1) < N - k by omega) ⟨by kernel_rfl, by kernel_rfl, by kernel_rfl, by kernel_rfl, by kernel_rfl, (by kernel_rfl : _ = I (ps (sqb w i) k)).trans (by rw [ps_succ, show sqb w i k = 0 by unfold sqb; rw [hbit], Int.add_zero]), (by kernel_rfl : _ = Value.int .i64 (IntKind.wrap .i64 (Int.ofNat (k + 1)))).trans (by rw [wrap_nat (by omega)]), trivial⟩)
      · intro hkN
        have hkN := no_nat hkN
        obtain rfl : N = k := by omega
        refine ok_go 11 ?_
        refine sy_no 0 (b := IntKind.wrap .i64 (part f i N * Int.ofNat N) != ps (sqb w i) N) (by kernel_rfl) (by
          have hb4 := ps_bound (sqb_le hsq i) N
          have hi4 := hinf i hlt
          have : (N : Int) * ((4096 : Nat) : Int) ≤ 64 * 4096 := Int.mul_le_mul_of_nonneg_right (by omega) (by omega)
          rw [show part f i N * Int.ofNat N = ps (sqb w i) N from hi4, wrap_int (by omega) (by omega)]
          exact bne_self_eq_false _) ?_
        refine ok_go 1 ?_
        exact sy_next 0 _ g3 (by kernel_rfl) (by kernel_rfl) (ih2 (i + 1) _ g3 ⟨hlt, rfl⟩ (show n - (i + 1) < n - i by omega) ⟨by kernel_rfl, by kernel_rfl, (by kernel_rfl : _ = Value.int .i64 (IntKind.wrap .i64 (Int.ofNat (i + 1)))).trans (by rw [wrap_nat (by omega)]), trivial⟩)
    · intro hlt
      rw [shl_nat (by omega)] at hlt
      have hlt : ¬ i < n := fun hc => by
        have := (hpow i).2 hc
        have := no_nat hlt
        omega
      have hin : n = i := by omega
      have A3 := A1.ext hX2
      have rm := U.rm f n b (2 * N) g2 hn
      have re := U.re f n b (2 * N)
      have fr := U.fr f n
      have rm2 := U.rm (trn (up fun a b => a != b) n f) n
      rw [rem_twice] at rm2
      rw [hN] at rm re rm2 fr
      obtain ⟨_, h3, e3, b3, rfl, hb3, X3, A4⟩ := rm A3
      obtain ⟨_, h4, e4, b4, rfl, hb4, X4, A5⟩ := rm2 b3 (2 * N + 1) h3 hn A4
      obtain ⟨_, h5, e5, b5, rfl, hb5, X5, A6⟩ := re h4 hn (A3.ext (X3.trans X4))
      obtain ⟨_, h6, e6, b6, rfl, hb6, X6, A7⟩ := fr b5 (2 * N + 1) h5 hn A6
      refine ok_go 0 ?_
      refine sy_call 0 (by kernel_rfl) e3 ?_
      refine ok_go 2 ?_
      refine sy_call 0 (by kernel_rfl) e4 ?_
      refine ok_go 2 ?_
      refine sy_call 0 (by kernel_rfl) e5 ?_
      refine ok_go 2 ?_
      have A8 := A3.ext (X3.trans (X4.trans (X5.trans X6)))
      refine sy_call 0 (by kernel_rfl) e6 ?_
      refine ok_go 18 ?_
      refine sy_call 0 (by kernel_rfl) (U.bo f N b4 (2 * N + 1) b (2 * N) h6 (by omega) (A5.ext (X5.trans X6)) A8) ?_
      refine ok_go 4 ?_
      refine sy_call 0 (by kernel_rfl) (U.bo f N b6 (2 * N + 1) b (2 * N) h6 (by omega) A7 A8) ?_
      refine ok_go 2 ?_
      refine sy_call 0 (by kernel_rfl) (U.aw h6) ?_
      refine ok_go 1 ?_
      exact sy_done 0 (v := .bool true) (h := h6) (by kernel_rfl) rfl
end Go.Proofs.Ytnfboopfpkaeaaa
/- CubeK: contracts of functions. -/
namespace Go.Proofs.Ytnfboopfpkaeaaa
open Go Go.Eng Nim
set_option maxRecDepth 100000
theorem lower (n k : Nat) (hn : n ≤ 6) : Lower 100000 (k + 20) n where
  hn := hn
  hlf := by decide
  sz := fun h => size_of n hn (k + 10) h
  ck := fun a c h => check_of n a c 100000 (k + 19) h fun h => size_of n hn (k + 9) h
  nb := fun b h => number_of b (k + 10) h
  ns := fun f a c h A => numbers_of f (2 ^ n) 100000 (k + 19) (Nat.one_le_two_pow) (Nat.pow_le_pow_right (n := 2) (by decide) hn) (by decide) (fun b h => number_of b (k + 9) h) a c h A
  tI := by
    intro f s _ v hk hB h1 h2 h3 b c h A
    refine turnI f s n hn Far v hB 100000 (k + 19) (by decide) h ?_ b c A
    intro a b h ha hb
    rcases hk with rfl | rfl | rfl
    · rw [h1 rfl]; exact spec_step 100000 (k + 18) a b h ha hb
    · rw [h2 rfl]; exact real_step 100000 (k + 18) a b h ha hb
    · rw [h3 rfl]; exact from_step 100000 (k + 18) a b h ha hb
  tB := by
    intro v b c h A
    exact turnB 64 _ n hn (fun _ => True) v (fun _ _ _ => trivial) 100000 (k + 19) (by decide) h (fun a b h _ _ => rem_step 100000 (k + 18) a b h) b c A
  cI := fun v b c h A => cloneI_of v (2 ^ n) 100000 (k + 19) b c (Nat.one_le_two_pow) (Nat.pow_le_pow_right (n := 2) (by decide) hn) h A
  cB := fun v b c h A => cloneB_of v (2 ^ n) 100000 (k + 19) b c (Nat.one_le_two_pow) (Nat.pow_le_pow_right (n := 2) (by decide) hn) h A
theorem upper (k : Nat) : Upper 100000 (k + 22) where
  hlf := by decide
  tb := fun x n kind h hn => table_of x n hn kind 100000 (k + 21) (by decide) h
  bt := fun z => by
    obtain ⟨j, hj, e⟩ := bits_of z
    exact ⟨j, hj, fun h => e 100000 (k + 21) h⟩
  sp := fun f n b c h hn A => spectrum_of f n 100000 (k + 21) (lower n (k + 1) hn) (some ⟨b, 0, none⟩) c h (A.rds c)
  inf := fun f n i b c h hn hi A => influence_of f n i 100000 (k + 21) hi (lower n (k + 1) hn) b c h A
  rm := fun f n b c h hn A => remainders_of f n 100000 (k + 21) (lower n (k + 1) hn) b c h A
  re := fun f n b c h hn A => Reals_of f n 100000 (k + 21) (lower n (k + 1) hn) (some ⟨b, 0, none⟩) c h (reals_of f n 100000 (k + 20) (lower n k hn) (some ⟨b, 0, none⟩) c h (A.rds c))
  fr := fun f n b c h hn A => from_of f n 100000 (k + 21) (lower n (k + 1) hn) b c h A
  bo := fun f N a ca b cb h hN A B => bools_of f N 100000 (k + 21) a ca b cb hN (by decide) h A B
  aw := fun h => rfl
theorem said6 (x a0 a1 : Int) (h : Hp) : ∃ H, evInv Try.prog orc 100000 100 (.fn 6 [.int .u64 x, .agg #[I a0, I a1]]) h = some (.bool true, H) := s6 x a0 a1 100000 99 (upper 77) h
end Go.Proofs.Ytnfboopfpkaeaaa
