/- Vectors over the inputs of a few bits, turned bit by bit. -/
import GoSem.Core.View
namespace Go.Proofs.YtnfboopfpkaeaaaGreatDoor.Nim
section
variable {α : Type}
/-- One bit. -/
def stg (s : α → α → α × α) (i : Nat) (l : Nat → α) : Nat → α := fun x => match x.testBit i with
  | true => (s (l (x ^^^ 2 ^ i)) (l x)).2
  | false => (s (l x) (l (x ^^^ 2 ^ i))).1
/-- The bits below n. -/
def trn (s : α → α → α × α) : Nat → (Nat → α) → Nat → α
  | 0, l => l
  | n + 1, l => stg s n (trn s n l)
theorem tb_same (x i : Nat) : (x ^^^ 2 ^ i).testBit i = !x.testBit i := by simp [Nat.testBit_xor]
theorem tb_other {i j : Nat} (h : i ≠ j) (x : Nat) : (x ^^^ 2 ^ i).testBit j = x.testBit j := by simp [Nat.testBit_xor, h]
theorem xx (x i : Nat) : x ^^^ 2 ^ i ^^^ 2 ^ i = x := by rw [Nat.xor_assoc, Nat.xor_self, Nat.xor_zero]
theorem xc (x i j : Nat) : x ^^^ 2 ^ i ^^^ 2 ^ j = x ^^^ 2 ^ j ^^^ 2 ^ i := by rw [Nat.xor_assoc, Nat.xor_comm (2 ^ i), ← Nat.xor_assoc]
theorem stg_t {s : α → α → α × α} {i x : Nat} {l : Nat → α} (h : x.testBit i = true) : stg s i l x = (s (l (x ^^^ 2 ^ i)) (l x)).2 := by unfold stg; rw [h]
theorem stg_f {s : α → α → α × α} {i x : Nat} {l : Nat → α} (h : x.testBit i = false) : stg s i l x = (s (l x) (l (x ^^^ 2 ^ i))).1 := by unfold stg; rw [h]
end

/-- A step that keeps the lower and turns the upper. -/
def up {α : Type} (f : α → α → α) (a b : α) : α × α := (a, f a b)
/-- Two such steps at different bits. -/
theorem up_comm {α : Type} {f g : α → α → α} (hfg : ∀ a b c d : α, g (f a b) (f c d) = f (g a c) (g b d)) {i j : Nat} (hij : i ≠ j) (l : Nat → α) : stg (up f) i (stg (up g) j l) = stg (up g) j (stg (up f) i l) := by
  funext x
  cases hi : x.testBit i <;> cases hj : x.testBit j
  · rw [stg_f hi, stg_f hj]
    simp only [up]
    rw [stg_f hj, stg_f hi]; rfl
  · rw [stg_f hi, stg_t hj]
    simp only [up]
    rw [stg_t hj, stg_f hi, stg_f ((tb_other (Ne.symm hij) x).trans hi)]; rfl
  · rw [stg_t hi, stg_f hj]
    simp only [up]
    rw [stg_f hj, stg_t hi, stg_f ((tb_other hij x).trans hj)]; rfl
  · rw [stg_t hi, stg_t hj]
    simp only [up]
    rw [stg_t hj, stg_t hi, stg_t ((tb_other hij x).trans hj), stg_t ((tb_other (Ne.symm hij) x).trans hi)]
    simp only [up]
    rw [xc x j i]
    exact (hfg _ _ _ _).symm
theorem up_trn {α : Type} {f g : α → α → α} (hfg : ∀ a b c d : α, g (f a b) (f c d) = f (g a c) (g b d)) (n : Nat) : ∀ (k : Nat), k ≤ n → ∀ l : Nat → α, trn (up f) k (stg (up g) n l) = stg (up g) n (trn (up f) k l)
  | 0, _, l => rfl
  | k + 1, hk, l => by
    simp only [trn]
    rw [up_trn hfg n k (by omega) l, up_comm hfg (by omega)]
theorem up_inv {α : Type} {f g : α → α → α} (hfg : ∀ a b c d : α, g (f a b) (f c d) = f (g a c) (g b d)) (hinv : ∀ a b, f a (g a b) = b) : ∀ (n : Nat) (l : Nat → α), trn (up f) n (trn (up g) n l) = l
  | 0, l => rfl
  | n + 1, l => by
    simp only [trn]
    rw [up_trn hfg n n (Nat.le_refl _)]
    have h1 : ∀ m : Nat → α, stg (up f) n (stg (up g) n m) = m := by
      intro m
      funext x
      cases h : x.testBit n
      · rw [stg_f h]; simp only [up]; rw [stg_f h]; rfl
      · rw [stg_t h]
        simp only [up]
        rw [stg_t h, stg_f (by rw [tb_same, h]; rfl)]
        exact hinv _ _
    rw [h1]
    exact up_inv hfg hinv n l
theorem xor_step : ∀ a b c d : Bool, ((a != b) != (c != d)) = ((a != c) != (b != d)) := by decide
theorem rem_twice (n : Nat) (f : Nat → Bool) : trn (up fun a b => a != b) n (trn (up fun a b => a != b) n f) = f := up_inv xor_step (by decide) n f
theorem reals_back (n : Nat) (f : Nat → Int) : trn (up fun a b => b + a) n (trn (up fun a b => b - a) n f) = f := up_inv (fun a b c d => by omega) (fun a b => by omega) n f

/-- Sums over the inputs of n bits. -/
def sm : Nat → (Nat → Int) → Int
  | 0, g => g 0
  | n + 1, g => sm n g + sm n fun x => g (x + 2 ^ n)
theorem sm_congr : ∀ (n : Nat) {g h : Nat → Int}, (∀ x, x < 2 ^ n → g x = h x) → sm n g = sm n h
  | 0, g, h, e => e 0 (by decide)
  | n + 1, g, h, e => by
    simp only [sm]
    rw [sm_congr n fun x hx => e x (by rw [Nat.pow_succ]; omega), sm_congr n (g := fun x => g (x + 2 ^ n)) (h := fun x => h (x + 2 ^ n)) fun x hx => e _ (by rw [Nat.pow_succ]; omega)]
theorem sm_add : ∀ (n : Nat) (g h : Nat → Int), sm n (fun x => g x + h x) = sm n g + sm n h
  | 0, _, _ => rfl
  | n + 1, g, h => by
    simp only [sm]
    rw [sm_add n g h, sm_add n (fun x => g (x + 2 ^ n)) (fun x => h (x + 2 ^ n))]
    omega
theorem sm_mul : ∀ (n : Nat) (c : Int) (g : Nat → Int), sm n (fun x => c * g x) = c * sm n g
  | 0, _, _ => rfl
  | n + 1, c, g => by
    simp only [sm]
    rw [sm_mul n c g, sm_mul n c (fun x => g (x + 2 ^ n)), Int.mul_add]
theorem sm_one : ∀ n, sm n (fun _ => 1) = 2 ^ n
  | 0 => rfl
  | n + 1 => by simp only [sm]; rw [sm_one n, Int.pow_succ]; omega
theorem add_pow {n x : Nat} (h : x < 2 ^ n) : x + 2 ^ n = x ^^^ 2 ^ n := by
  apply Nat.eq_of_testBit_eq
  intro j
  rw [Nat.testBit_xor, Nat.testBit_two_pow, Nat.add_comm]
  rcases Nat.lt_trichotomy j n with hj | hj | hj
  · rw [Nat.testBit_two_pow_add_gt hj]
    simp [show ¬ n = j by omega]
  · subst hj
    rw [Nat.testBit_two_pow_add_eq, Nat.testBit_lt_two_pow h]
    simp
  · rw [Nat.testBit_lt_two_pow (x := 2 ^ n + x) (by
      have : 2 ^ (n + 1) ≤ 2 ^ j := Nat.pow_le_pow_right (by decide) hj
      rw [Nat.pow_succ] at this
      omega), Nat.testBit_lt_two_pow (x := x) (Nat.lt_of_lt_of_le h (Nat.pow_le_pow_right (by decide) (Nat.le_of_lt hj)))]
    simp [show ¬ n = j by omega]
theorem flip_lt {n i x : Nat} (hi : i < n) (hx : x < 2 ^ n) : x ^^^ 2 ^ i < 2 ^ n := Nat.xor_lt_two_pow hx (Nat.pow_lt_pow_right (by decide) hi)
theorem sm_flip : ∀ (n i : Nat), i < n → ∀ g : Nat → Int, sm n (fun x => g (x ^^^ 2 ^ i)) = sm n g
  | 0, i, h, _ => by omega
  | n + 1, i, h, g => by
    simp only [sm]
    by_cases hin : i = n
    · subst hin
      rw [sm_congr i (g := fun x => g (x ^^^ 2 ^ i)) (h := fun x => g (x + 2 ^ i)) fun x hx => by rw [add_pow hx],
        sm_congr i (g := fun x => g ((x + 2 ^ i) ^^^ 2 ^ i)) (h := g) fun x hx => by rw [add_pow hx, xx]]
      omega
    · rw [sm_flip n i (by omega) g, sm_congr n (g := fun x => g ((x + 2 ^ n) ^^^ 2 ^ i)) (h := fun x => (fun y => g (y + 2 ^ n)) (x ^^^ 2 ^ i)) fun x hx => by
        show g _ = g _
        rw [add_pow hx, xc, ← add_pow (flip_lt (by omega) hx)], sm_flip n i (by omega) (fun y => g (y + 2 ^ n))]
/-- What pairs of inputs come to. -/
theorem sm_pair {n i : Nat} (hi : i < n) {g h : Nat → Int} (c : Int) (e : ∀ x, g x + g (x ^^^ 2 ^ i) = c * (h x + h (x ^^^ 2 ^ i))) : sm n g = c * sm n h := by
  have h1 : sm n (fun x => g x + g (x ^^^ 2 ^ i)) = sm n g + sm n g := by rw [sm_add, sm_flip n i hi g]
  have h2 : sm n (fun x => c * (h x + h (x ^^^ 2 ^ i))) = c * (sm n h + sm n h) := by rw [sm_mul, sm_add, sm_flip n i hi h]
  rw [show (fun x => g x + g (x ^^^ 2 ^ i)) = fun x => c * (h x + h (x ^^^ 2 ^ i)) from funext e, h2, Int.mul_add] at h1
  omega
def wsh (a b : Int) : Int × Int := (a + b, a - b)
theorem sq2 (a b : Int) : (a + b) * (a + b) + (a - b) * (a - b) = 2 * (a * a + b * b) := by
  rw [Int.add_mul, Int.sub_mul, Int.mul_add, Int.mul_add, Int.mul_sub, Int.mul_sub, Int.mul_comm b a]
  omega
theorem wsh_pair (i : Nat) (l : Nat → Int) (x : Nat) : stg wsh i l x * stg wsh i l x + stg wsh i l (x ^^^ 2 ^ i) * stg wsh i l (x ^^^ 2 ^ i) = 2 * (l x * l x + l (x ^^^ 2 ^ i) * l (x ^^^ 2 ^ i)) := by
  cases h : x.testBit i
  · rw [stg_f h, stg_t (x := x ^^^ 2 ^ i) (by rw [tb_same, h]; rfl), xx]
    exact sq2 _ _
  · rw [stg_t h, stg_f (x := x ^^^ 2 ^ i) (by rw [tb_same, h]; rfl), xx]
    have := sq2 (l (x ^^^ 2 ^ i)) (l x)
    simp only [wsh]
    omega
theorem energy {n i : Nat} (hi : i < n) (l : Nat → Int) : sm n (fun x => stg wsh i l x * stg wsh i l x) = 2 * sm n (fun x => l x * l x) := sm_pair hi 2 (wsh_pair i l)
theorem energy_trn (n : Nat) (l : Nat → Int) : ∀ k, k ≤ n → sm n (fun x => trn wsh k l x * trn wsh k l x) = 2 ^ k * sm n (fun x => l x * l x)
  | 0, _ => by simp [trn]
  | k + 1, hk => by
    simp only [trn]
    rw [energy (by omega), energy_trn n l k (by omega), Int.pow_succ, ← Int.mul_assoc, Int.mul_comm 2]
/-- The squares at the inputs that have a bit. -/
def rB (n i : Nat) (l : Nat → Int) : Int := sm n fun x => match x.testBit i with | true => l x * l x | false => 0
/-- The squares of the differences over a bit. -/
def qB (n i : Nat) (l : Nat → Int) : Int := sm n fun x => (l x - l (x ^^^ 2 ^ i)) * (l x - l (x ^^^ 2 ^ i))
theorem rB_step {n i j : Nat} (hij : i ≠ j) (hj : j < n) (l : Nat → Int) : rB n i (stg wsh j l) = 2 * rB n i l := by
  refine sm_pair hj 2 fun x => ?_
  rw [tb_other (Ne.symm hij)]
  cases x.testBit i
  · rfl
  · exact wsh_pair j l x
theorem qB_step {n i j : Nat} (hij : i ≠ j) (hj : j < n) (l : Nat → Int) : qB n i (stg wsh j l) = 2 * qB n i l := by
  have key : (fun x => stg wsh j l x - stg wsh j l (x ^^^ 2 ^ i)) = stg wsh j (fun x => l x - l (x ^^^ 2 ^ i)) := by
    funext x
    cases h : x.testBit j
    · rw [stg_f h, stg_f (x := x ^^^ 2 ^ i) ((tb_other hij x).trans h), stg_f h, xc x i j]
      simp only [wsh]
      omega
    · rw [stg_t h, stg_t (x := x ^^^ 2 ^ i) ((tb_other hij x).trans h), stg_t h, xc x i j]
      simp only [wsh]
      omega
  unfold qB
  have k1 : (fun x => (stg wsh j l x - stg wsh j l (x ^^^ 2 ^ i)) * (stg wsh j l x - stg wsh j l (x ^^^ 2 ^ i))) = fun x => stg wsh j (fun x => l x - l (x ^^^ 2 ^ i)) x * stg wsh j (fun x => l x - l (x ^^^ 2 ^ i)) x := by
    funext x
    have e : stg wsh j l x - stg wsh j l (x ^^^ 2 ^ i) = stg wsh j (fun x => l x - l (x ^^^ 2 ^ i)) x := congrFun key x
    rw [e]
  rw [k1]
  exact energy hj fun x => l x - l (x ^^^ 2 ^ i)
theorem rq {n i : Nat} (hi : i < n) (l : Nat → Int) : 2 * rB n i (stg wsh i l) = qB n i l := by
  unfold rB qB
  have h1 : sm n (fun x => (match x.testBit i with | true => stg wsh i l x * stg wsh i l x | false => 0)) + sm n (fun x => (match x.testBit i with | true => stg wsh i l x * stg wsh i l x | false => 0)) = sm n (fun x => (l x - l (x ^^^ 2 ^ i)) * (l x - l (x ^^^ 2 ^ i))) := by
    conv => lhs; rhs; rw [← sm_flip n i hi]
    rw [← sm_add]
    congr 1
    funext x
    simp only [tb_same]
    cases h : x.testBit i
    · simp only [Bool.not_false]
      rw [stg_t (x := x ^^^ 2 ^ i) (by rw [tb_same, h]; rfl), xx]
      simp only [wsh]
      omega
    · simp only [Bool.not_true]
      rw [stg_t h]
      simp only [wsh]
      have : (l (x ^^^ 2 ^ i) - l x) = -(l x - l (x ^^^ 2 ^ i)) := by omega
      rw [this, Int.neg_mul_neg]
      omega
  omega
theorem qB_trn {n i : Nat} (hi : i < n) (l : Nat → Int) : ∀ k, k ≤ i → qB n i (trn wsh k l) = 2 ^ k * qB n i l
  | 0, _ => by simp [trn]
  | k + 1, hk => by
    simp only [trn]
    rw [qB_step (by omega) (by omega), qB_trn hi l k (by omega), Int.pow_succ, ← Int.mul_assoc, Int.mul_comm 2]
theorem rB_trn {n i : Nat} (hi : i < n) (l : Nat → Int) : ∀ k, i + 1 + k ≤ n → 2 * rB n i (trn wsh (i + 1 + k) l) = 2 ^ (i + k) * qB n i l
  | 0, _ => by
    show 2 * rB n i (stg wsh i (trn wsh i l)) = _
    rw [rq hi, qB_trn hi l i (Nat.le_refl _)]
    rfl
  | k + 1, hk => by
    show 2 * rB n i (stg wsh (i + 1 + k) (trn wsh (i + 1 + k) l)) = _
    rw [rB_step (by omega) (by omega), ← Int.mul_assoc, Int.mul_comm 2 2, Int.mul_assoc, rB_trn hi l k (by omega), ← Int.mul_assoc, show i + (k + 1) = i + k + 1 from rfl, Int.pow_succ, Int.mul_comm 2]
/-- A function's values as signs. -/
def sgn (f : Nat → Bool) (x : Nat) : Int := if f x = true then -1 else 1
def cnt (n i : Nat) (f : Nat → Bool) : Int := sm n fun x => if f (x ^^^ 2 ^ i) ≠ f x then 1 else 0
theorem parseval (n : Nat) (f : Nat → Bool) : sm n (fun x => trn wsh n (sgn f) x * trn wsh n (sgn f) x) = 2 ^ n * 2 ^ n := by
  rw [energy_trn n _ n (Nat.le_refl _), ← sm_one n]
  congr 1
  refine congrArg (sm n) (funext fun x => ?_)
  unfold sgn
  split <;> rfl
theorem influence {n i : Nat} (hi : i < n) (f : Nat → Bool) : cnt n i f * 2 ^ n = rB n i (trn wsh n (sgn f)) := by
  have h1 := rB_trn hi (sgn f) (n - (i + 1)) (by omega)
  have h2 : qB n i (sgn f) = 4 * cnt n i f := by
    unfold qB cnt
    rw [← sm_mul]
    refine congrArg (sm n) (funext fun x => ?_)
    unfold sgn
    cases f x <;> cases f (x ^^^ 2 ^ i) <;> rfl
  rw [h2, show i + 1 + (n - (i + 1)) = n by omega, show i + (n - (i + 1)) = n - 1 by omega] at h1
  obtain ⟨m, rfl⟩ : ∃ m, n = m + 1 := ⟨n - 1, by omega⟩
  rw [Nat.add_sub_cancel] at h1
  rw [Int.pow_succ]
  generalize cnt (m + 1) i f = c at *
  generalize (2 : Int) ^ m = p at *
  have e1 : p * (4 * c) = 4 * (p * c) := Int.mul_left_comm p 4 c
  have e2 : c * (p * 2) = 2 * (p * c) := by rw [← Int.mul_assoc, Int.mul_comm c p, Int.mul_comm]
  omega
/-- How large the numbers become. -/
theorem trn_le {s : Int → Int → Int × Int} (hs : ∀ a b B : Int, -B ≤ a → a ≤ B → -B ≤ b → b ≤ B → (-(2 * B) ≤ (s a b).1 ∧ (s a b).1 ≤ 2 * B) ∧ (-(2 * B) ≤ (s a b).2 ∧ (s a b).2 ≤ 2 * B)) {l : Nat → Int} {B : Int} (hl : ∀ x, -B ≤ l x ∧ l x ≤ B) : ∀ k x, -(2 ^ k * B) ≤ trn s k l x ∧ trn s k l x ≤ 2 ^ k * B
  | 0, x => by simpa [trn] using hl x
  | k + 1, x => by
    have ih := trn_le hs hl k
    have e : (2 : Int) ^ (k + 1) * B = 2 * (2 ^ k * B) := by rw [Int.pow_succ, Int.mul_comm ((2 : Int) ^ k), Int.mul_assoc]
    rw [e]
    simp only [trn]
    cases h : x.testBit k
    · rw [stg_f h]
      exact (hs _ _ _ (ih x).1 (ih x).2 (ih _).1 (ih _).2).1
    · rw [stg_t h]
      exact (hs _ _ _ (ih _).1 (ih _).2 (ih x).1 (ih x).2).2
end Go.Proofs.YtnfboopfpkaeaaaGreatDoor.Nim
namespace Go.Proofs.YtnfboopfpkaeaaaGreatDoor.Nim

abbrev andI (x y : Int) : Int := IntKind.wrap .i64 ((BitVec.ofInt 64 x &&& BitVec.ofInt 64 y).toNat : Int)
abbrev orI (x y : Int) : Int := IntKind.wrap .i64 ((BitVec.ofInt 64 x ||| BitVec.ofInt 64 y).toNat : Int)
abbrev xorI (x y : Int) : Int := IntKind.wrap .i64 ((BitVec.ofInt 64 x ^^^ BitVec.ofInt 64 y).toNat : Int)
abbrev shlI (x : Int) (n : Nat) : Int := IntKind.wrap .i64 (x * 2 ^ n)
abbrev shrI (x : Int) (n : Nat) : Int := x.fdiv (2 ^ n)

theorem wrap_nat {n : Nat} (h : n < 2 ^ 63) : IntKind.wrap .i64 (Int.ofNat n) = Int.ofNat n := by
  unfold IntKind.wrap
  have h1 : (Int.ofNat n) % (2 ^ IntKind.i64.bits : Int) = Int.ofNat n := Int.emod_eq_of_lt (by simp) (by
    show (n : Int) < 2 ^ 64
    have : (n : Int) < ((2 ^ 63 : Nat) : Int) := by exact_mod_cast h
    simp at this
    omega)
  simp only [h1]
  have h2 : ¬ ((Int.ofNat n : Int) ≥ (2 ^ (IntKind.i64.bits - 1) : Int)) := by
    show ¬ ((n : Int) ≥ 2 ^ 63)
    have : (n : Int) < ((2 ^ 63 : Nat) : Int) := by exact_mod_cast h
    simp at this
    omega
  have h3 : decide ((Int.ofNat n : Int) ≥ (2 ^ (IntKind.i64.bits - 1) : Int)) = false := decide_eq_false h2
  simp only [h3, Bool.and_false]
  rfl

theorem ofInt_nat (n : Nat) : BitVec.ofInt 64 (Int.ofNat n) = BitVec.ofNat 64 n := by
  simp [BitVec.ofInt_natCast]

theorem and_nat {a b : Nat} (ha : a < 2 ^ 63) : andI (Int.ofNat a) (Int.ofNat b) = Int.ofNat (a &&& b) := by
  unfold andI
  rw [ofInt_nat, ofInt_nat, BitVec.toNat_and, BitVec.toNat_ofNat, BitVec.toNat_ofNat]
  have h1 : a % 2 ^ 64 = a := Nat.mod_eq_of_lt (by omega)
  have h2 : a &&& b % 2 ^ 64 = a &&& b := by
    apply Nat.eq_of_testBit_eq
    intro i
    simp only [Nat.testBit_and, Nat.testBit_mod_two_pow]
    by_cases hi : i < 64
    · simp [hi]
    · have : a.testBit i = false := Nat.testBit_lt_two_pow (Nat.lt_of_lt_of_le (show a < 2 ^ 64 by omega) (Nat.pow_le_pow_right (by omega) (by omega)))
      simp [this]
  rw [h1, h2]
  exact wrap_nat (Nat.lt_of_le_of_lt Nat.and_le_left ha)

theorem xor_nat {a b : Nat} (ha : a < 2 ^ 63) (hb : b < 2 ^ 63) : xorI (Int.ofNat a) (Int.ofNat b) = Int.ofNat (a ^^^ b) := by
  unfold xorI
  rw [ofInt_nat, ofInt_nat, BitVec.toNat_xor, BitVec.toNat_ofNat, BitVec.toNat_ofNat]
  rw [Nat.mod_eq_of_lt (show a < 2 ^ 64 by omega), Nat.mod_eq_of_lt (show b < 2 ^ 64 by omega)]
  exact wrap_nat (Nat.xor_lt_two_pow ha hb)

theorem shr_nat (a n : Nat) : shrI (Int.ofNat a) n = Int.ofNat (a / 2 ^ n) := by
  show Int.fdiv (a : Int) (2 ^ n) = _
  have : (2 : Int) ^ n = ((2 ^ n : Nat) : Int) := by simp
  rw [this, Int.fdiv_eq_ediv_of_nonneg _ (Int.natCast_nonneg _)]
  exact (Int.natCast_ediv a (2 ^ n)).symm

theorem shl_nat {a n : Nat} (h : a * 2 ^ n < 2 ^ 63) : shlI (Int.ofNat a) n = Int.ofNat (a * 2 ^ n) := by
  unfold shlI
  have : (Int.ofNat a) * (2 : Int) ^ n = Int.ofNat (a * 2 ^ n) := by simp
  rw [this, wrap_nat h]

theorem or_nat {a b : Nat} (ha : a < 2 ^ 63) (hb : b < 2 ^ 63) : orI (Int.ofNat a) (Int.ofNat b) = Int.ofNat (a ||| b) := by
  unfold orI
  rw [ofInt_nat, ofInt_nat, BitVec.toNat_or, BitVec.toNat_ofNat, BitVec.toNat_ofNat]
  rw [Nat.mod_eq_of_lt (show a < 2 ^ 64 by omega), Nat.mod_eq_of_lt (show b < 2 ^ 64 by omega)]
  exact wrap_nat (Nat.or_lt_two_pow ha hb)
theorem wrap_int {x : Int} (h0 : -(2 ^ 63) ≤ x) (h1 : x < 2 ^ 63) : IntKind.wrap .i64 x = x := by
  cases x with
  | ofNat n => exact wrap_nat (by simp at h1; omega)
  | negSucc n =>
    have hn : n < 2 ^ 63 := by omega
    unfold IntKind.wrap
    have e1 : (Int.negSucc n) % (2 ^ IntKind.i64.bits : Int) = Int.ofNat (2 ^ 64 - 1 - n) := by
      show (Int.negSucc n) % (2 ^ 64 : Int) = _
      simp only [Int.ofNat_eq_natCast]
      omega
    simp only [e1]
    have h3 : decide ((Int.ofNat (2 ^ 64 - 1 - n) : Int) ≥ (2 ^ (IntKind.i64.bits - 1) : Int)) = true := by
      refine decide_eq_true ?_
      show ((2 ^ 64 - 1 - n : Nat) : Int) ≥ 2 ^ 63
      omega
    simp only [h3, Bool.and_true, show IntKind.i64.signed = true from rfl, if_true]
    show ((2 ^ 64 - 1 - n : Nat) : Int) - 2 ^ 64 = _
    omega
/-- One bit of a number. -/
theorem and_bit (x i : Nat) : (x &&& 2 ^ i = 0) ↔ x.testBit i = false := by
  constructor
  · intro h
    have : (x &&& 2 ^ i).testBit i = x.testBit i := by simp [Nat.testBit_and, Nat.testBit_two_pow]
    rw [← this, h, Nat.zero_testBit]
  · intro h
    apply Nat.eq_of_testBit_eq
    intro j
    rw [Nat.testBit_and, Nat.testBit_two_pow, Nat.zero_testBit]
    by_cases hij : i = j
    · subst hij; simp [h]
    · simp [hij]
theorem or_bit {x i : Nat} (h : x.testBit i = false) : x ||| 2 ^ i = x ^^^ 2 ^ i := by
  apply Nat.eq_of_testBit_eq
  intro j
  rw [Nat.testBit_or, Nat.testBit_xor, Nat.testBit_two_pow]
  by_cases hij : i = j
  · subst hij; simp [h]
  · simp [hij]
end Go.Proofs.YtnfboopfpkaeaaaGreatDoor.Nim
namespace Go.Proofs.YtnfboopfpkaeaaaGreatDoor.Nim
section
variable {α : Type} (op : α → α → α) (e : α)
/-- What an operation makes of the items below a number that a condition picks. -/
def fs (p : Nat → Bool) (g : Nat → α) : Nat → α
  | 0 => e
  | k + 1 => match p k with | true => op (fs p g k) (g k) | false => fs p g k
theorem low_q {n : Nat} (q r : Nat) (hr : r < 2 ^ n) : ((2 * q) * 2 ^ n + r).testBit n = false := by
  rw [Nat.testBit_eq_decide_div_mod_eq, Nat.mul_comm, Nat.mul_add_div (Nat.two_pow_pos n), Nat.div_eq_of_lt hr]
  simp
theorem high_q {n : Nat} (q r : Nat) (hr : r < 2 ^ n) : (2 * q) * 2 ^ n + r + 2 ^ n = ((2 * q) * 2 ^ n + r) ^^^ 2 ^ n := by
  have e1 : (2 * q + 1) * 2 ^ n = (2 * q) * 2 ^ n + 2 ^ n := by rw [Nat.add_mul, Nat.one_mul]
  apply Nat.eq_of_testBit_eq
  intro i
  rw [Nat.testBit_xor, Nat.testBit_two_pow, show (2 * q) * 2 ^ n + r + 2 ^ n = 2 ^ n * (2 * q + 1) + r by rw [Nat.mul_comm (2 ^ n), e1]; omega, Nat.mul_comm (2 * q), Nat.testBit_two_pow_mul_add _ hr, Nat.testBit_two_pow_mul_add _ hr]
  by_cases hi : i < n
  · have : n ≠ i := by omega
    simp [hi, this]
  · by_cases hn : n = i
    · subst hn; simp
    · have h1 : ¬ i < n := hi
      simp only [h1, if_false, hn, decide_false, Bool.xor_false]
      obtain ⟨d, hd⟩ : ∃ d, i - n = d + 1 := ⟨i - n - 1, by omega⟩
      rw [hd, Nat.testBit_succ, Nat.testBit_succ]
      congr 1
      omega
/-- Whether a mask lies within a mask. -/
def sub (k m : Nat) : Bool := k &&& m == k
theorem sub_self (m : Nat) : sub m m = true := by simp [sub]
theorem sub_le {k m : Nat} (h : m < k) : sub k m = false := by
  cases e : sub k m with
  | false => rfl
  | true =>
    have : k &&& m = k := by simpa [sub] using e
    have := Nat.and_le_right (n := k) (m := m)
    omega
theorem bit_lt {n x : Nat} (h : x < 2 ^ n) : x.testBit n = false := Nat.testBit_lt_two_pow h
theorem and_lh {n a b : Nat} (ha : a < 2 ^ n) (hb : b < 2 ^ n) : a &&& (b + 2 ^ n) = a &&& b := by
  rw [add_pow hb]
  apply Nat.eq_of_testBit_eq
  intro i
  rw [Nat.testBit_and, Nat.testBit_and, Nat.testBit_xor, Nat.testBit_two_pow]
  by_cases hi : n = i
  · subst hi; rw [bit_lt ha]; rfl
  · simp [hi]
theorem and_hl {n a b : Nat} (ha : a < 2 ^ n) (hb : b < 2 ^ n) : (a + 2 ^ n) &&& b = a &&& b := by rw [Nat.and_comm, and_lh hb ha, Nat.and_comm]
theorem and_hh {n a b : Nat} (ha : a < 2 ^ n) (hb : b < 2 ^ n) : (a + 2 ^ n) &&& (b + 2 ^ n) = (a &&& b) + 2 ^ n := by
  have hab : a &&& b < 2 ^ n := Nat.lt_of_le_of_lt Nat.and_le_left ha
  rw [add_pow hb, add_pow ha, add_pow hab]
  apply Nat.eq_of_testBit_eq
  intro i
  simp only [Nat.testBit_and, Nat.testBit_xor, Nat.testBit_two_pow]
  by_cases hi : n = i
  · subst hi; rw [bit_lt ha, bit_lt hb]; simp
  · simp [hi]
theorem sub_lh {n a b : Nat} (ha : a < 2 ^ n) (hb : b < 2 ^ n) : sub a (b + 2 ^ n) = sub a b := by unfold sub; rw [and_lh ha hb]
theorem sub_hl {n a b : Nat} (hb : b < 2 ^ n) : sub (a + 2 ^ n) b = false := sub_le (by omega)
theorem sub_hh {n a b : Nat} (ha : a < 2 ^ n) (hb : b < 2 ^ n) : sub (a + 2 ^ n) (b + 2 ^ n) = sub a b := by
  unfold sub
  rw [and_hh ha hb, Bool.eq_iff_iff]
  simp
theorem fs_congr {p p' : Nat → Bool} {g g' : Nat → α} : ∀ {k : Nat}, (∀ x, x < k → p x = p' x) → (∀ x, x < k → g x = g' x) → fs op e p g k = fs op e p' g' k
  | 0, _, _ => rfl
  | k + 1, h, h2 => by
    unfold fs
    rw [h k (by omega), h2 k (by omega), fs_congr (fun x hx => h x (by omega)) fun x hx => h2 x (by omega)]
theorem fs_no {p : Nat → Bool} {g : Nat → α} {m : Nat} (h : ∀ x, m ≤ x → p x = false) : ∀ k, m ≤ k → fs op e p g k = fs op e p g m := by
  intro k hk
  obtain ⟨d, rfl⟩ : ∃ d, k = m + d := ⟨k - m, by omega⟩
  clear hk
  induction d with
  | zero => rfl
  | succ d ih =>
    rw [← Nat.add_assoc]
    show (match p (m + d) with | true => op (fs op e p g (m + d)) (g (m + d)) | false => fs op e p g (m + d)) = _
    rw [h (m + d) (by omega)]
    exact ih
/-- The item at the mask itself is the last that counts. -/
theorem fs_cut {g : Nat → α} {m N : Nat} (h : m < N) : fs op e (fun k => sub k m) g N = op (fs op e (fun k => sub k m) g m) (g m) := by
  rw [fs_no op e (m := m + 1) (fun x hx => sub_le (by omega)) N (by omega)]
  show (match sub m m with | true => _ | false => _) = _
  rw [sub_self]
variable (ha : ∀ a b c : α, op (op a b) c = op a (op b c)) (hid : ∀ a, op a e = a)
include ha hid
theorem fs_add (p : Nat → Bool) (g : Nat → α) (a : Nat) : ∀ k, fs op e p g (a + k) = op (fs op e p g a) (fs op e (fun x => p (x + a)) (fun x => g (x + a)) k)
  | 0 => (hid _).symm
  | k + 1 => by
    rw [← Nat.add_assoc]
    show (match p (a + k) with | true => op (fs op e p g (a + k)) (g (a + k)) | false => fs op e p g (a + k)) = op _ (match p (k + a) with | true => op (fs op e _ _ k) (g (k + a)) | false => fs op e _ _ k)
    rw [fs_add p g a k, Nat.add_comm k a]
    cases p (a + k)
    · rfl
    · exact ha _ _ _
variable (hc : ∀ a b, op a b = op b a)
include hc
theorem zeta (g : Nat → α) : ∀ n q r, r < 2 ^ n → trn (up fun a b => op b a) n g (q * 2 ^ n + r) = fs op e (fun j => sub j r) (fun j => g (q * 2 ^ n + j)) (2 ^ n)
  | 0, q, r, h => by
    obtain rfl : r = 0 := by simpa using h
    show g (q * 1 + 0) = op e (g (q * 1 + 0))
    rw [hc, hid]
  | n + 1, q, r, h => by
    have hP : 2 ^ (n + 1) = 2 ^ n + 2 ^ n := by rw [Nat.pow_succ]; omega
    have e0 : q * 2 ^ (n + 1) = (2 * q) * 2 ^ n := by rw [Nat.pow_succ]; ac_rfl
    have e1 : (2 * q + 1) * 2 ^ n = (2 * q) * 2 ^ n + 2 ^ n := by rw [Nat.add_mul, Nat.one_mul]
    have bt := low_q (n := n) q
    have bx := high_q (n := n) q
    have ih := zeta g n
    show stg (up fun a b => op b a) n (trn (up fun a b => op b a) n g) (q * 2 ^ (n + 1) + r) = _
    by_cases hr : r < 2 ^ n
    · rw [e0, stg_f (bt r hr)]
      show trn (up fun a b => op b a) n g ((2 * q) * 2 ^ n + r) = _
      rw [ih (2 * q) r hr, hP, fs_no op e (m := 2 ^ n) (fun x hx => sub_le (by omega)) (2 ^ n + 2 ^ n) (by omega)]
    · obtain ⟨s, rfl⟩ : ∃ s, r = s + 2 ^ n := ⟨r - 2 ^ n, by omega⟩
      have hs : s < 2 ^ n := by omega
      have hb := bt s hs
      have hx := bx s hs
      rw [e0, show (2 * q) * 2 ^ n + (s + 2 ^ n) = ((2 * q) * 2 ^ n + s) ^^^ 2 ^ n by rw [← hx]; omega, stg_t (by rw [tb_same, hb]; rfl), xx]
      show op (trn (up fun a b => op b a) n g (((2 * q) * 2 ^ n + s) ^^^ 2 ^ n)) (trn (up fun a b => op b a) n g ((2 * q) * 2 ^ n + s)) = _
      rw [← hx, show (2 * q) * 2 ^ n + s + 2 ^ n = (2 * q + 1) * 2 ^ n + s by rw [e1]; omega, ih (2 * q) s hs, ih (2 * q + 1) s hs, hP, fs_add op e ha hid, hc]
      congr 1
      · exact fs_congr op e (fun x hx => (sub_lh hx hs).symm) fun x _ => rfl
      · exact fs_congr op e (fun x hx => (sub_hh hx hs).symm) fun x _ => by rw [e1]; congr 1; omega
end
/-- Sums of ints. -/
abbrev fI (p : Nat → Bool) (g : Nat → Int) (k : Nat) : Int := fs (fun a b => a + b) 0 p g k
abbrev fX (p : Nat → Bool) (g : Nat → Bool) (k : Nat) : Bool := fs (fun a b => b != a) false p g k
theorem fI_succ (p : Nat → Bool) (g : Nat → Int) (k : Nat) : fI p g (k + 1) = fI p g k + (if p k = true then g k else 0) := by
  show (match p k with | true => fI p g k + g k | false => fI p g k) = _
  cases p k <;> simp
theorem fX_succ (p : Nat → Bool) (g : Nat → Bool) (k : Nat) : fX p g (k + 1) = (fX p g k != (p k && g k)) := by
  show (match p k with | true => (g k != fX p g k) | false => fX p g k) = _
  cases p k <;> cases g k <;> cases fX p g k <;> rfl
theorem zetaI (g : Nat → Int) {n m : Nat} (h : m < 2 ^ n) : trn (up fun a b : Int => b + a) n g m = fI (fun j => sub j m) g (2 ^ n) := by
  have e := zeta (fun a b : Int => a + b) 0 Int.add_assoc Int.add_zero Int.add_comm g n 0 m h
  rw [Nat.zero_mul, Nat.zero_add] at e
  rw [e]
  exact fs_congr _ _ (fun _ _ => rfl) fun x _ => by rw [Nat.zero_add]
theorem zetaX (g : Nat → Bool) {n m : Nat} (h : m < 2 ^ n) : trn (up fun a b : Bool => a != b) n g m = fX (fun j => sub j m) g (2 ^ n) := by
  have e := zeta (fun a b : Bool => b != a) false (by decide) (by decide) (by decide) g n 0 m h
  rw [Nat.zero_mul, Nat.zero_add] at e
  rw [e]
  exact fs_congr _ _ (fun _ _ => rfl) fun x _ => by rw [Nat.zero_add]
/-- The value at a mask, by the real form. -/
theorem value_I (g : Nat → Int) {n m : Nat} (h : m < 2 ^ n) : trn (up fun a b : Int => b + a) n g m = fI (fun j => sub j m) g (m + 1) := by
  rw [zetaI g h, fI, fI, fs_cut _ _ h]
  exact (fs_cut (fun a b : Int => a + b) 0 (g := g) (Nat.lt_succ_self m)).symm
/-- The real form, by the numbers at the masks within. -/
theorem real_I (v : Nat → Int) {n m : Nat} (h : m < 2 ^ n) : trn (up fun a b : Int => b - a) n v m = v m - fI (fun j => sub j m) (trn (up fun a b : Int => b - a) n v) m := by
  have e := zetaI (trn (up fun a b : Int => b - a) n v) h
  rw [reals_back, fI, fs_cut _ _ h] at e
  rw [e]
  show _ = fI (fun j => sub j m) (trn (up fun a b : Int => b - a) n v) m + trn (up fun a b : Int => b - a) n v m - fI _ _ m
  omega
theorem rem_X (v : Nat → Bool) {n m : Nat} (h : m < 2 ^ n) : trn (up fun a b => a != b) n v m = (v m != fX (fun j => sub j m) (trn (up fun a b => a != b) n v) m) := by
  have e := zetaX (trn (up fun a b => a != b) n v) h
  rw [rem_twice, fX, fs_cut _ _ h] at e
  rw [e]
  show _ = ((trn (up fun a b => a != b) n v m != fX (fun j => sub j m) (trn (up fun a b => a != b) n v) m) != fX (fun j => sub j m) (trn (up fun a b => a != b) n v) m)
  cases trn (up fun a b => a != b) n v m <;> cases fX (fun j => sub j m) (trn (up fun a b => a != b) n v) m <;> rfl
/-- The other way: a list of numbers is the real form of its sums. -/
theorem reals_forth (n : Nat) (f : Nat → Int) : trn (up fun a b => b - a) n (trn (up fun a b => b + a) n f) = f := up_inv (fun a b c d => by omega) (fun a b => by omega) n f
theorem fI_bound {g : Nat → Int} {B : Nat} {p : Nat → Bool} : ∀ k, (∀ x, x < k → -(B : Int) ≤ g x ∧ g x ≤ B) → -((k * B : Nat) : Int) ≤ fI p g k ∧ fI p g k ≤ ((k * B : Nat) : Int)
  | 0, _ => by simp [fI, fs]
  | k + 1, h => by
    rw [fI_succ]
    have := fI_bound (p := p) k (fun x hx => h x (by omega))
    have := h k (by omega)
    rw [Nat.add_mul, Nat.one_mul]
    split <;> omega

/-- The number of bits of a mask of seven bits. -/
def pop (z : Nat) : Nat := z % 2 + z / 2 % 2 + z / 4 % 2 + z / 8 % 2 + z / 16 % 2 + z / 32 % 2 + z / 64 % 2
def ch (z : Nat) : Int := if pop z % 2 = 1 then -1 else 1
theorem ch_all : ((List.range 6).all fun n => (List.range (2 ^ n)).all fun z => ch (z + 2 ^ n) == -ch z) = true := by decide +kernel
theorem ch_hi {n z : Nat} (hn : n < 6) (hz : z < 2 ^ n) : ch (z + 2 ^ n) = -ch z := by
  have h := List.all_eq_true.1 ch_all n (List.mem_range.2 hn)
  simpa using List.all_eq_true.1 h z (List.mem_range.2 hz)
theorem fI_sub (g g' : Nat → Int) : ∀ k, fI (fun _ => true) (fun x => g x - g' x) k = fI (fun _ => true) g k - fI (fun _ => true) g' k
  | 0 => rfl
  | k + 1 => by
    have := fI_sub g g' k
    rw [fI_succ, fI_succ, fI_succ, this]
    simp
    omega
theorem fI_neg (g : Nat → Int) : ∀ k, fI (fun _ => true) (fun x => - g x) k = - fI (fun _ => true) g k
  | 0 => rfl
  | k + 1 => by
    have := fI_neg g k
    rw [fI_succ, fI_succ, this]
    simp
    omega
theorem walsh (l : Nat → Int) : ∀ n q r, n ≤ 6 → r < 2 ^ n → trn wsh n l (q * 2 ^ n + r) = fI (fun _ => true) (fun j => ch (r &&& j) * l (q * 2 ^ n + j)) (2 ^ n)
  | 0, q, r, _, h => by
    obtain rfl : r = 0 := by simpa using h
    show l (q * 1 + 0) = 0 + 1 * l (q * 1 + 0)
    omega
  | n + 1, q, r, hn, h => by
    have hP : 2 ^ (n + 1) = 2 ^ n + 2 ^ n := by rw [Nat.pow_succ]; omega
    have e0 : q * 2 ^ (n + 1) = (2 * q) * 2 ^ n := by rw [Nat.pow_succ]; ac_rfl
    have e1 : (2 * q + 1) * 2 ^ n = (2 * q) * 2 ^ n + 2 ^ n := by rw [Nat.add_mul, Nat.one_mul]
    have bt := low_q (n := n) q
    have bx := high_q (n := n) q
    have ih := fun q r => walsh l n q r (by omega)
    have add := fun g k => fs_add (fun a b : Int => a + b) 0 Int.add_assoc Int.add_zero (fun _ => true) g (2 ^ n) k
    show stg wsh n (trn wsh n l) (q * 2 ^ (n + 1) + r) = _
    by_cases hr : r < 2 ^ n
    · rw [e0, stg_f (bt r hr), ← bx r hr, show (2 * q) * 2 ^ n + r + 2 ^ n = (2 * q + 1) * 2 ^ n + r by rw [e1]; omega]
      show trn wsh n l ((2 * q) * 2 ^ n + r) + trn wsh n l ((2 * q + 1) * 2 ^ n + r) = _
      rw [ih (2 * q) r hr, ih (2 * q + 1) r hr, hP, fI, fI, fI, add]
      congr 1
      exact fs_congr _ _ (fun _ _ => rfl) fun x hx => by rw [and_lh hr hx, e1]; congr 2; omega
    · obtain ⟨s, rfl⟩ : ∃ s, r = s + 2 ^ n := ⟨r - 2 ^ n, by omega⟩
      have hs : s < 2 ^ n := by omega
      have hb := bt s hs
      have hx := bx s hs
      rw [e0, show (2 * q) * 2 ^ n + (s + 2 ^ n) = ((2 * q) * 2 ^ n + s) ^^^ 2 ^ n by rw [← hx]; omega, stg_t (by rw [tb_same, hb]; rfl), xx]
      show trn wsh n l ((2 * q) * 2 ^ n + s) - trn wsh n l (((2 * q) * 2 ^ n + s) ^^^ 2 ^ n) = _
      rw [← hx, show (2 * q) * 2 ^ n + s + 2 ^ n = (2 * q + 1) * 2 ^ n + s by rw [e1]; omega, ih (2 * q) s hs, ih (2 * q + 1) s hs, hP, fI, fI, fI, add]
      rw [Int.sub_eq_add_neg, ← fI, ← fI_neg]
      congr 1
      · exact fs_congr _ _ (fun _ _ => rfl) fun x hx => by rw [and_hl hs hx]
      · refine fs_congr _ _ (fun _ _ => rfl) fun x hx => ?_
        have hlt : s &&& x < 2 ^ n := Nat.lt_of_le_of_lt Nat.and_le_left hs
        rw [and_hh hs hx, ch_hi (by omega) hlt, e1, Int.neg_mul]
        congr 3
        omega
theorem walsh0 (l : Nat → Int) {n m : Nat} (hn : n ≤ 6) (h : m < 2 ^ n) : trn wsh n l m = fI (fun _ => true) (fun j => ch (m &&& j) * l j) (2 ^ n) := by
  have e := walsh l n 0 m hn h
  rw [Nat.zero_mul, Nat.zero_add] at e
  rw [e]
  exact fs_congr _ _ (fun _ _ => rfl) fun x _ => by rw [Nat.zero_add]
end Go.Proofs.YtnfboopfpkaeaaaGreatDoor.Nim
