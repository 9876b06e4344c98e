/- Vectors over the inputs of a few bits, turned bit by bit. -/
namespace Go.Proofs.Ytnfboopfpkaeaaa.Nim
section
variable {α : Type}
/-- One bit. -/
def stg (s : α → α → α × α) (i : Nat) (l : Nat → α) : Nat → α := fun x => match x.testBit i with
  | true => (s (l (x ^^^ 2 ^ i)) (l x)).2
  | false => (s (l x) (l (x ^^^ 2 ^ i))).1
/-- The bits below n. -/
def trn (s : α → α → α × α) : Nat → (Nat → α) → Nat → α
  | 0, l => l
  | n + 1, l => stg s n (trn s n l)
theorem tb_same (x i : Nat) : (x ^^^ 2 ^ i).testBit i = !x.testBit i := by simp [Nat.testBit_xor]
theorem tb_other {i j : Nat} (h : i ≠ j) (x : Nat) : (x ^^^ 2 ^ i).testBit j = x.testBit j := by simp [Nat.testBit_xor, h]
theorem xx (x i : Nat) : x ^^^ 2 ^ i ^^^ 2 ^ i = x := by rw [Nat.xor_assoc, Nat.xor_self, Nat.xor_zero]
theorem xc (x i j : Nat) : x ^^^ 2 ^ i ^^^ 2 ^ j = x ^^^ 2 ^ j ^^^ 2 ^ i := by rw [Nat.xor_assoc, Nat.xor_comm (2 ^ i), ← Nat.xor_assoc]
theorem stg_t {s : α → α → α × α} {i x : Nat} {l : Nat → α} (h : x.testBit i = true) : stg s i l x = (s (l (x ^^^ 2 ^ i)) (l x)).2 := by unfold stg; rw [h]
theorem stg_f {s : α → α → α × α} {i x : Nat} {l : Nat → α} (h : x.testBit i = false) : stg s i l x = (s (l x) (l (x ^^^ 2 ^ i))).1 := by unfold stg; rw [h]
end

/-- A step that keeps the lower and turns the upper. -/
def up {α : Type} (f : α → α → α) (a b : α) : α × α := (a, f a b)
/-- Two such steps at different bits. -/
theorem up_comm {α : Type} {f g : α → α → α} (hfg : ∀ a b c d : α, g (f a b) (f c d) = f (g a c) (g b d)) {i j : Nat} (hij : i ≠ j) (l : Nat → α) : stg (up f) i (stg (up g) j l) = stg (up g) j (stg (up f) i l) := by
  funext x
  cases hi : x.testBit i <;> cases hj : x.testBit j
  · rw [stg_f hi, stg_f hj]
    simp only [up]
    rw [stg_f hj, stg_f hi]; rfl
  · rw [stg_f hi, stg_t hj]
    simp only [up]
    rw [stg_t hj, stg_f hi, stg_f ((tb_other (Ne.symm hij) x).trans hi)]; rfl
  · rw [stg_t hi, stg_f hj]
    simp only [up]
    rw [stg_f hj, stg_t hi, stg_f ((tb_other hij x).trans hj)]; rfl
  · rw [stg_t hi, stg_t hj]
    simp only [up]
    rw [stg_t hj, stg_t hi, stg_t ((tb_other hij x).trans hj), stg_t ((tb_other (Ne.symm hij) x).trans hi)]
    simp only [up]
    rw [xc x j i]
    exact (hfg _ _ _ _).symm
theorem up_trn {α : Type} {f g : α → α → α} (hfg : ∀ a b c d : α, g (f a b) (f c d) = f (g a c) (g b d)) (n : Nat) : ∀ (k : Nat), k ≤ n → ∀ l : Nat → α, trn (up f) k (stg (up g) n l) = stg (up g) n (trn (up f) k l)
  | 0, _, l => rfl
  | k + 1, hk, l => by
    simp only [trn]
    rw [up_trn hfg n k (by omega) l, up_comm hfg (by omega)]
theorem up_inv {α : Type} {f g : α → α → α} (hfg : ∀ a b c d : α, g (f a b) (f c d) = f (g a c) (g b d)) (hinv : ∀ a b, f a (g a b) = b) : ∀ (n : Nat) (l : Nat → α), trn (up f) n (trn (up g) n l) = l
  | 0, l => rfl
  | n + 1, l => by
    simp only [trn]
    rw [up_trn hfg n n (Nat.le_refl _)]
    have h1 : ∀ m : Nat → α, stg (up f) n (stg (up g) n m) = m := by
      intro m
      funext x
      cases h : x.testBit n
      · rw [stg_f h]; simp only [up]; rw [stg_f h]; rfl
      · rw [stg_t h]
        simp only [up]
        rw [stg_t h, stg_f (by rw [tb_same, h]; rfl)]
        exact hinv _ _
    rw [h1]
    exact up_inv hfg hinv n l
theorem xor_step : ∀ a b c d : Bool, ((a != b) != (c != d)) = ((a != c) != (b != d)) := by decide
theorem rem_twice (n : Nat) (f : Nat → Bool) : trn (up fun a b => a != b) n (trn (up fun a b => a != b) n f) = f := up_inv xor_step (by decide) n f
theorem reals_back (n : Nat) (f : Nat → Int) : trn (up fun a b => b + a) n (trn (up fun a b => b - a) n f) = f := up_inv (fun a b c d => by omega) (fun a b => by omega) n f

/-- Sums over the inputs of n bits. -/
def sm : Nat → (Nat → Int) → Int
  | 0, g => g 0
  | n + 1, g => sm n g + sm n fun x => g (x + 2 ^ n)
theorem sm_congr : ∀ (n : Nat) {g h : Nat → Int}, (∀ x, x < 2 ^ n → g x = h x) → sm n g = sm n h
  | 0, g, h, e => e 0 (by decide)
  | n + 1, g, h, e => by
    simp only [sm]
    rw [sm_congr n fun x hx => e x (by rw [Nat.pow_succ]; omega), sm_congr n (g := fun x => g (x + 2 ^ n)) (h := fun x => h (x + 2 ^ n)) fun x hx => e _ (by rw [Nat.pow_succ]; omega)]
theorem sm_add : ∀ (n : Nat) (g h : Nat → Int), sm n (fun x => g x + h x) = sm n g + sm n h
  | 0, _, _ => rfl
  | n + 1, g, h => by
    simp only [sm]
    rw [sm_add n g h, sm_add n (fun x => g (x + 2 ^ n)) (fun x => h (x + 2 ^ n))]
    omega
theorem sm_mul : ∀ (n : Nat) (c : Int) (g : Nat → Int), sm n (fun x => c * g x) = c * sm n g
  | 0, _, _ => rfl
  | n + 1, c, g => by
    simp only [sm]
    rw [sm_mul n c g, sm_mul n c (fun x => g (x + 2 ^ n)), Int.mul_add]
theorem sm_one : ∀ n, sm n (fun _ => 1) = 2 ^ n
  | 0 => rfl
  | n + 1 => by simp only [sm]; rw [sm_one n, Int.pow_succ]; omega
theorem add_pow {n x : Nat} (h : x < 2 ^ n) : x + 2 ^ n = x ^^^ 2 ^ n := by
  apply Nat.eq_of_testBit_eq
  intro j
  rw [Nat.testBit_xor, Nat.testBit_two_pow, Nat.add_comm]
  rcases Nat.lt_trichotomy j n with hj | hj | hj
  · rw [Nat.testBit_two_pow_add_gt hj]
    simp [show ¬ n = j by omega]
  · subst hj
    rw [Nat.testBit_two_pow_add_eq, Nat.testBit_lt_two_pow h]
    simp
  · rw [Nat.testBit_lt_two_pow (x := 2 ^ n + x) (by
      have : 2 ^ (n + 1) ≤ 2 ^ j := Nat.pow_le_pow_right (by decide) hj
      rw [Nat.pow_succ] at this
      omega), Nat.testBit_lt_two_pow (x := x) (Nat.lt_of_lt_of_le h (Nat.pow_le_pow_right (by decide) (Nat.le_of_lt hj)))]
    simp [show ¬ n = j by omega]
theorem flip_lt {n i x : Nat} (hi : i < n) (hx : x < 2 ^ n) : x ^^^ 2 ^ i < 2 ^ n := Nat.xor_lt_two_pow hx (Nat.pow_lt_pow_right (by decide) hi)
theorem sm_flip : ∀ (n i : Nat), i < n → ∀ g : Nat → Int, sm n (fun x => g (x ^^^ 2 ^ i)) = sm n g
  | 0, i, h, _ => by omega
  | n + 1, i, h, g => by
    simp only [sm]
    by_cases hin : i = n
    · subst hin
      rw [sm_congr i (g := fun x => g (x ^^^ 2 ^ i)) (h := fun x => g (x + 2 ^ i)) fun x hx => by rw [add_pow hx],
        sm_congr i (g := fun x => g ((x + 2 ^ i) ^^^ 2 ^ i)) (h := g) fun x hx => by rw [add_pow hx, xx]]
      omega
    · rw [sm_flip n i (by omega) g, sm_congr n (g := fun x => g ((x + 2 ^ n) ^^^ 2 ^ i)) (h := fun x => (fun y => g (y + 2 ^ n)) (x ^^^ 2 ^ i)) fun x hx => by
        show g _ = g _
        rw [add_pow hx, xc, ← add_pow (flip_lt (by omega) hx)], sm_flip n i (by omega) (fun y => g (y + 2 ^ n))]
/-- What pairs of inputs come to. -/
theorem sm_pair {n i : Nat} (hi : i < n) {g h : Nat → Int} (c : Int) (e : ∀ x, g x + g (x ^^^ 2 ^ i) = c * (h x + h (x ^^^ 2 ^ i))) : sm n g = c * sm n h := by
  have h1 : sm n (fun x => g x + g (x ^^^ 2 ^ i)) = sm n g + sm n g := by rw [sm_add, sm_flip n i hi g]
  have h2 : sm n (fun x => c * (h x + h (x ^^^ 2 ^ i))) = c * (sm n h + sm n h) := by rw [sm_mul, sm_add, sm_flip n i hi h]
  rw [show (fun x => g x + g (x ^^^ 2 ^ i)) = fun x => c * (h x + h (x ^^^ 2 ^ i)) from funext e, h2, Int.mul_add] at h1
  omega
def wsh (a b : Int) : Int × Int := (a + b, a - b)
theorem sq2 (a b : Int) : (a + b) * (a + b) + (a - b) * (a - b) = 2 * (a * a + b * b) := by
  rw [Int.add_mul, Int.sub_mul, Int.mul_add, Int.mul_add, Int.mul_sub, Int.mul_sub, Int.mul_comm b a]
  omega
theorem wsh_pair (i : Nat) (l : Nat → Int) (x : Nat) : stg wsh i l x * stg wsh i l x + stg wsh i l (x ^^^ 2 ^ i) * stg wsh i l (x ^^^ 2 ^ i) = 2 * (l x * l x + l (x ^^^ 2 ^ i) * l (x ^^^ 2 ^ i)) := by
  cases h : x.testBit i
  · rw [stg_f h, stg_t (x := x ^^^ 2 ^ i) (by rw [tb_same, h]; rfl), xx]
    exact sq2 _ _
  · rw [stg_t h, stg_f (x := x ^^^ 2 ^ i) (by rw [tb_same, h]; rfl), xx]
    have := sq2 (l (x ^^^ 2 ^ i)) (l x)
    simp only [wsh]
    omega
theorem energy {n i : Nat} (hi : i < n) (l : Nat → Int) : sm n (fun x => stg wsh i l x * stg wsh i l x) = 2 * sm n (fun x => l x * l x) := sm_pair hi 2 (wsh_pair i l)
theorem energy_trn (n : Nat) (l : Nat → Int) : ∀ k, k ≤ n → sm n (fun x => trn wsh k l x * trn wsh k l x) = 2 ^ k * sm n (fun x => l x * l x)
  | 0, _ => by simp [trn]
  | k + 1, hk => by
    simp only [trn]
    rw [energy (by omega), energy_trn n l k (by omega), Int.pow_succ, ← Int.mul_assoc, Int.mul_comm 2]
/-- The squares at the inputs that have a bit. -/
def rB (n i : Nat) (l : Nat → Int) : Int := sm n fun x => match x.testBit i with | true => l x * l x | false => 0
/-- The squares of the differences over a bit. -/
def qB (n i : Nat) (l : Nat → Int) : Int := sm n fun x => (l x - l (x ^^^ 2 ^ i)) * (l x - l (x ^^^ 2 ^ i))
theorem rB_step {n i j : Nat} (hij : i ≠ j) (hj : j < n) (l : Nat → Int) : rB n i (stg wsh j l) = 2 * rB n i l := by
  refine sm_pair hj 2 fun x => ?_
  rw [tb_other (Ne.symm hij)]
  cases x.testBit i
  · rfl
  · exact wsh_pair j l x
theorem qB_step {n i j : Nat} (hij : i ≠ j) (hj : j < n) (l : Nat → Int) : qB n i (stg wsh j l) = 2 * qB n i l := by
  have key : (fun x => stg wsh j l x - stg wsh j l (x ^^^ 2 ^ i)) = stg wsh j (fun x => l x - l (x ^^^ 2 ^ i)) := by
    funext x
    cases h : x.testBit j
    · rw [stg_f h, stg_f (x := x ^^^ 2 ^ i) ((tb_other hij x).trans h), stg_f h, xc x i j]
      simp only [wsh]
      omega
    · rw [stg_t h, stg_t (x := x ^^^ 2 ^ i) ((tb_other hij x).trans h), stg_t h, xc x i j]
      simp only [wsh]
      omega
  unfold qB
  have k1 : (fun x => (stg wsh j l x - stg wsh j l (x ^^^ 2 ^ i)) * (stg wsh j l x - stg wsh j l (x ^^^ 2 ^ i))) = fun x => stg wsh j (fun x => l x - l (x ^^^ 2 ^ i)) x * stg wsh j (fun x => l x - l (x ^^^ 2 ^ i)) x := by
    funext x
    have e : stg wsh j l x - stg wsh j l (x ^^^ 2 ^ i) = stg wsh j (fun x => l x - l (x ^^^ 2 ^ i)) x := congrFun key x
    rw [e]
  rw [k1]
  exact energy hj fun x => l x - l (x ^^^ 2 ^ i)
theorem rq {n i : Nat} (hi : i < n) (l : Nat → Int) : 2 * rB n i (stg wsh i l) = qB n i l := by
  unfold rB qB
  have h1 : sm n (fun x => (match x.testBit i with | true => stg wsh i l x * stg wsh i l x | false => 0)) + sm n (fun x => (match x.testBit i with | true => stg wsh i l x * stg wsh i l x | false => 0)) = sm n (fun x => (l x - l (x ^^^ 2 ^ i)) * (l x - l (x ^^^ 2 ^ i))) := by
    conv => lhs; rhs; rw [← sm_flip n i hi]
    rw [← sm_add]
    congr 1
    funext x
    simp only [tb_same]
    cases h : x.testBit i
    · simp only [Bool.not_false]
      rw [stg_t (x := x ^^^ 2 ^ i) (by rw [tb_same, h]; rfl), xx]
      simp only [wsh]
      omega
    · simp only [Bool.not_true]
      rw [stg_t h]
      simp only [wsh]
      have : (l (x ^^^ 2 ^ i) - l x) = -(l x - l (x ^^^ 2 ^ i)) := by omega
      rw [this, Int.neg_mul_neg]
      omega
  omega
theorem qB_trn {n i : Nat} (hi : i < n) (l : Nat → Int) : ∀ k, k ≤ i → qB n i (trn wsh k l) = 2 ^ k * qB n i l
  | 0, _ => by simp [trn]
  | k + 1, hk => by
    simp only [trn]
    rw [qB_step (by omega) (by omega), qB_trn hi l k (by omega), Int.pow_succ, ← Int.mul_assoc, Int.mul_comm 2]
theorem rB_trn {n i : Nat} (hi : i < n) (l : Nat → Int) : ∀ k, i + 1 + k ≤ n → 2 * rB n i (trn wsh (i + 1 + k) l) = 2 ^ (i + k) * qB n i l
  | 0, _ => by
    show 2 * rB n i (stg wsh i (trn wsh i l)) = _
    rw [rq hi, qB_trn hi l i (Nat.le_refl _)]
    rfl
  | k + 1, hk => by
    show 2 * rB n i (stg wsh (i + 1 + k) (trn wsh (i + 1 + k) l)) = _
    rw [rB_step (by omega) (by omega), ← Int.mul_assoc, Int.mul_comm 2 2, Int.mul_assoc, rB_trn hi l k (by omega), ← Int.mul_assoc, show i + (k + 1) = i + k + 1 from rfl, Int.pow_succ, Int.mul_comm 2]
/-- A function's values as signs. -/
def sgn (f : Nat → Bool) (x : Nat) : Int := if f x = true then -1 else 1
def cnt (n i : Nat) (f : Nat → Bool) : Int := sm n fun x => if f (x ^^^ 2 ^ i) ≠ f x then 1 else 0
theorem parseval (n : Nat) (f : Nat → Bool) : sm n (fun x => trn wsh n (sgn f) x * trn wsh n (sgn f) x) = 2 ^ n * 2 ^ n := by
  rw [energy_trn n _ n (Nat.le_refl _), ← sm_one n]
  congr 1
  refine congrArg (sm n) (funext fun x => ?_)
  unfold sgn
  split <;> rfl
theorem influence {n i : Nat} (hi : i < n) (f : Nat → Bool) : cnt n i f * 2 ^ n = rB n i (trn wsh n (sgn f)) := by
  have h1 := rB_trn hi (sgn f) (n - (i + 1)) (by omega)
  have h2 : qB n i (sgn f) = 4 * cnt n i f := by
    unfold qB cnt
    rw [← sm_mul]
    refine congrArg (sm n) (funext fun x => ?_)
    unfold sgn
    cases f x <;> cases f (x ^^^ 2 ^ i) <;> rfl
  rw [h2, show i + 1 + (n - (i + 1)) = n by omega, show i + (n - (i + 1)) = n - 1 by omega] at h1
  obtain ⟨m, rfl⟩ : ∃ m, n = m + 1 := ⟨n - 1, by omega⟩
  rw [Nat.add_sub_cancel] at h1
  rw [Int.pow_succ]
  generalize cnt (m + 1) i f = c at *
  generalize (2 : Int) ^ m = p at *
  have e1 : p * (4 * c) = 4 * (p * c) := Int.mul_left_comm p 4 c
  have e2 : c * (p * 2) = 2 * (p * c) := by rw [← Int.mul_assoc, Int.mul_comm c p, Int.mul_comm]
  omega
/-- How large the numbers become. -/
theorem trn_le {s : Int → Int → Int × Int} (hs : ∀ a b B : Int, -B ≤ a → a ≤ B → -B ≤ b → b ≤ B → (-(2 * B) ≤ (s a b).1 ∧ (s a b).1 ≤ 2 * B) ∧ (-(2 * B) ≤ (s a b).2 ∧ (s a b).2 ≤ 2 * B)) {l : Nat → Int} {B : Int} (hl : ∀ x, -B ≤ l x ∧ l x ≤ B) : ∀ k x, -(2 ^ k * B) ≤ trn s k l x ∧ trn s k l x ≤ 2 ^ k * B
  | 0, x => by simpa [trn] using hl x
  | k + 1, x => by
    have ih := trn_le hs hl k
    have e : (2 : Int) ^ (k + 1) * B = 2 * (2 ^ k * B) := by rw [Int.pow_succ, Int.mul_comm ((2 : Int) ^ k), Int.mul_assoc]
    rw [e]
    simp only [trn]
    cases h : x.testBit k
    · rw [stg_f h]
      exact (hs _ _ _ (ih x).1 (ih x).2 (ih _).1 (ih _).2).1
    · rw [stg_t h]
      exact (hs _ _ _ (ih _).1 (ih _).2 (ih x).1 (ih x).2).2
end Go.Proofs.Ytnfboopfpkaeaaa.Nim
