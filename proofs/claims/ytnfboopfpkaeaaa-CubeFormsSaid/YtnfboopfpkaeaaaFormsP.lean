/- The two forms of a function and its spectrum as sums over masks. -/
import Derived.Test.YtnfboopfpkaeaaaWalshP
namespace Go.Proofs.Ytnfboopfpkaeaaa.Nim
section
variable {α : Type} (op : α → α → α) (e : α)
/-- What an operation makes of the items below a number that a condition picks. -/
def fs (p : Nat → Bool) (g : Nat → α) : Nat → α
  | 0 => e
  | k + 1 => match p k with | true => op (fs p g k) (g k) | false => fs p g k
theorem low_q {n : Nat} (q r : Nat) (hr : r < 2 ^ n) : ((2 * q) * 2 ^ n + r).testBit n = false := by
  rw [Nat.testBit_eq_decide_div_mod_eq, Nat.mul_comm, Nat.mul_add_div (Nat.two_pow_pos n), Nat.div_eq_of_lt hr]
  simp
theorem high_q {n : Nat} (q r : Nat) (hr : r < 2 ^ n) : (2 * q) * 2 ^ n + r + 2 ^ n = ((2 * q) * 2 ^ n + r) ^^^ 2 ^ n := by
  have e1 : (2 * q + 1) * 2 ^ n = (2 * q) * 2 ^ n + 2 ^ n := by rw [Nat.add_mul, Nat.one_mul]
  apply Nat.eq_of_testBit_eq
  intro i
  rw [Nat.testBit_xor, Nat.testBit_two_pow, show (2 * q) * 2 ^ n + r + 2 ^ n = 2 ^ n * (2 * q + 1) + r by rw [Nat.mul_comm (2 ^ n), e1]; omega, Nat.mul_comm (2 * q), Nat.testBit_two_pow_mul_add _ hr, Nat.testBit_two_pow_mul_add _ hr]
  by_cases hi : i < n
  · have : n ≠ i := by omega
    simp [hi, this]
  · by_cases hn : n = i
    · subst hn; simp
    · have h1 : ¬ i < n := hi
      simp only [h1, if_false, hn, decide_false, Bool.xor_false]
      obtain ⟨d, hd⟩ : ∃ d, i - n = d + 1 := ⟨i - n - 1, by omega⟩
      rw [hd, Nat.testBit_succ, Nat.testBit_succ]
      congr 1
      omega
/-- Whether a mask lies within a mask. -/
def sub (k m : Nat) : Bool := k &&& m == k
theorem sub_self (m : Nat) : sub m m = true := by simp [sub]
theorem sub_le {k m : Nat} (h : m < k) : sub k m = false := by
  cases e : sub k m with
  | false => rfl
  | true =>
    have : k &&& m = k := by simpa [sub] using e
    have := Nat.and_le_right (n := k) (m := m)
    omega
theorem bit_lt {n x : Nat} (h : x < 2 ^ n) : x.testBit n = false := Nat.testBit_lt_two_pow h
theorem and_lh {n a b : Nat} (ha : a < 2 ^ n) (hb : b < 2 ^ n) : a &&& (b + 2 ^ n) = a &&& b := by
  rw [add_pow hb]
  apply Nat.eq_of_testBit_eq
  intro i
  rw [Nat.testBit_and, Nat.testBit_and, Nat.testBit_xor, Nat.testBit_two_pow]
  by_cases hi : n = i
  · subst hi; rw [bit_lt ha]; rfl
  · simp [hi]
theorem and_hl {n a b : Nat} (ha : a < 2 ^ n) (hb : b < 2 ^ n) : (a + 2 ^ n) &&& b = a &&& b := by rw [Nat.and_comm, and_lh hb ha, Nat.and_comm]
theorem and_hh {n a b : Nat} (ha : a < 2 ^ n) (hb : b < 2 ^ n) : (a + 2 ^ n) &&& (b + 2 ^ n) = (a &&& b) + 2 ^ n := by
  have hab : a &&& b < 2 ^ n := Nat.lt_of_le_of_lt Nat.and_le_left ha
  rw [add_pow hb, add_pow ha, add_pow hab]
  apply Nat.eq_of_testBit_eq
  intro i
  simp only [Nat.testBit_and, Nat.testBit_xor, Nat.testBit_two_pow]
  by_cases hi : n = i
  · subst hi; rw [bit_lt ha, bit_lt hb]; simp
  · simp [hi]
theorem sub_lh {n a b : Nat} (ha : a < 2 ^ n) (hb : b < 2 ^ n) : sub a (b + 2 ^ n) = sub a b := by unfold sub; rw [and_lh ha hb]
theorem sub_hl {n a b : Nat} (hb : b < 2 ^ n) : sub (a + 2 ^ n) b = false := sub_le (by omega)
theorem sub_hh {n a b : Nat} (ha : a < 2 ^ n) (hb : b < 2 ^ n) : sub (a + 2 ^ n) (b + 2 ^ n) = sub a b := by
  unfold sub
  rw [and_hh ha hb, Bool.eq_iff_iff]
  simp
theorem fs_congr {p p' : Nat → Bool} {g g' : Nat → α} : ∀ {k : Nat}, (∀ x, x < k → p x = p' x) → (∀ x, x < k → g x = g' x) → fs op e p g k = fs op e p' g' k
  | 0, _, _ => rfl
  | k + 1, h, h2 => by
    unfold fs
    rw [h k (by omega), h2 k (by omega), fs_congr (fun x hx => h x (by omega)) fun x hx => h2 x (by omega)]
theorem fs_no {p : Nat → Bool} {g : Nat → α} {m : Nat} (h : ∀ x, m ≤ x → p x = false) : ∀ k, m ≤ k → fs op e p g k = fs op e p g m := by
  intro k hk
  obtain ⟨d, rfl⟩ : ∃ d, k = m + d := ⟨k - m, by omega⟩
  clear hk
  induction d with
  | zero => rfl
  | succ d ih =>
    rw [← Nat.add_assoc]
    show (match p (m + d) with | true => op (fs op e p g (m + d)) (g (m + d)) | false => fs op e p g (m + d)) = _
    rw [h (m + d) (by omega)]
    exact ih
/-- The item at the mask itself is the last that counts. -/
theorem fs_cut {g : Nat → α} {m N : Nat} (h : m < N) : fs op e (fun k => sub k m) g N = op (fs op e (fun k => sub k m) g m) (g m) := by
  rw [fs_no op e (m := m + 1) (fun x hx => sub_le (by omega)) N (by omega)]
  show (match sub m m with | true => _ | false => _) = _
  rw [sub_self]
variable (ha : ∀ a b c : α, op (op a b) c = op a (op b c)) (hid : ∀ a, op a e = a)
include ha hid
theorem fs_add (p : Nat → Bool) (g : Nat → α) (a : Nat) : ∀ k, fs op e p g (a + k) = op (fs op e p g a) (fs op e (fun x => p (x + a)) (fun x => g (x + a)) k)
  | 0 => (hid _).symm
  | k + 1 => by
    rw [← Nat.add_assoc]
    show (match p (a + k) with | true => op (fs op e p g (a + k)) (g (a + k)) | false => fs op e p g (a + k)) = op _ (match p (k + a) with | true => op (fs op e _ _ k) (g (k + a)) | false => fs op e _ _ k)
    rw [fs_add p g a k, Nat.add_comm k a]
    cases p (a + k)
    · rfl
    · exact ha _ _ _
variable (hc : ∀ a b, op a b = op b a)
include hc
theorem zeta (g : Nat → α) : ∀ n q r, r < 2 ^ n → trn (up fun a b => op b a) n g (q * 2 ^ n + r) = fs op e (fun j => sub j r) (fun j => g (q * 2 ^ n + j)) (2 ^ n)
  | 0, q, r, h => by
    obtain rfl : r = 0 := by simpa using h
    show g (q * 1 + 0) = op e (g (q * 1 + 0))
    rw [hc, hid]
  | n + 1, q, r, h => by
    have hP : 2 ^ (n + 1) = 2 ^ n + 2 ^ n := by rw [Nat.pow_succ]; omega
    have e0 : q * 2 ^ (n + 1) = (2 * q) * 2 ^ n := by rw [Nat.pow_succ]; ac_rfl
    have e1 : (2 * q + 1) * 2 ^ n = (2 * q) * 2 ^ n + 2 ^ n := by rw [Nat.add_mul, Nat.one_mul]
    have bt := low_q (n := n) q
    have bx := high_q (n := n) q
    have ih := zeta g n
    show stg (up fun a b => op b a) n (trn (up fun a b => op b a) n g) (q * 2 ^ (n + 1) + r) = _
    by_cases hr : r < 2 ^ n
    · rw [e0, stg_f (bt r hr)]
      show trn (up fun a b => op b a) n g ((2 * q) * 2 ^ n + r) = _
      rw [ih (2 * q) r hr, hP, fs_no op e (m := 2 ^ n) (fun x hx => sub_le (by omega)) (2 ^ n + 2 ^ n) (by omega)]
    · obtain ⟨s, rfl⟩ : ∃ s, r = s + 2 ^ n := ⟨r - 2 ^ n, by omega⟩
      have hs : s < 2 ^ n := by omega
      have hb := bt s hs
      have hx := bx s hs
      rw [e0, show (2 * q) * 2 ^ n + (s + 2 ^ n) = ((2 * q) * 2 ^ n + s) ^^^ 2 ^ n by rw [← hx]; omega, stg_t (by rw [tb_same, hb]; rfl), xx]
      show op (trn (up fun a b => op b a) n g (((2 * q) * 2 ^ n + s) ^^^ 2 ^ n)) (trn (up fun a b => op b a) n g ((2 * q) * 2 ^ n + s)) = _
      rw [← hx, show (2 * q) * 2 ^ n + s + 2 ^ n = (2 * q + 1) * 2 ^ n + s by rw [e1]; omega, ih (2 * q) s hs, ih (2 * q + 1) s hs, hP, fs_add op e ha hid, hc]
      congr 1
      · exact fs_congr op e (fun x hx => (sub_lh hx hs).symm) fun x _ => rfl
      · exact fs_congr op e (fun x hx => (sub_hh hx hs).symm) fun x _ => by rw [e1]; congr 1; omega
end
/-- Sums of ints. -/
abbrev fI (p : Nat → Bool) (g : Nat → Int) (k : Nat) : Int := fs (fun a b => a + b) 0 p g k
abbrev fX (p : Nat → Bool) (g : Nat → Bool) (k : Nat) : Bool := fs (fun a b => b != a) false p g k
theorem fI_succ (p : Nat → Bool) (g : Nat → Int) (k : Nat) : fI p g (k + 1) = fI p g k + (if p k = true then g k else 0) := by
  show (match p k with | true => fI p g k + g k | false => fI p g k) = _
  cases p k <;> simp
theorem fX_succ (p : Nat → Bool) (g : Nat → Bool) (k : Nat) : fX p g (k + 1) = (fX p g k != (p k && g k)) := by
  show (match p k with | true => (g k != fX p g k) | false => fX p g k) = _
  cases p k <;> cases g k <;> cases fX p g k <;> rfl
theorem zetaI (g : Nat → Int) {n m : Nat} (h : m < 2 ^ n) : trn (up fun a b : Int => b + a) n g m = fI (fun j => sub j m) g (2 ^ n) := by
  have e := zeta (fun a b : Int => a + b) 0 Int.add_assoc Int.add_zero Int.add_comm g n 0 m h
  rw [Nat.zero_mul, Nat.zero_add] at e
  rw [e]
  exact fs_congr _ _ (fun _ _ => rfl) fun x _ => by rw [Nat.zero_add]
theorem zetaX (g : Nat → Bool) {n m : Nat} (h : m < 2 ^ n) : trn (up fun a b : Bool => a != b) n g m = fX (fun j => sub j m) g (2 ^ n) := by
  have e := zeta (fun a b : Bool => b != a) false (by decide) (by decide) (by decide) g n 0 m h
  rw [Nat.zero_mul, Nat.zero_add] at e
  rw [e]
  exact fs_congr _ _ (fun _ _ => rfl) fun x _ => by rw [Nat.zero_add]
/-- The value at a mask, by the real form. -/
theorem value_I (g : Nat → Int) {n m : Nat} (h : m < 2 ^ n) : trn (up fun a b : Int => b + a) n g m = fI (fun j => sub j m) g (m + 1) := by
  rw [zetaI g h, fI, fI, fs_cut _ _ h]
  exact (fs_cut (fun a b : Int => a + b) 0 (g := g) (Nat.lt_succ_self m)).symm
/-- The real form, by the numbers at the masks within. -/
theorem real_I (v : Nat → Int) {n m : Nat} (h : m < 2 ^ n) : trn (up fun a b : Int => b - a) n v m = v m - fI (fun j => sub j m) (trn (up fun a b : Int => b - a) n v) m := by
  have e := zetaI (trn (up fun a b : Int => b - a) n v) h
  rw [reals_back, fI, fs_cut _ _ h] at e
  rw [e]
  show _ = fI (fun j => sub j m) (trn (up fun a b : Int => b - a) n v) m + trn (up fun a b : Int => b - a) n v m - fI _ _ m
  omega
theorem rem_X (v : Nat → Bool) {n m : Nat} (h : m < 2 ^ n) : trn (up fun a b => a != b) n v m = (v m != fX (fun j => sub j m) (trn (up fun a b => a != b) n v) m) := by
  have e := zetaX (trn (up fun a b => a != b) n v) h
  rw [rem_twice, fX, fs_cut _ _ h] at e
  rw [e]
  show _ = ((trn (up fun a b => a != b) n v m != fX (fun j => sub j m) (trn (up fun a b => a != b) n v) m) != fX (fun j => sub j m) (trn (up fun a b => a != b) n v) m)
  cases trn (up fun a b => a != b) n v m <;> cases fX (fun j => sub j m) (trn (up fun a b => a != b) n v) m <;> rfl
/-- The other way: a list of numbers is the real form of its sums. -/
theorem reals_forth (n : Nat) (f : Nat → Int) : trn (up fun a b => b - a) n (trn (up fun a b => b + a) n f) = f := up_inv (fun a b c d => by omega) (fun a b => by omega) n f
theorem fI_bound {g : Nat → Int} {B : Nat} {p : Nat → Bool} : ∀ k, (∀ x, x < k → -(B : Int) ≤ g x ∧ g x ≤ B) → -((k * B : Nat) : Int) ≤ fI p g k ∧ fI p g k ≤ ((k * B : Nat) : Int)
  | 0, _ => by simp [fI, fs]
  | k + 1, h => by
    rw [fI_succ]
    have := fI_bound (p := p) k (fun x hx => h x (by omega))
    have := h k (by omega)
    rw [Nat.add_mul, Nat.one_mul]
    split <;> omega

/-- The number of bits of a mask of seven bits. -/
def pop (z : Nat) : Nat := z % 2 + z / 2 % 2 + z / 4 % 2 + z / 8 % 2 + z / 16 % 2 + z / 32 % 2 + z / 64 % 2
def ch (z : Nat) : Int := if pop z % 2 = 1 then -1 else 1
theorem ch_all : ((List.range 6).all fun n => (List.range (2 ^ n)).all fun z => ch (z + 2 ^ n) == -ch z) = true := by decide +kernel
theorem ch_hi {n z : Nat} (hn : n < 6) (hz : z < 2 ^ n) : ch (z + 2 ^ n) = -ch z := by
  have h := List.all_eq_true.1 ch_all n (List.mem_range.2 hn)
  simpa using List.all_eq_true.1 h z (List.mem_range.2 hz)
theorem fI_sub (g g' : Nat → Int) : ∀ k, fI (fun _ => true) (fun x => g x - g' x) k = fI (fun _ => true) g k - fI (fun _ => true) g' k
  | 0 => rfl
  | k + 1 => by
    have := fI_sub g g' k
    rw [fI_succ, fI_succ, fI_succ, this]
    simp
    omega
theorem fI_neg (g : Nat → Int) : ∀ k, fI (fun _ => true) (fun x => - g x) k = - fI (fun _ => true) g k
  | 0 => rfl
  | k + 1 => by
    have := fI_neg g k
    rw [fI_succ, fI_succ, this]
    simp
    omega
theorem walsh (l : Nat → Int) : ∀ n q r, n ≤ 6 → r < 2 ^ n → trn wsh n l (q * 2 ^ n + r) = fI (fun _ => true) (fun j => ch (r &&& j) * l (q * 2 ^ n + j)) (2 ^ n)
  | 0, q, r, _, h => by
    obtain rfl : r = 0 := by simpa using h
    show l (q * 1 + 0) = 0 + 1 * l (q * 1 + 0)
    omega
  | n + 1, q, r, hn, h => by
    have hP : 2 ^ (n + 1) = 2 ^ n + 2 ^ n := by rw [Nat.pow_succ]; omega
    have e0 : q * 2 ^ (n + 1) = (2 * q) * 2 ^ n := by rw [Nat.pow_succ]; ac_rfl
    have e1 : (2 * q + 1) * 2 ^ n = (2 * q) * 2 ^ n + 2 ^ n := by rw [Nat.add_mul, Nat.one_mul]
    have bt := low_q (n := n) q
    have bx := high_q (n := n) q
    have ih := fun q r => walsh l n q r (by omega)
    have add := fun g k => fs_add (fun a b : Int => a + b) 0 Int.add_assoc Int.add_zero (fun _ => true) g (2 ^ n) k
    show stg wsh n (trn wsh n l) (q * 2 ^ (n + 1) + r) = _
    by_cases hr : r < 2 ^ n
    · rw [e0, stg_f (bt r hr), ← bx r hr, show (2 * q) * 2 ^ n + r + 2 ^ n = (2 * q + 1) * 2 ^ n + r by rw [e1]; omega]
      show trn wsh n l ((2 * q) * 2 ^ n + r) + trn wsh n l ((2 * q + 1) * 2 ^ n + r) = _
      rw [ih (2 * q) r hr, ih (2 * q + 1) r hr, hP, fI, fI, fI, add]
      congr 1
      exact fs_congr _ _ (fun _ _ => rfl) fun x hx => by rw [and_lh hr hx, e1]; congr 2; omega
    · obtain ⟨s, rfl⟩ : ∃ s, r = s + 2 ^ n := ⟨r - 2 ^ n, by omega⟩
      have hs : s < 2 ^ n := by omega
      have hb := bt s hs
      have hx := bx s hs
      rw [e0, show (2 * q) * 2 ^ n + (s + 2 ^ n) = ((2 * q) * 2 ^ n + s) ^^^ 2 ^ n by rw [← hx]; omega, stg_t (by rw [tb_same, hb]; rfl), xx]
      show trn wsh n l ((2 * q) * 2 ^ n + s) - trn wsh n l (((2 * q) * 2 ^ n + s) ^^^ 2 ^ n) = _
      rw [← hx, show (2 * q) * 2 ^ n + s + 2 ^ n = (2 * q + 1) * 2 ^ n + s by rw [e1]; omega, ih (2 * q) s hs, ih (2 * q + 1) s hs, hP, fI, fI, fI, add]
      rw [Int.sub_eq_add_neg, ← fI, ← fI_neg]
      congr 1
      · exact fs_congr _ _ (fun _ _ => rfl) fun x hx => by rw [and_hl hs hx]
      · refine fs_congr _ _ (fun _ _ => rfl) fun x hx => ?_
        have hlt : s &&& x < 2 ^ n := Nat.lt_of_le_of_lt Nat.and_le_left hs
        rw [and_hh hs hx, ch_hi (by omega) hlt, e1, Int.neg_mul]
        congr 3
        omega
theorem walsh0 (l : Nat → Int) {n m : Nat} (hn : n ≤ 6) (h : m < 2 ^ n) : trn wsh n l m = fI (fun _ => true) (fun j => ch (m &&& j) * l j) (2 ^ n) := by
  have e := walsh l n 0 m hn h
  rw [Nat.zero_mul, Nat.zero_add] at e
  rw [e]
  exact fs_congr _ _ (fun _ _ => rfl) fun x _ => by rw [Nat.zero_add]
end Go.Proofs.Ytnfboopfpkaeaaa.Nim
