/- The reference of the forms: contracts. -/
import Derived.Test.YtnfboopfpkaeaaaCubeQA
import Derived.Test.YtnfboopfpkaeaaaProg
import Derived.KernelRfl
import Derived.Test.YtnfboopfpkaeaaaSyF
import Derived.Test.YtnfboopfpkaeaaaSyD
import Derived.ChangeSlices
import Derived.ChangeArms
import Derived.Test.YtnfboopfpkaeaaaEngN
/- The two forms of a function and its spectrum as sums over masks. -/
namespace Go.Proofs.Ytnfboopfpkaeaaa.Nim
section
variable {α : Type} (op : α → α → α) (e : α)
/-- What an operation makes of the items below a number that a condition picks. -/
def fs (p : Nat → Bool) (g : Nat → α) : Nat → α
  | 0 => e
  | k + 1 => match p k with | true => op (fs p g k) (g k) | false => fs p g k
theorem low_q {n : Nat} (q r : Nat) (hr : r < 2 ^ n) : ((2 * q) * 2 ^ n + r).testBit n = false := by
  rw [Nat.testBit_eq_decide_div_mod_eq, Nat.mul_comm, Nat.mul_add_div (Nat.two_pow_pos n), Nat.div_eq_of_lt hr]
  simp
theorem high_q {n : Nat} (q r : Nat) (hr : r < 2 ^ n) : (2 * q) * 2 ^ n + r + 2 ^ n = ((2 * q) * 2 ^ n + r) ^^^ 2 ^ n := by
  have e1 : (2 * q + 1) * 2 ^ n = (2 * q) * 2 ^ n + 2 ^ n := by rw [Nat.add_mul, Nat.one_mul]
  apply Nat.eq_of_testBit_eq
  intro i
  rw [Nat.testBit_xor, Nat.testBit_two_pow, show (2 * q) * 2 ^ n + r + 2 ^ n = 2 ^ n * (2 * q + 1) + r by rw [Nat.mul_comm (2 ^ n), e1]; omega, Nat.mul_comm (2 * q), Nat.testBit_two_pow_mul_add _ hr, Nat.testBit_two_pow_mul_add _ hr]
  by_cases hi : i < n
  · have : n ≠ i := by omega
    simp [hi, this]
  · by_cases hn : n = i
    · subst hn; simp
    · have h1 : ¬ i < n := hi
      simp only [h1, if_false, hn, decide_false, Bool.xor_false]
      obtain ⟨d, hd⟩ : ∃ d, i - n = d + 1 := ⟨i - n - 1, by omega⟩
      rw [hd, Nat.testBit_succ, Nat.testBit_succ]
      congr 1
      omega
/-- Whether a mask lies within a mask. -/
def sub (k m : Nat) : Bool := k &&& m == k
theorem sub_self (m : Nat) : sub m m = true := by simp [sub]
theorem sub_le {k m : Nat} (h : m < k) : sub k m = false := by
  cases e : sub k m with
  | false => rfl
  | true =>
    have : k &&& m = k := by simpa [sub] using e
    have := Nat.and_le_right (n := k) (m := m)
    omega
theorem bit_lt {n x : Nat} (h : x < 2 ^ n) : x.testBit n = false := Nat.testBit_lt_two_pow h
theorem and_lh {n a b : Nat} (ha : a < 2 ^ n) (hb : b < 2 ^ n) : a &&& (b + 2 ^ n) = a &&& b := by
  rw [add_pow hb]
  apply Nat.eq_of_testBit_eq
  intro i
  rw [Nat.testBit_and, Nat.testBit_and, Nat.testBit_xor, Nat.testBit_two_pow]
  by_cases hi : n = i
  · subst hi; rw [bit_lt ha]; rfl
  · simp [hi]
theorem and_hl {n a b : Nat} (ha : a < 2 ^ n) (hb : b < 2 ^ n) : (a + 2 ^ n) &&& b = a &&& b := by rw [Nat.and_comm, and_lh hb ha, Nat.and_comm]
theorem and_hh {n a b : Nat} (ha : a < 2 ^ n) (hb : b < 2 ^ n) : (a + 2 ^ n) &&& (b + 2 ^ n) = (a &&& b) + 2 ^ n := by
  have hab : a &&& b < 2 ^ n := Nat.lt_of_le_of_lt Nat.and_le_left ha
  rw [add_pow hb, add_pow ha, add_pow hab]
  apply Nat.eq_of_testBit_eq
  intro i
  simp only [Nat.testBit_and, Nat.testBit_xor, Nat.testBit_two_pow]
  by_cases hi : n = i
  · subst hi; rw [bit_lt ha, bit_lt hb]; simp
  · simp [hi]
theorem sub_lh {n a b : Nat} (ha : a < 2 ^ n) (hb : b < 2 ^ n) : sub a (b + 2 ^ n) = sub a b := by unfold sub; rw [and_lh ha hb]
theorem sub_hl {n a b : Nat} (hb : b < 2 ^ n) : sub (a + 2 ^ n) b = false := sub_le (by omega)
theorem sub_hh {n a b : Nat} (ha : a < 2 ^ n) (hb : b < 2 ^ n) : sub (a + 2 ^ n) (b + 2 ^ n) = sub a b := by
  unfold sub
  rw [and_hh ha hb, Bool.eq_iff_iff]
  simp
theorem fs_congr {p p' : Nat → Bool} {g g' : Nat → α} : ∀ {k : Nat}, (∀ x, x < k → p x = p' x) → (∀ x, x < k → g x = g' x) → fs op e p g k = fs op e p' g' k
  | 0, _, _ => rfl
  | k + 1, h, h2 => by
    unfold fs
    rw [h k (by omega), h2 k (by omega), fs_congr (fun x hx => h x (by omega)) fun x hx => h2 x (by omega)]
theorem fs_no {p : Nat → Bool} {g : Nat → α} {m : Nat} (h : ∀ x, m ≤ x → p x = false) : ∀ k, m ≤ k → fs op e p g k = fs op e p g m := by
  intro k hk
  obtain ⟨d, rfl⟩ : ∃ d, k = m + d := ⟨k - m, by omega⟩
  clear hk
  induction d with
  | zero => rfl
  | succ d ih =>
    rw [← Nat.add_assoc]
    show (match p (m + d) with | true => op (fs op e p g (m + d)) (g (m + d)) | false => fs op e p g (m + d)) = _
    rw [h (m + d) (by omega)]
    exact ih
/-- The item at the mask itself is the last that counts. -/
theorem fs_cut {g : Nat → α} {m N : Nat} (h : m < N) : fs op e (fun k => sub k m) g N = op (fs op e (fun k => sub k m) g m) (g m) := by
  rw [fs_no op e (m := m + 1) (fun x hx => sub_le (by omega)) N (by omega)]
  show (match sub m m with | true => _ | false => _) = _
  rw [sub_self]
variable (ha : ∀ a b c : α, op (op a b) c = op a (op b c)) (hid : ∀ a, op a e = a)
include ha hid
theorem fs_add (p : Nat → Bool) (g : Nat → α) (a : Nat) : ∀ k, fs op e p g (a + k) = op (fs op e p g a) (fs op e (fun x => p (x + a)) (fun x => g (x + a)) k)
  | 0 => (hid _).symm
  | k + 1 => by
    rw [← Nat.add_assoc]
    show (match p (a + k) with | true => op (fs op e p g (a + k)) (g (a + k)) | false => fs op e p g (a + k)) = op _ (match p (k + a) with | true => op (fs op e _ _ k) (g (k + a)) | false => fs op e _ _ k)
    rw [fs_add p g a k, Nat.add_comm k a]
    cases p (a + k)
    · rfl
    · exact ha _ _ _
variable (hc : ∀ a b, op a b = op b a)
include hc
theorem zeta (g : Nat → α) : ∀ n q r, r < 2 ^ n → trn (up fun a b => op b a) n g (q * 2 ^ n + r) = fs op e (fun j => sub j r) (fun j => g (q * 2 ^ n + j)) (2 ^ n)
  | 0, q, r, h => by
    obtain rfl : r = 0 := by simpa using h
    show g (q * 1 + 0) = op e (g (q * 1 + 0))
    rw [hc, hid]
  | n + 1, q, r, h => by
    have hP : 2 ^ (n + 1) = 2 ^ n + 2 ^ n := by rw [Nat.pow_succ]; omega
    have e0 : q * 2 ^ (n + 1) = (2 * q) * 2 ^ n := by rw [Nat.pow_succ]; ac_rfl
    have e1 : (2 * q + 1) * 2 ^ n = (2 * q) * 2 ^ n + 2 ^ n := by rw [Nat.add_mul, Nat.one_mul]
    have bt := low_q (n := n) q
    have bx := high_q (n := n) q
    have ih := zeta g n
    show stg (up fun a b => op b a) n (trn (up fun a b => op b a) n g) (q * 2 ^ (n + 1) + r) = _
    by_cases hr : r < 2 ^ n
    · rw [e0, stg_f (bt r hr)]
      show trn (up fun a b => op b a) n g ((2 * q) * 2 ^ n + r) = _
      rw [ih (2 * q) r hr, hP, fs_no op e (m := 2 ^ n) (fun x hx => sub_le (by omega)) (2 ^ n + 2 ^ n) (by omega)]
    · obtain ⟨s, rfl⟩ : ∃ s, r = s + 2 ^ n := ⟨r - 2 ^ n, by omega⟩
      have hs : s < 2 ^ n := by omega
      have hb := bt s hs
      have hx := bx s hs
      rw [e0, show (2 * q) * 2 ^ n + (s + 2 ^ n) = ((2 * q) * 2 ^ n + s) ^^^ 2 ^ n by rw [← hx]; omega, stg_t (by rw [tb_same, hb]; rfl), xx]
      show op (trn (up fun a b => op b a) n g (((2 * q) * 2 ^ n + s) ^^^ 2 ^ n)) (trn (up fun a b => op b a) n g ((2 * q) * 2 ^ n + s)) = _
      rw [← hx, show (2 * q) * 2 ^ n + s + 2 ^ n = (2 * q + 1) * 2 ^ n + s by rw [e1]; omega, ih (2 * q) s hs, ih (2 * q + 1) s hs, hP, fs_add op e ha hid, hc]
      congr 1
      · exact fs_congr op e (fun x hx => (sub_lh hx hs).symm) fun x _ => rfl
      · exact fs_congr op e (fun x hx => (sub_hh hx hs).symm) fun x _ => by rw [e1]; congr 1; omega
end
/-- Sums of ints. -/
abbrev fI (p : Nat → Bool) (g : Nat → Int) (k : Nat) : Int := fs (fun a b => a + b) 0 p g k
abbrev fX (p : Nat → Bool) (g : Nat → Bool) (k : Nat) : Bool := fs (fun a b => b != a) false p g k
theorem fI_succ (p : Nat → Bool) (g : Nat → Int) (k : Nat) : fI p g (k + 1) = fI p g k + (if p k = true then g k else 0) := by
  show (match p k with | true => fI p g k + g k | false => fI p g k) = _
  cases p k <;> simp
theorem fX_succ (p : Nat → Bool) (g : Nat → Bool) (k : Nat) : fX p g (k + 1) = (fX p g k != (p k && g k)) := by
  show (match p k with | true => (g k != fX p g k) | false => fX p g k) = _
  cases p k <;> cases g k <;> cases fX p g k <;> rfl
theorem zetaI (g : Nat → Int) {n m : Nat} (h : m < 2 ^ n) : trn (up fun a b : Int => b + a) n g m = fI (fun j => sub j m) g (2 ^ n) := by
  have e := zeta (fun a b : Int => a + b) 0 Int.add_assoc Int.add_zero Int.add_comm g n 0 m h
  rw [Nat.zero_mul, Nat.zero_add] at e
  rw [e]
  exact fs_congr _ _ (fun _ _ => rfl) fun x _ => by rw [Nat.zero_add]
theorem zetaX (g : Nat → Bool) {n m : Nat} (h : m < 2 ^ n) : trn (up fun a b : Bool => a != b) n g m = fX (fun j => sub j m) g (2 ^ n) := by
  have e := zeta (fun a b : Bool => b != a) false (by decide) (by decide) (by decide) g n 0 m h
  rw [Nat.zero_mul, Nat.zero_add] at e
  rw [e]
  exact fs_congr _ _ (fun _ _ => rfl) fun x _ => by rw [Nat.zero_add]
/-- The value at a mask, by the real form. -/
theorem value_I (g : Nat → Int) {n m : Nat} (h : m < 2 ^ n) : trn (up fun a b : Int => b + a) n g m = fI (fun j => sub j m) g (m + 1) := by
  rw [zetaI g h, fI, fI, fs_cut _ _ h]
  exact (fs_cut (fun a b : Int => a + b) 0 (g := g) (Nat.lt_succ_self m)).symm
/-- The real form, by the numbers at the masks within. -/
theorem real_I (v : Nat → Int) {n m : Nat} (h : m < 2 ^ n) : trn (up fun a b : Int => b - a) n v m = v m - fI (fun j => sub j m) (trn (up fun a b : Int => b - a) n v) m := by
  have e := zetaI (trn (up fun a b : Int => b - a) n v) h
  rw [reals_back, fI, fs_cut _ _ h] at e
  rw [e]
  show _ = fI (fun j => sub j m) (trn (up fun a b : Int => b - a) n v) m + trn (up fun a b : Int => b - a) n v m - fI _ _ m
  omega
theorem rem_X (v : Nat → Bool) {n m : Nat} (h : m < 2 ^ n) : trn (up fun a b => a != b) n v m = (v m != fX (fun j => sub j m) (trn (up fun a b => a != b) n v) m) := by
  have e := zetaX (trn (up fun a b => a != b) n v) h
  rw [rem_twice, fX, fs_cut _ _ h] at e
  rw [e]
  show _ = ((trn (up fun a b => a != b) n v m != fX (fun j => sub j m) (trn (up fun a b => a != b) n v) m) != fX (fun j => sub j m) (trn (up fun a b => a != b) n v) m)
  cases trn (up fun a b => a != b) n v m <;> cases fX (fun j => sub j m) (trn (up fun a b => a != b) n v) m <;> rfl
/-- The other way: a list of numbers is the real form of its sums. -/
theorem reals_forth (n : Nat) (f : Nat → Int) : trn (up fun a b => b - a) n (trn (up fun a b => b + a) n f) = f := up_inv (fun a b c d => by omega) (fun a b => by omega) n f
theorem fI_bound {g : Nat → Int} {B : Nat} {p : Nat → Bool} : ∀ k, (∀ x, x < k → -(B : Int) ≤ g x ∧ g x ≤ B) → -((k * B : Nat) : Int) ≤ fI p g k ∧ fI p g k ≤ ((k * B : Nat) : Int)
  | 0, _ => by simp [fI, fs]
  | k + 1, h => by
    rw [fI_succ]
    have := fI_bound (p := p) k (fun x hx => h x (by omega))
    have := h k (by omega)
    rw [Nat.add_mul, Nat.one_mul]
    split <;> omega

/-- The number of bits of a mask of seven bits. -/
def pop (z : Nat) : Nat := z % 2 + z / 2 % 2 + z / 4 % 2 + z / 8 % 2 + z / 16 % 2 + z / 32 % 2 + z / 64 % 2
def ch (z : Nat) : Int := if pop z % 2 = 1 then -1 else 1
theorem ch_all : ((List.range 6).all fun n => (List.range (2 ^ n)).all fun z => ch (z + 2 ^ n) == -ch z) = true := by decide +kernel
theorem ch_hi {n z : Nat} (hn : n < 6) (hz : z < 2 ^ n) : ch (z + 2 ^ n) = -ch z := by
  have h := List.all_eq_true.1 ch_all n (List.mem_range.2 hn)
  simpa using List.all_eq_true.1 h z (List.mem_range.2 hz)
theorem fI_sub (g g' : Nat → Int) : ∀ k, fI (fun _ => true) (fun x => g x - g' x) k = fI (fun _ => true) g k - fI (fun _ => true) g' k
  | 0 => rfl
  | k + 1 => by
    have := fI_sub g g' k
    rw [fI_succ, fI_succ, fI_succ, this]
    simp
    omega
theorem fI_neg (g : Nat → Int) : ∀ k, fI (fun _ => true) (fun x => - g x) k = - fI (fun _ => true) g k
  | 0 => rfl
  | k + 1 => by
    have := fI_neg g k
    rw [fI_succ, fI_succ, this]
    simp
    omega
theorem walsh (l : Nat → Int) : ∀ n q r, n ≤ 6 → r < 2 ^ n → trn wsh n l (q * 2 ^ n + r) = fI (fun _ => true) (fun j => ch (r &&& j) * l (q * 2 ^ n + j)) (2 ^ n)
  | 0, q, r, _, h => by
    obtain rfl : r = 0 := by simpa using h
    show l (q * 1 + 0) = 0 + 1 * l (q * 1 + 0)
    omega
  | n + 1, q, r, hn, h => by
    have hP : 2 ^ (n + 1) = 2 ^ n + 2 ^ n := by rw [Nat.pow_succ]; omega
    have e0 : q * 2 ^ (n + 1) = (2 * q) * 2 ^ n := by rw [Nat.pow_succ]; ac_rfl
    have e1 : (2 * q + 1) * 2 ^ n = (2 * q) * 2 ^ n + 2 ^ n := by rw [Nat.add_mul, Nat.one_mul]
    have bt := low_q (n := n) q
    have bx := high_q (n := n) q
    have ih := fun q r => walsh l n q r (by omega)
    have add := fun g k => fs_add (fun a b : Int => a + b) 0 Int.add_assoc Int.add_zero (fun _ => true) g (2 ^ n) k
    show stg wsh n (trn wsh n l) (q * 2 ^ (n + 1) + r) = _
    by_cases hr : r < 2 ^ n
    · rw [e0, stg_f (bt r hr), ← bx r hr, show (2 * q) * 2 ^ n + r + 2 ^ n = (2 * q + 1) * 2 ^ n + r by rw [e1]; omega]
      show trn wsh n l ((2 * q) * 2 ^ n + r) + trn wsh n l ((2 * q + 1) * 2 ^ n + r) = _
      rw [ih (2 * q) r hr, ih (2 * q + 1) r hr, hP, fI, fI, fI, add]
      congr 1
      exact fs_congr _ _ (fun _ _ => rfl) fun x hx => by rw [and_lh hr hx, e1]; congr 2; omega
    · obtain ⟨s, rfl⟩ : ∃ s, r = s + 2 ^ n := ⟨r - 2 ^ n, by omega⟩
      have hs : s < 2 ^ n := by omega
      have hb := bt s hs
      have hx := bx s hs
      rw [e0, show (2 * q) * 2 ^ n + (s + 2 ^ n) = ((2 * q) * 2 ^ n + s) ^^^ 2 ^ n by rw [← hx]; omega, stg_t (by rw [tb_same, hb]; rfl), xx]
      show trn wsh n l ((2 * q) * 2 ^ n + s) - trn wsh n l (((2 * q) * 2 ^ n + s) ^^^ 2 ^ n) = _
      rw [← hx, show (2 * q) * 2 ^ n + s + 2 ^ n = (2 * q + 1) * 2 ^ n + s by rw [e1]; omega, ih (2 * q) s hs, ih (2 * q + 1) s hs, hP, fI, fI, fI, add]
      rw [Int.sub_eq_add_neg, ← fI, ← fI_neg]
      congr 1
      · exact fs_congr _ _ (fun _ _ => rfl) fun x hx => by rw [and_hl hs hx]
      · refine fs_congr _ _ (fun _ _ => rfl) fun x hx => ?_
        have hlt : s &&& x < 2 ^ n := Nat.lt_of_le_of_lt Nat.and_le_left hs
        rw [and_hh hs hx, ch_hi (by omega) hlt, e1, Int.neg_mul]
        congr 3
        omega
theorem walsh0 (l : Nat → Int) {n m : Nat} (hn : n ≤ 6) (h : m < 2 ^ n) : trn wsh n l m = fI (fun _ => true) (fun j => ch (m &&& j) * l j) (2 ^ n) := by
  have e := walsh l n 0 m hn h
  rw [Nat.zero_mul, Nat.zero_add] at e
  rw [e]
  exact fs_congr _ _ (fun _ _ => rfl) fun x _ => by rw [Nat.zero_add]
end Go.Proofs.Ytnfboopfpkaeaaa.Nim
/- CubeRa: contracts of functions. -/
namespace Go.Proofs.Ytnfboopfpkaeaaa
open Go Go.Eng Nim
set_option maxRecDepth 100000
theorem by64 {p : Nat → Prop} (h : ∀ n : Fin 64, p n) {m : Nat} (hm : m < 64) : p m := h ⟨m, hm⟩
theorem value_of (b : Bool) (m : Nat) (h : Hp) : Ev 100000 (m + 10) 70 [.bool b] h = some (I (if b = true then 1 else 0), h) := by
  cases b <;> kernel_rfl
/-- One number below 64. -/
inductive B64 : Nat → Prop
  | mk (a b c d e f : Bool) : B64 (a.toNat + 2 * b.toNat + 4 * c.toNat + 8 * d.toNat + 16 * e.toNat + 32 * f.toNat)
theorem b64 {z : Nat} (h : z < 64) : B64 z := by
  have e : z = (z.testBit 0).toNat + 2 * (z.testBit 1).toNat + 4 * (z.testBit 2).toNat + 8 * (z.testBit 3).toNat + 16 * (z.testBit 4).toNat + 32 * (z.testBit 5).toNat := by
    simp only [Nat.toNat_testBit]
    omega
  rw [e]
  exact .mk _ _ _ _ _ _
theorem ones_of {z : Nat} (hz : z < 64) (m : Nat) (h : Hp) : Ev 100000 (m + 20) 71 [J z] h = some (J (pop z), h) := by
  obtain ⟨a, b, c, d, e, f⟩ := b64 hz
  cases a <;> cases b <;> cases c <;> cases d <;> cases e <;> cases f <;> kernel_rfl
theorem count_of {z : Nat} (hz : z < 64) (m : Nat) (h : Hp) : Ev 100000 (m + 20) 66 [J z] h = some (J (pop z), h) := by
  obtain ⟨a, b, c, d, e, f⟩ := b64 hz
  cases a <;> cases b <;> cases c <;> cases d <;> cases e <;> cases f <;> kernel_rfl
/-- A length that is no table's: as the program and as the reference say. -/
def NoLen (lf m N : Nat) : Prop := (∀ h, Ev lf m 56 [J N] h = some (.tuple #[I (if N = 0 then -1 else (Nat.log2 N : Int)), .bool false], h)) ∧ ∀ h, Ev lf m 33 [J N] h = some (I (-1), h)
theorem rbits_of (n : Nat) (hn : n ≤ 6) (m : Nat) (h : Hp) : Ev 100000 (m + 20) 33 [J (2 ^ n)] h = some (J n, h) := by
  rcases (by omega : n = 0 ∨ n = 1 ∨ n = 2 ∨ n = 3 ∨ n = 4 ∨ n = 5 ∨ n = 6) with rfl | rfl | rfl | rfl | rfl | rfl | rfl <;> kernel_rfl
theorem len_all {N : Nat} (hN : N ≤ 66) : (∃ n, n ≤ 6 ∧ N = 2 ^ n) ∨ ∀ m, NoLen 100000 (m + 20) N := by
  rcases Nat.lt_or_ge N 64 with h | h
  · obtain ⟨a, b, c, d, e, f⟩ := b64 h
    cases a <;> cases b <;> cases c <;> cases d <;> cases e <;> cases f <;> first | exact .inl ⟨0, by decide, rfl⟩ | exact .inl ⟨1, by decide, rfl⟩ | exact .inl ⟨2, by decide, rfl⟩ | exact .inl ⟨3, by decide, rfl⟩ | exact .inl ⟨4, by decide, rfl⟩ | exact .inl ⟨5, by decide, rfl⟩ | exact .inr fun m => ⟨fun h => by kernel_rfl, fun h => by kernel_rfl⟩
  · rcases (by omega : N = 64 ∨ N = 65 ∨ N = 66) with rfl | rfl | rfl
    · exact .inl ⟨6, by decide, rfl⟩
    · exact .inr fun m => ⟨fun h => by kernel_rfl, fun h => by kernel_rfl⟩
    · exact .inr fun m => ⟨fun h => by kernel_rfl, fun h => by kernel_rfl⟩
end Go.Proofs.Ytnfboopfpkaeaaa
/- RefA: contracts of functions. -/
namespace Go.Proofs.Ytnfboopfpkaeaaa
open Go Go.Eng Nim
set_option maxRecDepth 100000
set_option maxHeartbeats 4000000
/-- How many of the items below a number are picked and true. -/
def cN (p g : Nat → Bool) : Nat → Nat
  | 0 => 0
  | k + 1 => cN p g k + (if (p k && g k) = true then 1 else 0)
theorem cN_le (p g : Nat → Bool) : ∀ k, cN p g k ≤ k
  | 0 => Nat.le_refl _
  | k + 1 => by have := cN_le p g k; unfold cN; split <;> omega
theorem cN_odd (p g : Nat → Bool) (b : Bool) : ∀ k, ((b.toNat + cN p g k) % 2 == 1) = (b != fX p g k)
  | 0 => by cases b <;> rfl
  | k + 1 => by
    have ih := cN_odd p g b k
    rw [fX_succ]
    unfold cN
    cases hb : (p k && g k)
    · simpa using ih
    · have h2 := Nat.mod_two_eq_zero_or_one (b.toNat + cN p g k)
      rw [if_pos rfl, ← Nat.add_assoc]
      rcases h2 with h | h
      · rw [h] at ih
        rw [Nat.add_mod, h]
        revert ih
        cases b <;> cases fX p g k <;> decide
      · rw [h] at ih
        rw [Nat.add_mod, h]
        revert ih
        cases b <;> cases fX p g k <;> decide
theorem ints_of (f : Nat → Int) (N lf m a ca b cb : Nat) (hN : N ≤ 64) (hlf : 300 ≤ lf) (h : Hp) (A : ArI a N f h) (B : ArI b N f h) : Ev lf (m + 1) 28 [.slice (some ⟨a, 0, none⟩) N ca, .slice (some ⟨b, 0, none⟩) N cb] h = some (.bool true, h) := by
  refine fn_eq ?_
  refine ok_go 3 ?_
  refine sy_no 0 (b := Int.ofNat N != Int.ofNat N) (by kernel_rfl) (ne_no rfl) ?_
  refine ok_go 0 ?_
  refine sy_loop 0 lf h (α := Nat) (fun s => [(0, .slice (some ⟨a, 0, none⟩) N ca), (1, .slice (some ⟨b, 0, none⟩) N cb), (5, J s)]) (fun s g => s ≤ N ∧ g = h) (fun s _ => N - s) 0 (by kernel_rfl) (by kernel_rfl) ⟨by kernel_rfl, by kernel_rfl, by kernel_rfl, trivial⟩ (show N - 0 < lf by omega) ⟨Nat.zero_le _, rfl⟩ ?_
  rintro m1 k f1 g ⟨hk, rfl⟩ ih
  refine ok_go 2 ?_
  refine sy_test 0 (decide (Int.ofNat k < Int.ofNat N)) (by kernel_rfl) ?_ ?_
  · intro hlt
    have hlt := ok_nat hlt
    refine ok_go 0 ?_
    refine sy_load 0 (r := indexAddrOp Try.prog 50 (.slice (some ⟨a, 0, none⟩) N ca) (J k)) (h' := g) (by kernel_rfl) (idxI hlt) ?_
    refine ok_go 0 ?_
    refine sy_load 0 (r := loadT Try.prog g 3 (ptr a k)) (h' := g) (by kernel_rfl) (A.read hlt) ?_
    refine ok_go 0 ?_
    refine sy_load 0 (r := indexAddrOp Try.prog 50 (.slice (some ⟨b, 0, none⟩) N cb) (J k)) (h' := g) (by kernel_rfl) (idxI hlt) ?_
    refine ok_go 0 ?_
    refine sy_load 0 (r := loadT Try.prog g 3 (ptr b k)) (h' := g) (by kernel_rfl) (B.read hlt) ?_
    refine ok_go 1 ?_
    refine sy_no 0 (b := f k != f k) (by kernel_rfl) (by simp) ?_
    refine ok_go 1 ?_
    exact sy_next 0 _ g (by kernel_rfl) (by kernel_rfl) (ih (k + 1) _ g ⟨hlt, rfl⟩ (show N - (k + 1) < N - k by omega) ⟨by kernel_rfl, by kernel_rfl, (by kernel_rfl : _ = Value.int .i64 (IntKind.wrap .i64 (Int.ofNat (k + 1)))).trans (by rw [wrap_nat (by omega)]), trivial⟩)
  · intro _
    refine ok_go 0 ?_
    exact sy_done 0 (v := .bool true) (h := g) (by kernel_rfl) ⟨rfl, rfl⟩
/-- The reference's lower functions. -/
structure RLow (lf m : Nat) : Prop where
  hlf : 300 ≤ lf
  va : ∀ b h, Ev lf m 70 [.bool b] h = some (I (if b = true then 1 else 0), h)
  on : ∀ z h, z < 64 → Ev lf m 71 [J z] h = some (J (pop z), h)
theorem and_sub {k i : Nat} (hk : k < 2 ^ 63) : (andI (Int.ofNat k) (Int.ofNat i) == Int.ofNat k) = sub k i := by
  rw [and_nat hk]
  unfold sub
  by_cases h : k &&& i = k
  · rw [h]; simp
  · rw [beq_eq_false_iff_ne.2 h, beq_eq_false_iff_ne.2 (fun hc => h (Int.ofNat.inj hc))]
theorem rrem_of (f : Nat → Bool) (n lf m : Nat) (hn : n ≤ 6) (L : RLow lf m) (b0 c : Nat) (h : Hp) (A : ArB b0 (2 ^ n) f h) :
    ∃ x h', Ev lf (m + 1) 27 [.slice (some ⟨b0, 0, none⟩) (2 ^ n) c] h = some (x, h') ∧ ∃ b, x = .slice (some ⟨b, 0, none⟩) (2 ^ n) (2 * 2 ^ n) ∧ h.next ≤ b ∧ h.Ext h' ∧ ArB b (2 ^ n) (trn (up fun a b => a != b) n f) h' := by
  have hp64 : 2 ^ n ≤ 64 := Nat.pow_le_pow_right (n := 2) (by decide) hn
  have hlf := L.hlf
  have law := fun m (hm : m < 2 ^ n) => rem_X f hm
  refine fnS_ok (Q := fun x h' => ∃ b, x = .slice (some ⟨b, 0, none⟩) (2 ^ n) (2 * 2 ^ n) ∧ h.next ≤ b ∧ h.Ext h' ∧ ArB b (2 ^ n) (trn (up fun a b => a != b) n f) h') ?_
  generalize trn (up fun a b => a != b) n f = v at *
  generalize hN : 2 ^ n = N at *
  refine ok_go 1 ?_
  refine sy_call 0 (r := makeSliceOp Try.prog h 27 (J N) (J N)) (v := .slice (some ⟨h.next, 0, none⟩) N (2 * N)) (h' := h.new (.cells (zeros [.bool false] N) 4 false)) (by kernel_rfl) (makeSl (z := .bool false) (inf := (Try.prog.info? 4).get!) uB (by kernel_rfl) (by kernel_rfl) (by kernel_rfl) (by kernel_rfl) (by kernel_rfl) (by omega)) ?_
  have B0 : ArB h.next N (fun _ => false) (h.new (.cells (zeros [.bool false] N) 4 false)) := ⟨Nat.lt_succ_self _, false, by rw [zeros_one]; exact get_new _ _⟩
  have X0 : h.Ext (h.new (.cells (zeros [.bool false] N) 4 false)) := Hp.Ext.new _ _
  generalize hh0 : h.new (.cells (zeros [.bool false] N) 4 false) = h0 at B0 X0
  clear hh0
  refine ok_go 0 ?_
  refine sy_loop 0 lf h0 (α := Nat) (fun s => [(0, .slice (some ⟨b0, 0, none⟩) N c), (3, .slice (some ⟨h.next, 0, none⟩) N (2 * N)), (4, J s)]) (fun s g => s ≤ N ∧ h.Ext g ∧ ArB h.next N (fun k => if k < s then v k else false) g) (fun s _ => N - s) 0 (by kernel_rfl) (by kernel_rfl) ⟨by kernel_rfl, by kernel_rfl, by kernel_rfl, trivial⟩ (show N - 0 < lf by omega) ⟨Nat.zero_le _, X0, B0⟩ ?_
  rintro m1 i f1 g ⟨hi, X, B⟩ ih
  refine ok_go 2 ?_
  refine sy_test 0 (decide (Int.ofNat i < Int.ofNat N)) (by kernel_rfl) ?_ ?_
  · intro hlt
    have hlt := ok_nat hlt
    have A' := A.ext X
    refine ok_go 0 ?_
    refine sy_load 0 (r := indexAddrOp Try.prog 27 (.slice (some ⟨b0, 0, none⟩) N c) (J i)) (h' := g) (by kernel_rfl) (idxB hlt) ?_
    refine ok_go 0 ?_
    refine sy_load 0 (r := loadT Try.prog g 4 (ptr b0 i)) (h' := g) (by kernel_rfl) (A'.read hlt) ?_
    refine ok_go 0 ?_
    refine sy_call 0 (by kernel_rfl) (L.va (f i) g) ?_
    refine ok_go 0 ?_
    refine sy_loop 0 lf g (α := Nat) (fun s => [(0, .slice (some ⟨b0, 0, none⟩) N c), (3, .slice (some ⟨h.next, 0, none⟩) N (2 * N)), (4, J i), (5, J ((f i).toNat + cN (fun k => sub k i) v s)), (6, J s)]) (fun s k => s ≤ i ∧ k = g) (fun s _ => i - s) 0 (by kernel_rfl) (by kernel_rfl) ⟨by kernel_rfl, by kernel_rfl, by kernel_rfl, (by cases f i <;> kernel_rfl), by kernel_rfl, trivial⟩ (show i - 0 < lf by omega) ⟨Nat.zero_le _, rfl⟩ ?_
    rintro m2 k f2 g2 ⟨hk, rfl⟩ ih2
    have hc := cN_le (fun k => sub k i) v k
    have hb2 := Bool.toNat_le (f i)
    refine ok_go 1 ?_
    refine sy_test 0 (decide (Int.ofNat k < Int.ofNat i)) (by kernel_rfl) ?_ ?_
    · intro hki
      have hki := ok_nat hki
      refine ok_go 2 ?_
      refine sy_test 0 (andI (Int.ofNat k) (Int.ofNat i) == Int.ofNat k) (by kernel_rfl) ?_ ?_
      · intro hs
        rw [and_sub (by omega)] at hs
        refine ok_go 0 ?_
        refine sy_load 0 (r := indexAddrOp Try.prog 27 (.slice (some ⟨h.next, 0, none⟩) N (2 * N)) (J k)) (h' := g2) (by kernel_rfl) (idxB (by omega)) ?_
        refine ok_go 0 ?_
        refine sy_load 0 (r := loadT Try.prog g2 4 (ptr h.next k)) (h' := g2) (by kernel_rfl) (B.read (by omega)) ?_
        refine ok_go 0 ?_
        refine sy_call 0 (by kernel_rfl) (L.va (if k < i then v k else false) g2) ?_
        refine ok_go 2 ?_
        exact sy_next 0 _ g2 (by kernel_rfl) (by kernel_rfl) (ih2 (k + 1) _ g2 ⟨hki, rfl⟩ (show i - (k + 1) < i - k by omega) ⟨by kernel_rfl, by kernel_rfl, by kernel_rfl, (by kernel_rfl : _ = I (IntKind.wrap .i64 (Int.ofNat ((f i).toNat + cN (fun k => sub k i) v k) + (if (if k < i then v k else false) = true then 1 else 0)))).trans (by
          rw [if_pos hki]
          show _ = J ((f i).toNat + (cN (fun k => sub k i) v k + (if (sub k i && v k) = true then 1 else 0)))
          rw [hs]
          cases v k
          · exact congrArg I (wrap_nat (n := (f i).toNat + cN (fun k => sub k i) v k) (by omega))
          · exact congrArg I (wrap_nat (n := (f i).toNat + cN (fun k => sub k i) v k + 1) (by omega))), (by kernel_rfl : _ = Value.int .i64 (IntKind.wrap .i64 (Int.ofNat (k + 1)))).trans (by rw [wrap_nat (by omega)]), trivial⟩)
      · intro hs
        rw [and_sub (by omega)] at hs
        refine ok_go 1 ?_
        exact sy_next 0 _ g2 (by kernel_rfl) (by kernel_rfl) (ih2 (k + 1) _ g2 ⟨hki, rfl⟩ (show i - (k + 1) < i - k by omega) ⟨by kernel_rfl, by kernel_rfl, by kernel_rfl, (by kernel_rfl : _ = J ((f i).toNat + cN (fun k => sub k i) v k)).trans (by
          show _ = J ((f i).toNat + (cN (fun k => sub k i) v k + (if (sub k i && v k) = true then 1 else 0)))
          rw [hs]
          rfl), (by kernel_rfl : _ = Value.int .i64 (IntKind.wrap .i64 (Int.ofNat (k + 1)))).trans (by rw [wrap_nat (by omega)]), trivial⟩)
    · intro hki
      have hki := no_nat hki
      obtain rfl : k = i := by omega
      have hv : ((Int.ofNat ((f k).toNat + cN (fun j => sub j k) v k)).tmod 2 == 1) = v k := by
        rw [law k hlt, ← cN_odd]
        show (Int.ofNat (((f k).toNat + cN (fun j => sub j k) v k) % 2) == 1) = _
        rcases Nat.mod_two_eq_zero_or_one ((f k).toNat + cN (fun j => sub j k) v k) with h | h <;> rw [h] <;> rfl
      obtain ⟨g3, e3, B3, n3, o3⟩ := B.store hlt (v k)
      refine ok_go 2 ?_
      refine sy_load 0 (r := indexAddrOp Try.prog 27 (.slice (some ⟨h.next, 0, none⟩) N (2 * N)) (J k)) (h' := g2) (by kernel_rfl) (idxB hlt) ?_
      refine ok_go 0 ?_
      refine sy_store 0 (r := storeT Try.prog g2 4 (ptr h.next k) (.bool ((Int.ofNat ((f k).toNat + cN (fun j => sub j k) v k)).tmod 2 == 1))) (by kernel_rfl) (by rw [hv]; exact e3) ?_
      refine ok_go 1 ?_
      exact sy_next 0 _ g3 (by kernel_rfl) (by kernel_rfl) (ih (k + 1) _ g3 ⟨hlt, ext_of X (Nat.le_refl _) n3 o3, B3.congr fun j hj => by
        by_cases h1 : j = k
        · rw [if_pos h1, if_pos (by omega), h1]
        · rw [if_neg h1]
          by_cases h2 : j < k
          · rw [if_pos h2, if_pos (by omega)]
          · rw [if_neg h2, if_neg (by omega)]⟩ (show N - (k + 1) < N - k by omega) ⟨by kernel_rfl, by kernel_rfl, (by kernel_rfl : _ = Value.int .i64 (IntKind.wrap .i64 (Int.ofNat (k + 1)))).trans (by rw [wrap_nat (by omega)]), trivial⟩)
  · intro hlt
    have hlt := no_nat hlt
    obtain rfl : N = i := by omega
    refine ok_go 0 ?_
    exact sy_done 0 (v := .slice (some ⟨h.next, 0, none⟩) N (2 * N)) (h := g) (by kernel_rfl) ⟨_, rfl, Nat.le_refl _, X, B.congr fun k hk => if_pos hk⟩
end Go.Proofs.Ytnfboopfpkaeaaa
namespace Go.Proofs.Ytnfboopfpkaeaaa
open Go Go.Eng Nim
set_option maxRecDepth 100000
set_option maxHeartbeats 4000000
theorem rreal_of (f : Nat → Bool) (n lf m : Nat) (hn : n ≤ 6) (L : RLow lf m) (b0 c : Nat) (h : Hp) (A : ArB b0 (2 ^ n) f h) :
    ∃ x h', Ev lf (m + 1) 29 [.slice (some ⟨b0, 0, none⟩) (2 ^ n) c] h = some (x, h') ∧ ∃ b, x = .slice (some ⟨b, 0, none⟩) (2 ^ n) (2 * 2 ^ n + 1) ∧ h.next ≤ b ∧ h.Ext h' ∧ ArI b (2 ^ n) (trn (up fun a b => b - a) n (num f)) h' := by
  have hp64 : 2 ^ n ≤ 64 := Nat.pow_le_pow_right (n := 2) (by decide) hn
  have hp1 : 1 ≤ 2 ^ n := Nat.one_le_two_pow
  have hlf := L.hlf
  have hpc : ((2 : Int) ^ n) = ((2 ^ n : Nat) : Int) := by simp
  have law := fun m (hm : m < 2 ^ n) => real_I (num f) hm
  have hle := fun x => le_num f n x
  rw [hpc] at hle
  refine fnS_ok (Q := fun x h' => ∃ b, x = .slice (some ⟨b, 0, none⟩) (2 ^ n) (2 * 2 ^ n + 1) ∧ h.next ≤ b ∧ h.Ext h' ∧ ArI b (2 ^ n) (trn (up fun a b => b - a) n (num f)) h') ?_
  generalize trn (up fun a b : Int => b - a) n (num f) = v at *
  generalize hN : 2 ^ n = N at *
  have hv : ∀ k, k ≤ N → ∀ i, -((k * 64 : Nat) : Int) ≤ fI (fun j => sub j i) v k ∧ fI (fun j => sub j i) v k ≤ ((k * 64 : Nat) : Int) := fun k _ i => fI_bound k fun x _ => by have := hle x; omega
  refine ok_go 0 ?_
  refine sy_loop 0 lf h (α := Nat × Value) (fun s => [(0, .slice (some ⟨b0, 0, none⟩) N c), (3, s.2), (4, J s.1)]) (fun s g => s.1 ≤ N ∧ h.Ext g ∧ OpenSl g 3 s.2 (cellsF s.1 fun x => I (v x)) ∧ ∀ j, j < h.next → ∀ p q, s.2 ≠ .slice (some ⟨j, 0, none⟩) p q) (fun s _ => N - s.1) (0, .slice none 0 0) (by kernel_rfl) (by kernel_rfl) ⟨by kernel_rfl, by kernel_rfl, by kernel_rfl, trivial⟩ (show N - 0 < lf by omega) ⟨Nat.zero_le _, Hp.Ext.refl _, .inl ⟨rfl, rfl⟩, fun j _ p q hc => (by cases hc)⟩ ?_
  rintro m1 ⟨i, l⟩ f1 g ⟨hi, X, O, hne⟩ ih
  dsimp only at hi O hne
  refine ok_go 2 ?_
  refine sy_test 0 (decide (Int.ofNat i < Int.ofNat N)) (by kernel_rfl) ?_ ?_
  · intro hlt
    have hlt := ok_nat hlt
    have A' := A.ext X
    refine ok_go 0 ?_
    refine sy_load 0 (r := indexAddrOp Try.prog 27 (.slice (some ⟨b0, 0, none⟩) N c) (J i)) (h' := g) (by kernel_rfl) (idxB hlt) ?_
    refine ok_go 0 ?_
    refine sy_load 0 (r := loadT Try.prog g 4 (ptr b0 i)) (h' := g) (by kernel_rfl) (A'.read hlt) ?_
    refine ok_go 0 ?_
    refine sy_call 0 (by kernel_rfl) (L.va (f i) g) ?_
    refine ok_go 0 ?_
    refine sy_loop 0 lf g (α := Nat) (fun s => [(0, .slice (some ⟨b0, 0, none⟩) N c), (3, l), (4, J i), (5, I (num f i - fI (fun j => sub j i) v s)), (6, J s)]) (fun s k => s ≤ i ∧ k = g) (fun s _ => i - s) 0 (by kernel_rfl) (by kernel_rfl) ⟨by kernel_rfl, by kernel_rfl, by kernel_rfl, (by show _ = I (num f i - 0); rw [Int.sub_zero]; kernel_rfl), by kernel_rfl, trivial⟩ (show i - 0 < lf by omega) ⟨Nat.zero_le _, rfl⟩ ?_
    rintro m2 k f2 g2 ⟨hk, rfl⟩ ih2
    have hb := hv k (by omega) i
    have hn01 : 0 ≤ num f i ∧ num f i ≤ 1 := by unfold num; split <;> omega
    refine ok_go 1 ?_
    refine sy_test 0 (decide (Int.ofNat k < Int.ofNat i)) (by kernel_rfl) ?_ ?_
    · intro hki
      have hki := ok_nat hki
      refine ok_go 2 ?_
      refine sy_test 0 (andI (Int.ofNat k) (Int.ofNat i) == Int.ofNat k) (by kernel_rfl) ?_ ?_
      · intro hs
        rw [and_sub (by omega)] at hs
        obtain ⟨b, rfl, B⟩ := openI (by omega) O
        refine ok_go 0 ?_
        refine sy_load 0 (r := indexAddrOp Try.prog 50 (.slice (some ⟨b, 0, none⟩) i (2 * i + 1)) (J k)) (h' := g2) (by kernel_rfl) (idxI (by omega)) ?_
        refine ok_go 0 ?_
        refine sy_load 0 (r := loadT Try.prog g2 3 (ptr b k)) (h' := g2) (by kernel_rfl) (B.read (by omega)) ?_
        refine ok_go 2 ?_
        have hvk := hle k
        exact sy_next 0 _ g2 (by kernel_rfl) (by kernel_rfl) (ih2 (k + 1) _ g2 ⟨hki, rfl⟩ (show i - (k + 1) < i - k by omega) ⟨by kernel_rfl, by kernel_rfl, by kernel_rfl, (by kernel_rfl : _ = I (IntKind.wrap .i64 (num f i - fI (fun j => sub j i) v k - v k))).trans (by
          rw [fI_succ, if_pos hs, wrap_int (by omega) (by omega)]
          congr 1
          omega), (by kernel_rfl : _ = Value.int .i64 (IntKind.wrap .i64 (Int.ofNat (k + 1)))).trans (by rw [wrap_nat (by omega)]), trivial⟩)
      · intro hs
        rw [and_sub (by omega)] at hs
        refine ok_go 1 ?_
        exact sy_next 0 _ g2 (by kernel_rfl) (by kernel_rfl) (ih2 (k + 1) _ g2 ⟨hki, rfl⟩ (show i - (k + 1) < i - k by omega) ⟨by kernel_rfl, by kernel_rfl, by kernel_rfl, (by kernel_rfl : _ = I (num f i - fI (fun j => sub j i) v k)).trans (by
          rw [fI_succ, hs, if_neg (by decide), Int.add_zero]), (by kernel_rfl : _ = Value.int .i64 (IntKind.wrap .i64 (Int.ofNat (k + 1)))).trans (by rw [wrap_nat (by omega)]), trivial⟩)
    · intro hki
      have hki := no_nat hki
      obtain rfl : k = i := by omega
      obtain ⟨l', g', e3, O', y1, y2, y3⟩ := append1 slI O (v := I (v k)) rfl (by rw [cellsF_len]; omega)
      have hxn := X.next
      refine ok_go 1 ?_
      refine sy_call 0 (r := appendOp Try.prog (g2.new (.cells [I (num f k - fI (fun j => sub j k) v k)] 3 false)) 50 l (.slice (some ⟨g2.next, 0, none⟩) 1 2)) (v := l') (h' := g') (by kernel_rfl) (by rw [← law k hlt]; exact e3) ?_
      refine ok_go 1 ?_
      exact sy_next 0 _ g' (by kernel_rfl) (by kernel_rfl) (ih (k + 1, l') _ g' ⟨hlt, ⟨by omega, fun j hj => (y2 j (by omega) (hne j hj)).trans (X.get j hj)⟩, by rw [cellsF_succ]; exact O', fun j hj => y3 j (by omega)⟩ (show N - (k + 1) < N - k by omega) ⟨by kernel_rfl, by kernel_rfl, (by kernel_rfl : _ = Value.int .i64 (IntKind.wrap .i64 (Int.ofNat (k + 1)))).trans (by rw [wrap_nat (by omega)]), trivial⟩)
  · intro hlt
    have hlt := no_nat hlt
    obtain rfl : N = i := by omega
    obtain ⟨b, rfl, B⟩ := openI hp1 O
    refine ok_go 0 ?_
    exact sy_done 0 (v := .slice (some ⟨b, 0, none⟩) N (2 * N + 1)) (h := g) (by kernel_rfl) ⟨b, rfl, Nat.le_of_not_lt fun hc => hne b hc _ _ rfl, X, B⟩
end Go.Proofs.Ytnfboopfpkaeaaa
namespace Go.Proofs.Ytnfboopfpkaeaaa
open Go Go.Eng Nim
set_option maxRecDepth 100000
set_option maxHeartbeats 4000000
/-- The highest number of bits of a mask below a number that has a number other than 0. -/
def dg (v : Nat → Int) : Nat → Nat
  | 0 => 0
  | k + 1 => if v k = 0 then dg v k else max (dg v k) (pop k)
theorem pop_le (z : Nat) : pop z ≤ 7 := by unfold pop; omega
theorem dg_le (v : Nat → Int) : ∀ k, dg v k ≤ 7
  | 0 => Nat.zero_le _
  | k + 1 => by
    have := dg_le v k
    have := pop_le k
    unfold dg
    split <;> omega
theorem max_nat (a b : Nat) : (if Int.ofNat b > Int.ofNat a then Int.ofNat b else Int.ofNat a) = Int.ofNat (max a b) := by
  show (if (b : Int) > (a : Int) then (b : Int) else (a : Int)) = ((max a b : Nat) : Int)
  split <;> omega
theorem rdeg_of (f : Nat → Bool) (n lf m : Nat) (hn : n ≤ 6) (L : RLow lf m) (b0 c : Nat) (h : Hp)
    (rl : ∃ x h', Ev lf m 29 [.slice (some ⟨b0, 0, none⟩) (2 ^ n) c] h = some (x, h') ∧ ∃ b, x = .slice (some ⟨b, 0, none⟩) (2 ^ n) (2 * 2 ^ n + 1) ∧ h.next ≤ b ∧ h.Ext h' ∧ ArI b (2 ^ n) (trn (up fun a b => b - a) n (num f)) h') :
    ∃ x h', Ev lf (m + 1) 30 [.slice (some ⟨b0, 0, none⟩) (2 ^ n) c] h = some (x, h') ∧ x = J (dg (trn (up fun a b => b - a) n (num f)) (2 ^ n)) ∧ h.Ext h' := by
  have hp64 : 2 ^ n ≤ 64 := Nat.pow_le_pow_right (n := 2) (by decide) hn
  have hlf := L.hlf
  obtain ⟨_, h1, e1, b, rfl, hb, X, A1⟩ := rl
  refine fnS_ok (Q := fun x h' => x = J (dg (trn (up fun a b => b - a) n (num f)) (2 ^ n)) ∧ h.Ext h') ?_
  generalize trn (up fun a b : Int => b - a) n (num f) = v at *
  generalize hN : 2 ^ n = N at *
  refine ok_go 0 ?_
  refine sy_call 0 (by kernel_rfl) e1 ?_
  refine ok_go 0 ?_
  refine sy_loop 0 lf h1 (α := Nat) (fun s => [(3, .slice (some ⟨b, 0, none⟩) N (2 * N + 1)), (4, J (dg v s)), (5, J s)]) (fun s g => s ≤ N ∧ g = h1) (fun s _ => N - s) 0 (by kernel_rfl) (by kernel_rfl) ⟨by kernel_rfl, by kernel_rfl, by kernel_rfl, trivial⟩ (show N - 0 < lf by omega) ⟨Nat.zero_le _, rfl⟩ ?_
  rintro m1 k f1 g ⟨hk, rfl⟩ ih
  refine ok_go 2 ?_
  refine sy_test 0 (decide (Int.ofNat k < Int.ofNat N)) (by kernel_rfl) ?_ ?_
  · intro hlt
    have hlt := ok_nat hlt
    refine ok_go 0 ?_
    refine sy_load 0 (r := indexAddrOp Try.prog 50 (.slice (some ⟨b, 0, none⟩) N (2 * N + 1)) (J k)) (h' := g) (by kernel_rfl) (idxI hlt) ?_
    refine ok_go 0 ?_
    refine sy_load 0 (r := loadT Try.prog g 3 (ptr b k)) (h' := g) (by kernel_rfl) (A1.read hlt) ?_
    refine ok_go 1 ?_
    refine sy_test 0 (v k != 0) (by kernel_rfl) ?_ ?_
    · intro h0
      have h0 : v k ≠ 0 := by simpa using h0
      refine ok_go 0 ?_
      refine sy_call 0 (by kernel_rfl) (L.on k g (by omega)) ?_
      refine ok_go 2 ?_
      exact sy_next 0 _ g (by kernel_rfl) (by kernel_rfl) (ih (k + 1) _ g ⟨hlt, rfl⟩ (show N - (k + 1) < N - k by omega) ⟨by kernel_rfl, (by kernel_rfl : _ = I (if Int.ofNat (pop k) > Int.ofNat (dg v k) then Int.ofNat (pop k) else Int.ofNat (dg v k))).trans (by unfold dg; rw [if_neg h0, max_nat]; cases k <;> rfl), (by kernel_rfl : _ = Value.int .i64 (IntKind.wrap .i64 (Int.ofNat (k + 1)))).trans (by rw [wrap_nat (by omega)]), trivial⟩)
    · intro h0
      have h0 : v k = 0 := by simpa using h0
      refine ok_go 1 ?_
      exact sy_next 0 _ g (by kernel_rfl) (by kernel_rfl) (ih (k + 1) _ g ⟨hlt, rfl⟩ (show N - (k + 1) < N - k by omega) ⟨by kernel_rfl, (by kernel_rfl : _ = J (dg v k)).trans (by unfold dg; rw [if_pos h0]; cases k <;> rfl), (by kernel_rfl : _ = Value.int .i64 (IntKind.wrap .i64 (Int.ofNat (k + 1)))).trans (by rw [wrap_nat (by omega)]), trivial⟩)
  · intro hlt
    have hlt := no_nat hlt
    obtain rfl : N = k := by omega
    refine ok_go 0 ?_
    exact sy_done 0 (v := J (dg v N)) (h := g) (by kernel_rfl) ⟨rfl, X⟩
theorem deg_of (f : Nat → Bool) (n lf m : Nat) (hn : n ≤ 6) (hlf : 300 ≤ lf) (ck : ∀ a c h, Ev lf m 54 [.slice a (2 ^ n) c] h = some (J 0, h)) (co : ∀ z h, z < 64 → Ev lf m 66 [J z] h = some (J (pop z), h)) (b0 c : Nat) (h : Hp)
    (rl : ∃ x h', Ev lf m 65 [.slice (some ⟨b0, 0, none⟩) (2 ^ n) c] h = some (x, h') ∧ ∃ b, x = .slice (some ⟨b, 0, none⟩) (2 ^ n) (2 * 2 ^ n + 1) ∧ h.next ≤ b ∧ h.Ext h' ∧ ArI b (2 ^ n) (trn (up fun a b => b - a) n (num f)) h') :
    ∃ x h', Ev lf (m + 1) 24 [.slice (some ⟨b0, 0, none⟩) (2 ^ n) c] h = some (x, h') ∧ x = .tuple #[J (dg (trn (up fun a b => b - a) n (num f)) (2 ^ n)), J 0] ∧ h.Ext h' := by
  have hp64 : 2 ^ n ≤ 64 := Nat.pow_le_pow_right (n := 2) (by decide) hn
  obtain ⟨_, h1, e1, b, rfl, hb, X, A1⟩ := rl
  have ck := ck (some ⟨b0, 0, none⟩) c h
  refine fnS_ok (Q := fun x h' => x = .tuple #[J (dg (trn (up fun a b => b - a) n (num f)) (2 ^ n)), J 0] ∧ h.Ext h') ?_
  generalize trn (up fun a b : Int => b - a) n (num f) = v at *
  generalize hN : 2 ^ n = N at *
  refine ok_go 0 ?_
  refine sy_call 0 (by kernel_rfl) ck ?_
  refine ok_go 2 ?_
  refine sy_call 0 (by kernel_rfl) e1 ?_
  refine ok_go 1 ?_
  refine sy_loop 0 lf h1 (α := Nat) (fun s => [(14, .slice (some ⟨b, 0, none⟩) N (2 * N + 1)), (15, J N), (5, J (dg v s)), (16, J s)]) (fun s g => s ≤ N ∧ g = h1) (fun s _ => N - s) 0 (by kernel_rfl) (by kernel_rfl) ⟨by kernel_rfl, by kernel_rfl, by kernel_rfl, by kernel_rfl, trivial⟩ (show N - 0 < lf by omega) ⟨Nat.zero_le _, rfl⟩ ?_
  rintro m1 k f1 g ⟨hk, rfl⟩ ih
  refine ok_go 1 ?_
  refine sy_test 0 (decide (Int.ofNat k < Int.ofNat N)) (by kernel_rfl) ?_ ?_
  · intro hlt
    have hlt := ok_nat hlt
    refine ok_go 0 ?_
    refine sy_load 0 (r := indexAddrOp Try.prog 50 (.slice (some ⟨b, 0, none⟩) N (2 * N + 1)) (J k)) (h' := g) (by kernel_rfl) (idxI hlt) ?_
    refine ok_go 0 ?_
    refine sy_load 0 (r := loadT Try.prog g 3 (ptr b k)) (h' := g) (by kernel_rfl) (A1.read hlt) ?_
    refine ok_go 1 ?_
    refine sy_test 0 (v k != 0) (by kernel_rfl) ?_ ?_
    · intro h0
      have h0 : v k ≠ 0 := by simpa using h0
      refine ok_go 0 ?_
      refine sy_call 0 (by kernel_rfl) (co k g (by omega)) ?_
      refine ok_go 2 ?_
      exact sy_next 0 _ g (by kernel_rfl) (by kernel_rfl) (ih (k + 1) _ g ⟨hlt, rfl⟩ (show N - (k + 1) < N - k by omega) ⟨by kernel_rfl, by kernel_rfl, (by kernel_rfl : _ = I (if Int.ofNat (pop k) > Int.ofNat (dg v k) then Int.ofNat (pop k) else Int.ofNat (dg v k))).trans (by unfold dg; rw [if_neg h0, max_nat]; cases k <;> rfl), (by kernel_rfl : _ = Value.int .i64 (IntKind.wrap .i64 (Int.ofNat (k + 1)))).trans (by rw [wrap_nat (by omega)]), trivial⟩)
    · intro h0
      have h0 : v k = 0 := by simpa using h0
      refine ok_go 1 ?_
      exact sy_next 0 _ g (by kernel_rfl) (by kernel_rfl) (ih (k + 1) _ g ⟨hlt, rfl⟩ (show N - (k + 1) < N - k by omega) ⟨by kernel_rfl, by kernel_rfl, (by kernel_rfl : _ = J (dg v k)).trans (by unfold dg; rw [if_pos h0]; cases k <;> rfl), (by kernel_rfl : _ = Value.int .i64 (IntKind.wrap .i64 (Int.ofNat (k + 1)))).trans (by rw [wrap_nat (by omega)]), trivial⟩)
  · intro hlt
    have hlt := no_nat hlt
    obtain rfl : N = k := by omega
    refine ok_go 0 ?_
    exact sy_done 0 (v := .tuple #[J (dg v N), J 0]) (h := g) (by kernel_rfl) ⟨rfl, X⟩
end Go.Proofs.Ytnfboopfpkaeaaa
namespace Go.Proofs.Ytnfboopfpkaeaaa
open Go Go.Eng Nim
set_option maxRecDepth 100000
set_option maxHeartbeats 4000000
/-- One term of the spectrum. -/
def tm (f : Nat → Bool) (i j : Nat) : Int := ch (i &&& j) * sgn f j
theorem tm_le (f : Nat → Bool) (i j : Nat) : -((1 : Nat) : Int) ≤ tm f i j ∧ tm f i j ≤ ((1 : Nat) : Int) := by
  unfold tm ch sgn
  split <;> split <;> decide
theorem tm_eq (b : Bool) (o : Nat) (ho : o ≤ 7) (s : Int) (h0 : -1000 ≤ s) (h1 : s ≤ 1000) :
    IntKind.wrap .i64 (IntKind.wrap .i64 (s + 1) - IntKind.wrap .i64 (2 * (IntKind.wrap .i64 ((if b = true then 1 else 0) + Int.ofNat o)).tmod 2)) = s + (if o % 2 = 1 then -1 else 1) * (if b = true then -1 else 1) := by
  have e : IntKind.wrap .i64 (2 * (IntKind.wrap .i64 ((if b = true then 1 else 0) + Int.ofNat o)).tmod 2) = 1 - (if o % 2 = 1 then -1 else 1) * (if b = true then -1 else 1) := by
    rcases (by omega : o = 0 ∨ o = 1 ∨ o = 2 ∨ o = 3 ∨ o = 4 ∨ o = 5 ∨ o = 6 ∨ o = 7) with rfl | rfl | rfl | rfl | rfl | rfl | rfl | rfl <;> cases b <;> rfl
  rw [e]
  have : ((if o % 2 = 1 then -1 else 1 : Int) * (if b = true then -1 else 1) = 1) ∨ ((if o % 2 = 1 then -1 else 1 : Int) * (if b = true then -1 else 1) = -1) := by
    split <;> split <;> decide
  rw [wrap_int (x := s + 1) (by omega) (by omega), wrap_int (by omega) (by omega)]
  omega
theorem rspec_of (f : Nat → Bool) (n lf m : Nat) (hn : n ≤ 6) (L : RLow lf m) (b0 c : Nat) (h : Hp) (A : ArB b0 (2 ^ n) f h) :
    ∃ x h', Ev lf (m + 1) 31 [.slice (some ⟨b0, 0, none⟩) (2 ^ n) c] h = some (x, h') ∧ ∃ b, x = .slice (some ⟨b, 0, none⟩) (2 ^ n) (2 * 2 ^ n + 1) ∧ h.next ≤ b ∧ h.Ext h' ∧ ArI b (2 ^ n) (trn wsh n (sgn f)) h' := by
  have hp64 : 2 ^ n ≤ 64 := Nat.pow_le_pow_right (n := 2) (by decide) hn
  have hp1 : 1 ≤ 2 ^ n := Nat.one_le_two_pow
  have hlf := L.hlf
  have law := fun m (hm : m < 2 ^ n) => walsh0 (sgn f) hn hm
  refine fnS_ok (Q := fun x h' => ∃ b, x = .slice (some ⟨b, 0, none⟩) (2 ^ n) (2 * 2 ^ n + 1) ∧ h.next ≤ b ∧ h.Ext h' ∧ ArI b (2 ^ n) (trn wsh n (sgn f)) h') ?_
  generalize trn wsh n (sgn f) = v at *
  have hlx : ∀ i x, i < 2 ^ n → i &&& x < 64 := fun i x hi => Nat.lt_of_le_of_lt Nat.and_le_left (by omega)
  generalize hN : 2 ^ n = N at *
  refine ok_go 0 ?_
  refine sy_loop 0 lf h (α := Nat × Value) (fun s => [(0, .slice (some ⟨b0, 0, none⟩) N c), (3, s.2), (4, J s.1)]) (fun s g => s.1 ≤ N ∧ h.Ext g ∧ OpenSl g 3 s.2 (cellsF s.1 fun x => I (v x)) ∧ ∀ j, j < h.next → ∀ p q, s.2 ≠ .slice (some ⟨j, 0, none⟩) p q) (fun s _ => N - s.1) (0, .slice none 0 0) (by kernel_rfl) (by kernel_rfl) ⟨by kernel_rfl, by kernel_rfl, by kernel_rfl, trivial⟩ (show N - 0 < lf by omega) ⟨Nat.zero_le _, Hp.Ext.refl _, .inl ⟨rfl, rfl⟩, fun j _ p q hc => (by cases hc)⟩ ?_
  rintro m1 ⟨i, l⟩ f1 g ⟨hi, X, O, hne⟩ ih
  dsimp only at hi O hne
  refine ok_go 2 ?_
  refine sy_test 0 (decide (Int.ofNat i < Int.ofNat N)) (by kernel_rfl) ?_ ?_
  · intro hlt
    have hlt := ok_nat hlt
    have A' := A.ext X
    refine ok_go 0 ?_
    refine sy_loop 0 lf g (α := Nat) (fun s => [(0, .slice (some ⟨b0, 0, none⟩) N c), (3, l), (4, J i), (5, I (fI (fun _ => true) (tm f i) s)), (6, J s)]) (fun s k => s ≤ N ∧ k = g) (fun s _ => N - s) 0 (by kernel_rfl) (by kernel_rfl) ⟨by kernel_rfl, by kernel_rfl, by kernel_rfl, by kernel_rfl, by kernel_rfl, trivial⟩ (show N - 0 < lf by omega) ⟨Nat.zero_le _, rfl⟩ ?_
    rintro m2 k f2 g2 ⟨hk, rfl⟩ ih2
    have hb := fI_bound (p := fun _ => true) (B := 1) k fun x _ => tm_le f i x
    refine ok_go 2 ?_
    refine sy_test 0 (decide (Int.ofNat k < Int.ofNat N)) (by kernel_rfl) ?_ ?_
    · intro hki
      have hki := ok_nat hki
      have hand : andI (Int.ofNat i) (Int.ofNat k) = Int.ofNat (i &&& k) := and_nat (by omega)
      refine ok_go 1 ?_
      refine sy_load 0 (r := indexAddrOp Try.prog 27 (.slice (some ⟨b0, 0, none⟩) N c) (J k)) (h' := g2) (by kernel_rfl) (idxB hki) ?_
      refine ok_go 0 ?_
      refine sy_load 0 (r := loadT Try.prog g2 4 (ptr b0 k)) (h' := g2) (by kernel_rfl) (A'.read hki) ?_
      refine ok_go 0 ?_
      refine sy_call 0 (by kernel_rfl) (L.va (f k) g2) ?_
      refine ok_go 1 ?_
      refine sy_call 0 (r := Ev lf m 71 [.int .i64 (andI (Int.ofNat i) (Int.ofNat k))] g2) (v := J (pop (i &&& k))) (h' := g2) (by kernel_rfl) (by rw [hand]; exact L.on _ g2 (hlx i k hlt)) ?_
      refine ok_go 5 ?_
      exact sy_next 0 _ g2 (by kernel_rfl) (by kernel_rfl) (ih2 (k + 1) _ g2 ⟨hki, rfl⟩ (show N - (k + 1) < N - k by omega) ⟨by kernel_rfl, by kernel_rfl, by kernel_rfl, (by kernel_rfl : _ = I (IntKind.wrap .i64 (IntKind.wrap .i64 (fI (fun _ => true) (tm f i) k + 1) - IntKind.wrap .i64 (2 * (IntKind.wrap .i64 ((if f k = true then 1 else 0) + Int.ofNat (pop (i &&& k)))).tmod 2)))).trans (by
          rw [tm_eq _ _ (pop_le _) _ (by omega) (by omega), fI_succ]
          rfl), (by kernel_rfl : _ = Value.int .i64 (IntKind.wrap .i64 (Int.ofNat (k + 1)))).trans (by rw [wrap_nat (by omega)]), trivial⟩)
    · intro hki
      have hki := no_nat hki
      obtain rfl : N = k := by omega
      obtain ⟨l', g', e3, O', y1, y2, y3⟩ := append1 slI O (v := I (v i)) rfl (by rw [cellsF_len]; omega)
      have hxn := X.next
      refine ok_go 1 ?_
      refine sy_call 0 (r := appendOp Try.prog (g2.new (.cells [I (fI (fun _ => true) (tm f i) N)] 3 false)) 50 l (.slice (some ⟨g2.next, 0, none⟩) 1 2)) (v := l') (h' := g') (by kernel_rfl) (by rw [show fI (fun _ => true) (tm f i) N = v i from (law i hlt).symm]; exact e3) ?_
      refine ok_go 1 ?_
      exact sy_next 0 _ g' (by kernel_rfl) (by kernel_rfl) (ih (i + 1, l') _ g' ⟨hlt, ⟨by omega, fun j hj => (y2 j (by omega) (hne j hj)).trans (X.get j hj)⟩, by rw [cellsF_succ]; exact O', fun j hj => y3 j (by omega)⟩ (show N - (i + 1) < N - i by omega) ⟨by kernel_rfl, by kernel_rfl, (by kernel_rfl : _ = Value.int .i64 (IntKind.wrap .i64 (Int.ofNat (i + 1)))).trans (by rw [wrap_nat (by omega)]), trivial⟩)
  · intro hlt
    have hlt := no_nat hlt
    obtain rfl : N = i := by omega
    obtain ⟨b, rfl, B⟩ := openI hp1 O
    refine ok_go 0 ?_
    exact sy_done 0 (v := .slice (some ⟨b, 0, none⟩) N (2 * N + 1)) (h := g) (by kernel_rfl) ⟨b, rfl, Nat.le_of_not_lt fun hc => hne b hc _ _ rfl, X, B⟩
end Go.Proofs.Ytnfboopfpkaeaaa
/- RefB: contracts of functions. -/
namespace Go.Proofs.Ytnfboopfpkaeaaa
open Go Go.Eng Nim
set_option maxRecDepth 100000
set_option maxHeartbeats 4000000
/-- The sums of a list of numbers. -/
abbrev tv (n : Nat) (v : Nat → Int) : Nat → Int := trn (up fun a b => b + a) n v
/-- A list of numbers within a bound that is a real form. -/
def Form (B : Int) (n : Nat) (v : Nat → Int) : Prop := (∀ x, x < 2 ^ n → tv n v x = 0 ∨ tv n v x = 1) ∧ ∀ k, k < 2 ^ n → -B ≤ v k ∧ v k ≤ B
theorem rfrom_of (v : Nat → Int) (n lf m : Nat) (hn : n ≤ 6) (hlf : 300 ≤ lf) (b0 c : Nat) (h : Hp) (A : ArI b0 (2 ^ n) v h) :
    ∃ x h', Ev lf (m + 1) 34 [.slice (some ⟨b0, 0, none⟩) (2 ^ n) c] h = some (x, h') ∧ h.Ext h' ∧ ((¬ Form 1000 n v ∧ x = .tuple #[.slice none 0 0, .bool false]) ∨ (Form 1000 n v ∧ ∃ b, x = .tuple #[.slice (some ⟨b, 0, none⟩) (2 ^ n) (2 * 2 ^ n + 1), .bool true] ∧ h.next ≤ b ∧ ArB b (2 ^ n) (fun x => tv n v x == 1) h')) := by
  have hp64 : 2 ^ n ≤ 64 := Nat.pow_le_pow_right (n := 2) (by decide) hn
  have hp1 : 1 ≤ 2 ^ n := Nat.one_le_two_pow
  have law := fun m (hm : m < 2 ^ n) => value_I v hm
  refine fnS_ok (Q := fun x h' => h.Ext h' ∧ ((¬ Form 1000 n v ∧ x = .tuple #[.slice none 0 0, .bool false]) ∨ (Form 1000 n v ∧ ∃ b, x = .tuple #[.slice (some ⟨b, 0, none⟩) (2 ^ n) (2 * 2 ^ n + 1), .bool true] ∧ h.next ≤ b ∧ ArB b (2 ^ n) (fun x => tv n v x == 1) h'))) ?_
  unfold Form
  unfold tv
  generalize trn (up fun a b : Int => b + a) n v = u at *
  generalize hN : 2 ^ n = N at *
  refine ok_go 0 ?_
  refine sy_loop 0 lf h (α := Nat × Value) (fun s => [(0, .slice (some ⟨b0, 0, none⟩) N c), (4, s.2), (5, J s.1)]) (fun s g => s.1 ≤ N ∧ h.Ext g ∧ OpenSl g 4 s.2 (cellsF s.1 fun x => Value.bool (u x == 1)) ∧ (∀ j, j < h.next → ∀ p q, s.2 ≠ .slice (some ⟨j, 0, none⟩) p q) ∧ (∀ x, x < s.1 → u x = 0 ∨ u x = 1) ∧ ∀ k, k < s.1 → -1000 ≤ v k ∧ v k ≤ 1000) (fun s _ => N - s.1) (0, .slice none 0 0) (by kernel_rfl) (by kernel_rfl) ⟨by kernel_rfl, by kernel_rfl, by kernel_rfl, trivial⟩ (show N - 0 < lf by omega) ⟨Nat.zero_le _, Hp.Ext.refl _, .inl ⟨rfl, rfl⟩, fun j _ p q hc => (by cases hc), fun x hx => absurd hx (Nat.not_lt_zero x), fun x hx => absurd hx (Nat.not_lt_zero x)⟩ ?_
  rintro m1 ⟨i, l⟩ f1 g ⟨hi, X, O, hne, hu, hv⟩ ih
  dsimp only at hi O hne hu hv
  refine ok_go 2 ?_
  refine sy_test 0 (decide (Int.ofNat i < Int.ofNat N)) (by kernel_rfl) ?_ ?_
  · intro hlt
    have hlt := ok_nat hlt
    have A' := A.ext X
    refine ok_go 0 ?_
    refine sy_loop 0 lf g (α := Nat) (fun s => [(0, .slice (some ⟨b0, 0, none⟩) N c), (4, l), (5, J i), (6, I (fI (fun j => sub j i) v s)), (7, J s)]) (fun s k => s ≤ i + 1 ∧ k = g ∧ (-((s * 1000 : Nat) : Int) ≤ fI (fun j => sub j i) v s ∧ fI (fun j => sub j i) v s ≤ ((s * 1000 : Nat) : Int)) ∧ (i < s → -1000 ≤ v i ∧ v i ≤ 1000)) (fun s _ => i + 1 - s) 0 (by kernel_rfl) (by kernel_rfl) ⟨by kernel_rfl, by kernel_rfl, by kernel_rfl, by kernel_rfl, by kernel_rfl, trivial⟩ (show i + 1 - 0 < lf by omega) ⟨Nat.zero_le _, rfl, by simp [fI, fs], fun hc => absurd hc (Nat.not_lt_zero i)⟩ ?_
    rintro m2 k f2 g2 ⟨hk, rfl, hb, hvi⟩ ih2
    refine ok_go 1 ?_
    refine sy_test 0 (decide (Int.ofNat k ≤ Int.ofNat i)) (by kernel_rfl) ?_ ?_
    · intro hki
      have hki : k ≤ i := by have := of_decide_eq_true hki; simpa using this
      refine ok_go 2 ?_
      refine sy_test 0 (andI (Int.ofNat k) (Int.ofNat i) != Int.ofNat k) (by kernel_rfl) ?_ ?_
      · intro hs
        have hs : sub k i = false := by
          rw [← and_sub (by omega)]
          simpa [bne] using hs
        have hne : i ≠ k := fun hc => by rw [hc, sub_self] at hs; cases hs
        refine ok_go 1 ?_
        exact sy_next 0 _ g2 (by kernel_rfl) (by kernel_rfl) (ih2 (k + 1) _ g2 ⟨by omega, rfl, by rw [fI_succ, hs, if_neg (by decide), Int.add_zero]; omega, fun hc => hvi (by omega)⟩ (show i + 1 - (k + 1) < i + 1 - k by omega) ⟨by kernel_rfl, by kernel_rfl, by kernel_rfl, (by kernel_rfl : _ = I (fI (fun j => sub j i) v k)).trans (by
          rw [fI_succ, hs, if_neg (by decide), Int.add_zero]), (by kernel_rfl : _ = Value.int .i64 (IntKind.wrap .i64 (Int.ofNat (k + 1)))).trans (by rw [wrap_nat (by omega)]), trivial⟩)
      · intro hs
        have hs : sub k i = true := by
          rw [← and_sub (by omega)]
          simpa [bne] using hs
        refine ok_go 0 ?_
        refine sy_load 0 (r := indexAddrOp Try.prog 50 (.slice (some ⟨b0, 0, none⟩) N c) (J k)) (h' := g2) (by kernel_rfl) (idxI (by omega)) ?_
        refine ok_go 0 ?_
        refine sy_load 0 (r := loadT Try.prog g2 3 (ptr b0 k)) (h' := g2) (by kernel_rfl) (A'.read (by omega)) ?_
        refine ok_go 1 ?_
        have bad : (v k < -1000 ∨ v k > 1000) → h.Ext g2 ∧ ((¬ ((∀ x, x < N → u x = 0 ∨ u x = 1) ∧ ∀ k, k < N → -1000 ≤ v k ∧ v k ≤ 1000) ∧ (Value.tuple #[.slice none 0 0, .bool false]) = .tuple #[.slice none 0 0, .bool false]) ∨ (((∀ x, x < N → u x = 0 ∨ u x = 1) ∧ ∀ k, k < N → -1000 ≤ v k ∧ v k ≤ 1000) ∧ ∃ b, (Value.tuple #[.slice none 0 0, .bool false]) = .tuple #[.slice (some ⟨b, 0, none⟩) N (2 * N + 1), .bool true] ∧ h.next ≤ b ∧ ArB b N (fun x => u x == 1) g2)) :=
          fun hc => ⟨X, .inl ⟨fun hf => by have := hf.2 k (by omega); omega, rfl⟩⟩
        refine sy_test 0 (decide (v k < -1000)) (by kernel_rfl) ?_ ?_
        · intro h1
          have h1 : v k < -1000 := by simpa using h1
          refine ok_go 6 ?_
          exact sy_done 0 (v := .tuple #[.slice none 0 0, .bool false]) (h := g2) (by kernel_rfl) (bad (.inl h1))
        · intro h1
          have h1 : ¬ v k < -1000 := by simpa using h1
          refine ok_go 2 ?_
          refine sy_load 0 (r := indexAddrOp Try.prog 50 (.slice (some ⟨b0, 0, none⟩) N c) (J k)) (h' := g2) (by kernel_rfl) (idxI (by omega)) ?_
          refine ok_go 1 ?_
          refine sy_load 0 (r := loadT Try.prog g2 3 (ptr b0 k)) (h' := g2) (by kernel_rfl) (A'.read (by omega)) ?_
          refine ok_go 3 ?_
          refine sy_test 0 (decide (v k > 1000)) (by kernel_rfl) ?_ ?_
          · intro h2
            have h2 : v k > 1000 := by simpa using h2
            refine ok_go 0 ?_
            exact sy_done 0 (v := .tuple #[.slice none 0 0, .bool false]) (h := g2) (by kernel_rfl) (bad (.inr h2))
          · intro h2
            have h2 : ¬ v k > 1000 := by simpa using h2
            refine ok_go 0 ?_
            refine sy_load 0 (r := indexAddrOp Try.prog 50 (.slice (some ⟨b0, 0, none⟩) N c) (J k)) (h' := g2) (by kernel_rfl) (idxI (by omega)) ?_
            refine ok_go 0 ?_
            refine sy_load 0 (r := loadT Try.prog g2 3 (ptr b0 k)) (h' := g2) (by kernel_rfl) (A'.read (by omega)) ?_
            refine ok_go 2 ?_
            exact sy_next 0 _ g2 (by kernel_rfl) (by kernel_rfl) (ih2 (k + 1) _ g2 ⟨by omega, rfl, by rw [fI_succ, if_pos hs]; omega, fun hc => by
              obtain rfl | hlt : i = k ∨ i < k := by omega
              · omega
              · exact hvi hlt⟩ (show i + 1 - (k + 1) < i + 1 - k by omega) ⟨by kernel_rfl, by kernel_rfl, by kernel_rfl, (by kernel_rfl : _ = I (IntKind.wrap .i64 (fI (fun j => sub j i) v k + v k))).trans (by
              rw [fI_succ, if_pos hs, wrap_int (by omega) (by omega)]), (by kernel_rfl : _ = Value.int .i64 (IntKind.wrap .i64 (Int.ofNat (k + 1)))).trans (by rw [wrap_nat (by omega)]), trivial⟩)
    · intro hki
      have hki : i < k := by have := of_decide_eq_false hki; simp at this; omega
      obtain rfl : k = i + 1 := by omega
      have hl := law i hlt
      have hvi := hvi (by omega)
      have go : (u i = 0 ∨ u i = 1) → ∃ l' g', appendOp Try.prog (g2.new (.cells [Value.bool (fI (fun j => sub j i) v (i + 1) == 1)] 4 false)) 27 l (.slice (some ⟨g2.next, 0, none⟩) 1 2) = some (l', g') ∧ i + 1 ≤ N ∧ h.Ext g' ∧ OpenSl g' 4 l' (cellsF (i + 1) fun x => Value.bool (u x == 1)) ∧ (∀ j, j < h.next → ∀ p q, l' ≠ .slice (some ⟨j, 0, none⟩) p q) ∧ (∀ x, x < i + 1 → u x = 0 ∨ u x = 1) ∧ ∀ k, k < i + 1 → -1000 ≤ v k ∧ v k ≤ 1000 := by
        intro hui
        obtain ⟨l', g', e3, O', y1, y2, y3⟩ := append1 slB O (v := .bool (u i == 1)) rfl (by rw [cellsF_len]; omega)
        have hxn := X.next
        refine ⟨l', g', by rw [← hl]; exact e3, hlt, ⟨by omega, fun j hj => (y2 j (by omega) (hne j hj)).trans (X.get j hj)⟩, by rw [cellsF_succ]; exact O', fun j hj => y3 j (by omega), fun x hx => ?_, fun x hx => ?_⟩
        · obtain rfl | hx : x = i ∨ x < i := by omega
          · exact hui
          · exact hu x hx
        · obtain rfl | hx : x = i ∨ x < i := by omega
          · exact hvi
          · exact hv x hx
      rw [← hl] at *
      refine ok_go 1 ?_
      refine sy_test 0 (u i != 0) (by kernel_rfl) ?_ ?_
      · intro h0
        have h0 : u i ≠ 0 := by simpa using h0
        refine ok_go 3 ?_
        refine sy_test 0 (u i != 1) (by kernel_rfl) ?_ ?_
        · intro h1
          have h1 : u i ≠ 1 := by simpa using h1
          refine ok_go 0 ?_
          exact sy_done 0 (v := .tuple #[.slice none 0 0, .bool false]) (h := g2) (by kernel_rfl) ⟨X, .inl ⟨fun hf => by have := hf.1 i hlt; omega, rfl⟩⟩
        · intro h1
          have h1 : u i = 1 := by simpa using h1
          obtain ⟨l', g', e3, P'⟩ := go (.inr h1)
          refine ok_go 2 ?_
          refine sy_call 0 (r := appendOp Try.prog (g2.new (.cells [Value.bool (u i == 1)] 4 false)) 27 l (.slice (some ⟨g2.next, 0, none⟩) 1 2)) (v := l') (h' := g') (by kernel_rfl) e3 ?_
          refine ok_go 1 ?_
          exact sy_next 0 _ g' (by kernel_rfl) (by kernel_rfl) (ih (i + 1, l') _ g' P' (show N - (i + 1) < N - i by omega) ⟨by kernel_rfl, by kernel_rfl, (by kernel_rfl : _ = Value.int .i64 (IntKind.wrap .i64 (Int.ofNat (i + 1)))).trans (by rw [wrap_nat (by omega)]), trivial⟩)
      · intro h1
        have h1 : u i = 0 := by simpa using h1
        obtain ⟨l', g', e3, P'⟩ := go (.inl h1)
        refine ok_go 5 ?_
        refine sy_call 0 (r := appendOp Try.prog (g2.new (.cells [Value.bool (u i == 1)] 4 false)) 27 l (.slice (some ⟨g2.next, 0, none⟩) 1 2)) (v := l') (h' := g') (by kernel_rfl) e3 ?_
        refine ok_go 1 ?_
        exact sy_next 0 _ g' (by kernel_rfl) (by kernel_rfl) (ih (i + 1, l') _ g' P' (show N - (i + 1) < N - i by omega) ⟨by kernel_rfl, by kernel_rfl, (by kernel_rfl : _ = Value.int .i64 (IntKind.wrap .i64 (Int.ofNat (i + 1)))).trans (by rw [wrap_nat (by omega)]), trivial⟩)
  · intro hlt
    have hlt := no_nat hlt
    obtain rfl : N = i := by omega
    obtain ⟨b, rfl, B⟩ := openB hp1 O
    refine ok_go 0 ?_
    exact sy_done 0 (v := .tuple #[.slice (some ⟨b, 0, none⟩) N (2 * N + 1), .bool true]) (h := g) (by kernel_rfl) ⟨X, .inr ⟨⟨hu, hv⟩, b, rfl, Nat.le_of_not_lt fun hc => hne b hc _ _ rfl, B⟩⟩
end Go.Proofs.Ytnfboopfpkaeaaa
namespace Go.Proofs.Ytnfboopfpkaeaaa
open Go Go.Eng Nim
set_option maxRecDepth 100000
set_option maxHeartbeats 4000000
theorem trn_loc {α : Type} (s : α → α → α × α) {n : Nat} {f g : Nat → α} (h : ∀ x, x < 2 ^ n → f x = g x) : ∀ k, k ≤ n → ∀ x, x < 2 ^ n → trn s k f x = trn s k g x
  | 0, _, x, hx => h x hx
  | k + 1, hk, x, hx => by
    have ih := trn_loc s h k (by omega)
    have hf := flip_lt (i := k) (by omega) hx
    show stg s k (trn s k f) x = stg s k (trn s k g) x
    unfold stg
    rw [ih x hx, ih _ hf]
theorem form_iff (n : Nat) (hn : n ≤ 6) (v : Nat → Int) : Form 1000 n v ↔ Form ((2 ^ n : Nat) : Int) n v := by
  have hp64 : 2 ^ n ≤ 64 := Nat.pow_le_pow_right (n := 2) (by decide) hn
  have hpc : ((2 : Int) ^ n) = ((2 ^ n : Nat) : Int) := by simp
  constructor
  · rintro ⟨h1, h2⟩
    refine ⟨h1, fun k hk => ?_⟩
    have e := trn_loc (up fun a b : Int => b - a) (n := n) (f := tv n v) (g := num fun x => tv n v x == 1) (fun x hx => by
      show tv n v x = if (tv n v x == 1) = true then 1 else 0
      rcases h1 x hx with h | h <;> rw [h] <;> rfl) n (Nat.le_refl _) k hk
    rw [show trn (up fun a b : Int => b - a) n (tv n v) = v from reals_forth n v] at e
    have := le_num (fun x => tv n v x == 1) n k
    rw [hpc] at this
    omega
  · rintro ⟨h1, h2⟩
    exact ⟨h1, fun k hk => by have := h2 k hk; omega⟩
theorem far_gen (n : Nat) (hn : n ≤ 6) (v : Nat → Int) (hv : ∀ x, -64 ≤ v x ∧ v x ≤ 64) : ∀ i x, i ≤ n → Far (trn (up fun a b : Int => b + a) i v x) := by
  intro i x hi
  have h := trn_le (s := up fun a b => b + a) (B := 64) (fun a b B h1 h2 h3 h4 => ⟨⟨by simp only [up]; omega, by simp only [up]; omega⟩, by simp only [up]; omega, by simp only [up]; omega⟩) (l := v) hv i x
  have hp := pow64 hi hn
  unfold Far
  omega
theorem from_gen (v : Nat → Int) (n lf m : Nat) (L : Lower lf m n) (b0 c : Nat) (h : Hp) (A : ArI b0 (2 ^ n) v h) :
    ∃ x h', Ev lf (m + 1) 32 [.slice (some ⟨b0, 0, none⟩) (2 ^ n) c] h = some (x, h') ∧ h.Ext h' ∧ ((¬ Form ((2 ^ n : Nat) : Int) n v ∧ x = .tuple #[.slice none 0 0, I 1]) ∨ (Form ((2 ^ n : Nat) : Int) n v ∧ ∃ b, x = .tuple #[.slice (some ⟨b, 0, none⟩) (2 ^ n) (2 * 2 ^ n + 1), J 0] ∧ h.next ≤ b ∧ ArB b (2 ^ n) (fun x => tv n v x == 1) h')) := by
  have hp64 : 2 ^ n ≤ 64 := Nat.pow_le_pow_right (n := 2) (by decide) L.hn
  have hp1 : 1 ≤ 2 ^ n := Nat.one_le_two_pow
  have hlf := L.hlf
  have hn6 := L.hn
  have hmin := min_nat hn6
  have hsh := shl_nat hn6
  rw [hmin] at hsh
  obtain ⟨x1, h1, e1, b, rfl, hb, X1, A1⟩ := L.cI v b0 c h A
  have sz := L.sz h
  have turn : (∀ k, k < 2 ^ n → -((2 ^ n : Nat) : Int) ≤ v k ∧ v k ≤ ((2 ^ n : Nat) : Int)) → ∃ g2, Ev lf m 68 [.slice (some ⟨b, 0, none⟩) (2 ^ n) (2 * 2 ^ n + 1), .func (.func 73) #[] #[]] h1 = some (.tuple #[], g2) ∧ ArI b (2 ^ n) (tv n v) g2 ∧ h.Ext g2 := by
    intro hv
    have A1' : ArI b (2 ^ n) (fun x => if x < 2 ^ n then v x else 0) h1 := A1.congr fun x hx => (if_pos hx).symm
    obtain ⟨_, g2, e3, rfl, A3, n3, o3⟩ := L.tI 73 (up fun a b => b + a) Far (fun x => if x < 2 ^ n then v x else 0) (.inr (.inr rfl)) (far_gen n hn6 _ fun x => by
      split
      · rename_i hx; have := hv x hx; omega
      · omega) (fun hc => by cases hc) (fun hc => by cases hc) (fun _ => rfl) b (2 * 2 ^ n + 1) h1 A1'
    exact ⟨g2, e3, A3.congr fun x hx => trn_loc _ (fun y hy => if_pos hy) n (Nat.le_refl _) x hx, ext_of X1 hb n3 o3⟩
  refine fnS_ok (Q := fun x h' => h.Ext h' ∧ ((¬ Form ((2 ^ n : Nat) : Int) n v ∧ x = .tuple #[.slice none 0 0, I 1]) ∨ (Form ((2 ^ n : Nat) : Int) n v ∧ ∃ b, x = .tuple #[.slice (some ⟨b, 0, none⟩) (2 ^ n) (2 * 2 ^ n + 1), J 0] ∧ h.next ≤ b ∧ ArB b (2 ^ n) (fun x => tv n v x == 1) h'))) ?_
  unfold Form
  generalize tv n v = u at *
  generalize hN : 2 ^ n = N at *
  refine ok_go 1 ?_
  refine sy_call 0 (by kernel_rfl) sz ?_
  refine ok_go 5 ?_
  refine sy_loop 0 lf h (α := Nat) (fun s => [(0, .slice (some ⟨b0, 0, none⟩) N c), (4, J n), (20, .slice (some ⟨b0, 0, none⟩) N c), (21, J N), (22, J s)]) (fun s g => s ≤ N ∧ g = h ∧ ∀ k, k < s → -(N : Int) ≤ v k ∧ v k ≤ N) (fun s _ => N - s) 0 (by kernel_rfl) (by kernel_rfl) ⟨by kernel_rfl, by kernel_rfl, by kernel_rfl, by kernel_rfl, by kernel_rfl, trivial⟩ (show N - 0 < lf by omega) ⟨Nat.zero_le _, rfl, fun k hk => absurd hk (Nat.not_lt_zero k)⟩ ?_
  rintro m1 k f1 g ⟨hk, rfl, hv⟩ ih
  refine ok_go 1 ?_
  refine sy_test 0 (decide (Int.ofNat k < Int.ofNat N)) (by kernel_rfl) ?_ ?_
  · intro hlt
    have hlt := ok_nat hlt
    have bad : (v k < -(N : Int) ∨ v k > (N : Int)) → g.Ext g ∧ ((¬ ((∀ x, x < N → u x = 0 ∨ u x = 1) ∧ ∀ k, k < N → -(N : Int) ≤ v k ∧ v k ≤ N) ∧ (Value.tuple #[.slice none 0 0, I 1]) = .tuple #[.slice none 0 0, I 1]) ∨ (((∀ x, x < N → u x = 0 ∨ u x = 1) ∧ ∀ k, k < N → -(N : Int) ≤ v k ∧ v k ≤ N) ∧ ∃ b, (Value.tuple #[.slice none 0 0, I 1]) = .tuple #[.slice (some ⟨b, 0, none⟩) N (2 * N + 1), J 0] ∧ g.next ≤ b ∧ ArB b N (fun x => u x == 1) g)) :=
      fun hc => ⟨Hp.Ext.refl _, .inl ⟨fun hf => by have := hf.2 k hlt; omega, rfl⟩⟩
    have e1 : IntKind.wrap .i64 (0 - IntKind.wrap .i64 (1 * 2 ^ min (IntKind.wrap .u64 (Int.ofNat n)).toNat IntKind.i64.bits)) = -(N : Int) := by
      rw [hmin, hsh]
      show IntKind.wrap .i64 (0 - (N : Int)) = _
      rw [wrap_int (by omega) (by omega)]
      omega
    have e2 : IntKind.wrap .i64 (1 * 2 ^ min (IntKind.wrap .u64 (Int.ofNat n)).toNat IntKind.i64.bits) = (N : Int) := by
      rw [hmin, hsh]
      rfl
    refine ok_go 0 ?_
    refine sy_load 0 (r := indexAddrOp Try.prog 50 (.slice (some ⟨b0, 0, none⟩) N c) (J k)) (h' := g) (by kernel_rfl) (idxI hlt) ?_
    refine ok_go 0 ?_
    refine sy_load 0 (r := loadT Try.prog g 3 (ptr b0 k)) (h' := g) (by kernel_rfl) (A.read hlt) ?_
    refine ok_go 4 ?_
    refine sy_test 0 (decide (v k < IntKind.wrap .i64 (0 - IntKind.wrap .i64 (1 * 2 ^ min (IntKind.wrap .u64 (Int.ofNat n)).toNat IntKind.i64.bits)))) (by kernel_rfl) ?_ ?_
    · intro h1
      have h1 := of_decide_eq_true h1
      rw [e1] at h1
      refine ok_go 6 ?_
      exact sy_done 0 (v := .tuple #[.slice none 0 0, I 1]) (h := g) (by kernel_rfl) (bad (.inl h1))
    · intro h1
      have h1 := of_decide_eq_false h1
      rw [e1] at h1
      refine ok_go 8 ?_
      refine sy_test 0 (decide (v k > IntKind.wrap .i64 (1 * 2 ^ min (IntKind.wrap .u64 (Int.ofNat n)).toNat IntKind.i64.bits))) (by kernel_rfl) ?_ ?_
      · intro h2
        have h2 := of_decide_eq_true h2
        rw [e2] at h2
        refine ok_go 0 ?_
        exact sy_done 0 (v := .tuple #[.slice none 0 0, I 1]) (h := g) (by kernel_rfl) (bad (.inr h2))
      · intro h2
        have h2 := of_decide_eq_false h2
        rw [e2] at h2
        refine ok_go 1 ?_
        exact sy_next 0 _ g (by kernel_rfl) (by kernel_rfl) (ih (k + 1) _ g ⟨hlt, rfl, fun x hx => by
          obtain rfl | hx : x = k ∨ x < k := by omega
          · omega
          · exact hv x hx⟩ (show N - (k + 1) < N - k by omega) ⟨by kernel_rfl, by kernel_rfl, by kernel_rfl, by kernel_rfl, (by kernel_rfl : _ = Value.int .i64 (IntKind.wrap .i64 (Int.ofNat (k + 1)))).trans (by rw [wrap_nat (by omega)]), trivial⟩)
  · intro hlt
    have hlt := no_nat hlt
    obtain rfl : N = k := by omega
    obtain ⟨g2, e3, A3, X3⟩ := turn hv
    refine ok_go 0 ?_
    refine sy_call 0 (by kernel_rfl) e1 ?_
    refine ok_go 0 ?_
    refine sy_call 0 (by kernel_rfl) e3 ?_
    refine ok_go 1 ?_
    refine sy_loop 0 lf g2 (α := Nat × Value) (fun s => [(9, s.2), (44, .slice (some ⟨b, 0, none⟩) N (2 * N + 1)), (45, J N), (46, J s.1)]) (fun s k => s.1 ≤ N ∧ g2.Ext k ∧ OpenSl k 4 s.2 (cellsF s.1 fun x => Value.bool (u x == 1)) ∧ (∀ j, j < g2.next → ∀ p q, s.2 ≠ .slice (some ⟨j, 0, none⟩) p q) ∧ ∀ x, x < s.1 → u x = 0 ∨ u x = 1) (fun s _ => N - s.1) (0, .slice none 0 0) (by kernel_rfl) (by kernel_rfl) ⟨by kernel_rfl, by kernel_rfl, by kernel_rfl, by kernel_rfl, trivial⟩ (show N - 0 < lf by omega) ⟨Nat.zero_le _, Hp.Ext.refl _, .inl ⟨rfl, rfl⟩, fun j _ p q hc => (by cases hc), fun k hk => absurd hk (Nat.not_lt_zero k)⟩ ?_
    rintro m2 ⟨x, l⟩ f2 g3 ⟨hx, X4, O, hne, hu⟩ ih2
    dsimp only at hx O hne hu
    refine ok_go 1 ?_
    refine sy_test 0 (decide (Int.ofNat x < Int.ofNat N)) (by kernel_rfl) ?_ ?_
    · intro hxl
      have hxl := ok_nat hxl
      have hbl := A3.lt
      have r3 : loadT Try.prog g3 3 (ptr b x) = some (I (u x)) := (A3.ext X4).read hxl
      refine ok_go 0 ?_
      refine sy_load 0 (r := indexAddrOp Try.prog 50 (.slice (some ⟨b, 0, none⟩) N (2 * N + 1)) (J x)) (h' := g3) (by kernel_rfl) (idxI hxl) ?_
      refine ok_go 0 ?_
      refine sy_load 0 (r := loadT Try.prog g3 3 (ptr b x)) (h' := g3) (by kernel_rfl) r3 ?_
      have go : (u x = 0 ∨ u x = 1) → ∃ l' g', appendOp Try.prog (g3.new (.cells [Value.bool (u x == 1)] 4 false)) 27 l (.slice (some ⟨g3.next, 0, none⟩) 1 2) = some (l', g') ∧ x + 1 ≤ N ∧ g2.Ext g' ∧ OpenSl g' 4 l' (cellsF (x + 1) fun x => Value.bool (u x == 1)) ∧ (∀ j, j < g2.next → ∀ p q, l' ≠ .slice (some ⟨j, 0, none⟩) p q) ∧ ∀ y, y < x + 1 → u y = 0 ∨ u y = 1 := by
        intro hui
        obtain ⟨l', g', e3, O', y1, y2, y3⟩ := append1 slB O (v := .bool (u x == 1)) rfl (by rw [cellsF_len]; omega)
        have hxn := X4.next
        refine ⟨l', g', e3, hxl, ⟨by omega, fun j hj => (y2 j (by omega) (hne j hj)).trans (X4.get j hj)⟩, by rw [cellsF_succ]; exact O', fun j hj => y3 j (by omega), fun y hy => ?_⟩
        obtain rfl | hy : y = x ∨ y < x := by omega
        · exact hui
        · exact hu y hy
      refine ok_go 1 ?_
      refine sy_test 0 (u x != 0) (by kernel_rfl) ?_ ?_
      · intro h0
        have h0 : u x ≠ 0 := by simpa using h0
        refine ok_go 3 ?_
        refine sy_test 0 (u x != 1) (by kernel_rfl) ?_ ?_
        · intro h1
          have h1 : u x ≠ 1 := by simpa using h1
          refine ok_go 0 ?_
          exact sy_done 0 (v := .tuple #[.slice none 0 0, I 1]) (h := g3) (by kernel_rfl) ⟨X3.trans X4, .inl ⟨fun hf => by have := hf.1 x hxl; omega, rfl⟩⟩
        · intro h1
          have h1 : u x = 1 := by simpa using h1
          obtain ⟨l', g', e3, P'⟩ := go (.inr h1)
          refine ok_go 2 ?_
          refine sy_call 0 (r := appendOp Try.prog (g3.new (.cells [Value.bool (u x == 1)] 4 false)) 27 l (.slice (some ⟨g3.next, 0, none⟩) 1 2)) (v := l') (h' := g') (by kernel_rfl) e3 ?_
          refine ok_go 1 ?_
          exact sy_next 0 _ g' (by kernel_rfl) (by kernel_rfl) (ih2 (x + 1, l') _ g' P' (show N - (x + 1) < N - x by omega) ⟨by kernel_rfl, by kernel_rfl, by kernel_rfl, (by kernel_rfl : _ = Value.int .i64 (IntKind.wrap .i64 (Int.ofNat (x + 1)))).trans (by rw [wrap_nat (by omega)]), trivial⟩)
      · intro h1
        have h1 : u x = 0 := by simpa using h1
        obtain ⟨l', g', e3, P'⟩ := go (.inl h1)
        refine ok_go 5 ?_
        refine sy_call 0 (r := appendOp Try.prog (g3.new (.cells [Value.bool (u x == 1)] 4 false)) 27 l (.slice (some ⟨g3.next, 0, none⟩) 1 2)) (v := l') (h' := g') (by kernel_rfl) e3 ?_
        refine ok_go 1 ?_
        exact sy_next 0 _ g' (by kernel_rfl) (by kernel_rfl) (ih2 (x + 1, l') _ g' P' (show N - (x + 1) < N - x by omega) ⟨by kernel_rfl, by kernel_rfl, by kernel_rfl, (by kernel_rfl : _ = Value.int .i64 (IntKind.wrap .i64 (Int.ofNat (x + 1)))).trans (by rw [wrap_nat (by omega)]), trivial⟩)
    · intro hxl
      have hxl := no_nat hxl
      obtain rfl : N = x := by omega
      obtain ⟨bb, rfl, B⟩ := openB hp1 O
      refine ok_go 0 ?_
      exact sy_done 0 (v := .tuple #[.slice (some ⟨bb, 0, none⟩) N (2 * N + 1), J 0]) (h := g3) (by kernel_rfl) ⟨X3.trans X4, .inr ⟨⟨hu, hv⟩, bb, rfl, Nat.le_trans X3.next (Nat.le_of_not_lt fun hc => hne bb hc _ _ rfl), B⟩⟩
end Go.Proofs.Ytnfboopfpkaeaaa
/- RefC: contracts of functions. -/
namespace Go.Proofs.Ytnfboopfpkaeaaa
open Go Go.Eng Nim
set_option maxRecDepth 100000
set_option maxHeartbeats 4000000
/-- What the law of the forms calls. -/
structure Upper5 (lf m : Nat) : Prop where
  U : Upper lf m
  dgr : ∀ f n b c h, n ≤ 6 → ArB b (2 ^ n) f h → ∃ x h', Ev lf m 24 [.slice (some ⟨b, 0, none⟩) (2 ^ n) c] h = some (x, h') ∧ x = .tuple #[J (dg (trn (up fun a b => b - a) n (num f)) (2 ^ n)), J 0] ∧ h.Ext h'
  rrm : ∀ f n b c h, n ≤ 6 → ArB b (2 ^ n) f h → ∃ x h', Ev lf m 27 [.slice (some ⟨b, 0, none⟩) (2 ^ n) c] h = some (x, h') ∧ ∃ b, x = .slice (some ⟨b, 0, none⟩) (2 ^ n) (2 * 2 ^ n) ∧ h.next ≤ b ∧ h.Ext h' ∧ ArB b (2 ^ n) (trn (up fun a b => a != b) n f) h'
  it : ∀ f N a ca b cb h, N ≤ 64 → ArI a N f h → ArI b N f h → Ev lf m 28 [.slice (some ⟨a, 0, none⟩) N ca, .slice (some ⟨b, 0, none⟩) N cb] h = some (.bool true, h)
  rre : ∀ f n b c h, n ≤ 6 → ArB b (2 ^ n) f h → ∃ x h', Ev lf m 29 [.slice (some ⟨b, 0, none⟩) (2 ^ n) c] h = some (x, h') ∧ ∃ b, x = .slice (some ⟨b, 0, none⟩) (2 ^ n) (2 * 2 ^ n + 1) ∧ h.next ≤ b ∧ h.Ext h' ∧ ArI b (2 ^ n) (trn (up fun a b => b - a) n (num f)) h'
  rdg : ∀ f n b c h, n ≤ 6 → ArB b (2 ^ n) f h → ∃ x h', Ev lf m 30 [.slice (some ⟨b, 0, none⟩) (2 ^ n) c] h = some (x, h') ∧ x = J (dg (trn (up fun a b => b - a) n (num f)) (2 ^ n)) ∧ h.Ext h'
  rsp : ∀ f n b c h, n ≤ 6 → ArB b (2 ^ n) f h → ∃ x h', Ev lf m 31 [.slice (some ⟨b, 0, none⟩) (2 ^ n) c] h = some (x, h') ∧ ∃ b, x = .slice (some ⟨b, 0, none⟩) (2 ^ n) (2 * 2 ^ n + 1) ∧ h.next ≤ b ∧ h.Ext h' ∧ ArI b (2 ^ n) (trn wsh n (sgn f)) h'
  ln : ∀ N, N ≤ 66 → (∃ n, n ≤ 6 ∧ N = 2 ^ n ∧ ∀ h, Ev lf m 33 [J N] h = some (J n, h)) ∨ ((∀ h, Ev lf m 33 [J N] h = some (I (-1), h)) ∧ ∀ a c h, Ev lf m 32 [.slice a N c] h = some (.tuple #[.slice none 0 0, I 70], h))
  fg : ∀ v n b c h, n ≤ 6 → ArI b (2 ^ n) v h → ∃ x h', Ev lf m 32 [.slice (some ⟨b, 0, none⟩) (2 ^ n) c] h = some (x, h') ∧ h.Ext h' ∧ ((¬ Form ((2 ^ n : Nat) : Int) n v ∧ x = .tuple #[.slice none 0 0, I 1]) ∨ (Form ((2 ^ n : Nat) : Int) n v ∧ ∃ b, x = .tuple #[.slice (some ⟨b, 0, none⟩) (2 ^ n) (2 * 2 ^ n + 1), J 0] ∧ h.next ≤ b ∧ ArB b (2 ^ n) (fun x => tv n v x == 1) h'))
  rfr : ∀ v n b c h, n ≤ 6 → ArI b (2 ^ n) v h → ∃ x h', Ev lf m 34 [.slice (some ⟨b, 0, none⟩) (2 ^ n) c] h = some (x, h') ∧ h.Ext h' ∧ ((¬ Form 1000 n v ∧ x = .tuple #[.slice none 0 0, .bool false]) ∨ (Form 1000 n v ∧ ∃ b, x = .tuple #[.slice (some ⟨b, 0, none⟩) (2 ^ n) (2 * 2 ^ n + 1), .bool true] ∧ h.next ≤ b ∧ ArB b (2 ^ n) (fun x => tv n v x == 1) h'))
/-- A list that appends alone have made. -/
def Own (l : Value) (g : Hp) : Prop := l = .slice none 0 0 ∨ ∃ b K u, 1 ≤ K ∧ K ≤ 66 ∧ l = .slice (some ⟨b, 0, none⟩) K (2 * K + 1) ∧ ArI b K u g
theorem own_cases {lf m : Nat} (U : Upper5 lf m) {l : Value} {g : Hp} (O : Own l g) :
    (∃ a K c, l = .slice a K c ∧ (∀ h, Ev lf m 33 [J K] h = some (I (-1), h)) ∧ ∀ h, Ev lf m 32 [.slice a K c] h = some (.tuple #[.slice none 0 0, I 70], h)) ∨
    ∃ b n u, n ≤ 6 ∧ l = .slice (some ⟨b, 0, none⟩) (2 ^ n) (2 * 2 ^ n + 1) ∧ ArI b (2 ^ n) u g ∧ ∀ h, Ev lf m 33 [J (2 ^ n)] h = some (J n, h) := by
  rcases O with rfl | ⟨b, K, u, h1, h2, rfl, A⟩
  · rcases U.ln 0 (by omega) with ⟨n, _, h, _⟩ | ⟨h, h'⟩
    · have := Nat.two_pow_pos n
      omega
    · exact .inl ⟨_, _, _, rfl, h, fun g => h' _ _ g⟩
  · rcases U.ln K h2 with ⟨n, hn, rfl, h⟩ | ⟨h, h'⟩
    · exact .inr ⟨b, n, u, hn, rfl, A, h⟩
    · exact .inl ⟨_, _, _, rfl, h, fun g => h' _ _ g⟩
theorem own_open {w : List Int} {K : Nat} (hK : K ≤ w.length) (h66 : K ≤ 66) {l : Value} {g : Hp} (O : OpenSl g 3 l ((w.take K).map I)) : Own l g := by
  have e : (w.take K).map I = cellsF K fun x => I (w.getD x 0) := by
    refine List.ext_getElem? fun i => ?_
    unfold cellsF
    rw [List.getElem?_map, List.getElem?_map, List.getElem?_take]
    by_cases hi : i < K
    · rw [if_pos hi, List.getElem?_range hi]
      show _ = some (I (w.getD i 0))
      rw [List.getD_eq_getElem?_getD, List.getElem?_eq_getElem (by omega)]
      rfl
    · rw [if_neg hi, List.getElem?_eq_none (by simpa using hi)]
      rfl
  rw [e] at O
  rcases Nat.eq_zero_or_pos K with rfl | h1
  · rcases O with ⟨rfl, _⟩ | ⟨i, _, hc, _⟩
    · exact .inl rfl
    · exact absurd rfl hc
  · obtain ⟨b, rfl, B⟩ := openI h1 O
    exact .inr ⟨b, K, _, h1, h66, rfl, B⟩
theorem idxU {b N c v : Nat} (hv : v < N) : indexAddrOp Try.prog 50 (.slice (some ⟨b, 0, none⟩) N c) (.int .u64 (Int.ofNat v)) = some (ptr b v) := by
  rw [idxSl uI zI hv, Nat.zero_add, Nat.mul_one]
theorem u64_nat {a : Nat} (h : a < 2 ^ 64) : IntKind.wrap .u64 (Int.ofNat a) = Int.ofNat a := by
  show (Int.ofNat a) % 2 ^ 64 = _
  exact Int.emod_eq_of_lt (Int.natCast_nonneg a) (by show (a : Int) < _; omega)
theorem sy_any {Q : Value → Hp → Prop} (n : Nat) {t : SA} {p : Value → Prop} {h' : Hp} (he : ∃ v, p v ∧ askR (goS n t) = some (v, h')) (hk : ∀ v, p v → Ok Q (askK (goS n t) v h')) : Ok Q t := by
  obtain ⟨v, hp, e⟩ := he
  exact ok_go n (ok_ask e (hk v hp))
theorem s5 (x a0 a1 : Int) (w : List Int) (hw : w.length < 2 ^ 63) (va : Option Addr) (vc lf m : Nat) (U : Upper5 lf m) (h : Hp) (V : Rds h (.slice va w.length vc) (w.map I)) (cut : (va = none ∧ w = [] ∧ vc = 0) ∨ ∃ a, va = some a ∧ ∀ K, K ≤ w.length → ∃ y, sliceOp Try.prog 50 (.slice (some a) w.length vc) none (some (J K)) none = some y ∧ Rds h y ((w.take K).map I)) : ∃ H, Ev lf (m + 1) 5 [.int .u64 x, .agg #[I a0, I a1], .slice va w.length vc] h = some (.bool true, H) := by
  obtain ⟨n, hn, bt⟩ := U.U.bt a0
  have hp64 : 2 ^ n ≤ 64 := Nat.pow_le_pow_right (n := 2) (by decide) hn
  refine fn_val ?_
  have X0 : h.Ext (h.new (.cells [I a0, I a1] 49 false)) := Hp.Ext.new _ _
  have gx := get_new h (.cells [I a0, I a1] 49 false)
  generalize hX : h.new (.cells [I a0, I a1] 49 false) = X at X0 gx
  refine ok_go 2 ?_
  refine sy_load 0 (r := loadT Try.prog (h.new (.cells [I a0, I a1] 49 false)) 3 (ptr h.next 0)) (h' := (h.new (.cells [I a0, I a1] 49 false))) (by kernel_rfl) (by rw [hX]; exact load1 agI gx rfl) ?_
  rw [hX]
  refine ok_go 0 ?_
  refine sy_call 0 (by kernel_rfl) (bt X) ?_
  refine ok_go 1 ?_
  refine sy_load 0 (r := loadT Try.prog X 3 (ptr h.next 1)) (h' := X) (by kernel_rfl) (load1 agI gx rfl) ?_
  obtain ⟨_, h1, e1, b, f, rfl, hb, X1, A1⟩ := U.U.tb x n a1 X hn
  refine ok_go 0 ?_
  refine sy_call 0 (by kernel_rfl) e1 ?_
  refine ok_go 0 ?_
  refine sy_need 0 [3] [⟨some (Eng.undef, X), Eng.undef, X⟩] (by kernel_rfl) ⟨rfl, trivial⟩ ?_
  have hlf := U.U.hlf
  obtain ⟨_, h2, e2, b2, rfl, hb2, X2, A2⟩ := U.U.rm f n b (2 * 2 ^ n) h1 hn A1
  obtain ⟨_, h3, e3, b3, rfl, hb3, X3, A3⟩ := U.U.re f n b (2 * 2 ^ n) h2 hn (A1.ext X2)
  obtain ⟨_, h4, e4, rfl, X4⟩ := U.dgr f n b (2 * 2 ^ n) h3 hn (A1.ext (X2.trans X3))
  obtain ⟨_, h5, e5, b5, rfl, hb5, X5, A5⟩ := U.U.sp f n b (2 * 2 ^ n) h4 hn (A1.ext (X2.trans (X3.trans X4)))
  have Y5 := X2.trans (X3.trans (X4.trans X5))
  obtain ⟨_, h6, e6, b6, rfl, hb6, X6, A6⟩ := U.rrm f n b (2 * 2 ^ n) h5 hn (A1.ext Y5)
  obtain ⟨_, h7, e7, b7, rfl, hb7, X7, A7⟩ := U.rre f n b (2 * 2 ^ n) h6 hn (A1.ext (Y5.trans X6))
  obtain ⟨_, h8, e8, rfl, X8⟩ := U.rdg f n b (2 * 2 ^ n) h7 hn (A1.ext (Y5.trans (X6.trans X7)))
  obtain ⟨_, h9, e9, b9, rfl, hb9, X9, A9⟩ := U.rsp f n b (2 * 2 ^ n) h8 hn (A1.ext (Y5.trans (X6.trans (X7.trans X8))))
  have q6 := U.U.bo _ (2 ^ n) b2 (2 * 2 ^ n + 1) b6 (2 * 2 ^ n) h6 hp64 (A2.ext (X3.trans (X4.trans (X5.trans X6)))) A6
  have q7 := U.it _ (2 ^ n) b3 (2 * 2 ^ n + 1) b7 (2 * 2 ^ n + 1) h7 hp64 (A3.ext (X4.trans (X5.trans (X6.trans X7)))) A7
  have q9 := U.it _ (2 ^ n) b5 (2 * 2 ^ n + 1) b9 (2 * 2 ^ n + 1) h9 hp64 (A5.ext (X6.trans (X7.trans (X8.trans X9)))) A9
  have Z3 := A3.ext (X4.trans (X5.trans (X6.trans (X7.trans (X8.trans X9)))))
  have Z9 : h.Ext h9 := X0.trans (X1.trans (Y5.trans (X6.trans (X7.trans (X8.trans X9)))))
  have V9 := V.ext Z9
  generalize trn (up fun a b : Int => b - a) n (num f) = rv at *
  refine ok_go 0 ?_
  refine sy_call 0 (by kernel_rfl) e2 ?_
  refine ok_go 2 ?_
  refine sy_call 0 (by kernel_rfl) e3 ?_
  refine ok_go 2 ?_
  refine sy_call 0 (by kernel_rfl) e4 ?_
  refine ok_go 2 ?_
  refine sy_call 0 (by kernel_rfl) e5 ?_
  refine ok_go 18 ?_
  refine sy_call 0 (by kernel_rfl) e6 ?_
  refine ok_go 1 ?_
  refine sy_call 0 (by kernel_rfl) q6 ?_
  refine ok_go 6 ?_
  refine sy_call 0 (by kernel_rfl) e7 ?_
  refine ok_go 1 ?_
  refine sy_call 0 (by kernel_rfl) q7 ?_
  refine ok_go 6 ?_
  refine sy_call 0 (by kernel_rfl) e8 ?_
  refine ok_go 3 ?_
  refine sy_no 0 (b := Int.ofNat (dg rv (2 ^ n)) != Int.ofNat (dg rv (2 ^ n))) (by kernel_rfl) (bne_self_eq_false _) ?_
  refine ok_go 2 ?_
  refine sy_call 0 (by kernel_rfl) e9 ?_
  refine ok_go 1 ?_
  refine sy_call 0 (by kernel_rfl) q9 ?_
  have hK : (if (66 : Int) < Int.ofNat w.length then 66 else Int.ofNat w.length) = Int.ofNat (min w.length 66) := by
    show (if (66 : Int) < (w.length : Int) then 66 else (w.length : Int)) = ((min w.length 66 : Nat) : Int)
    split <;> omega
  have hK66 : min w.length 66 ≤ 66 := Nat.min_le_right _ _
  have hKw : min w.length 66 ≤ w.length := Nat.min_le_left _ _
  refine ok_go 6 ?_
  refine sy_any 0 (p := fun y => Rds h9 y ((w.take (min w.length 66)).map I)) (h' := h9) ?_ ?_
  · rcases cut with ⟨rfl, rfl, rfl⟩ | ⟨a, rfl, cut⟩
    · exact ⟨.slice none 0 0, .inl ⟨⟨_, rfl⟩, rfl⟩, by kernel_rfl⟩
    · obtain ⟨y, ey, Y⟩ := cut _ hKw
      refine ⟨y, Y.ext Z9, (by kernel_rfl : _ = (sliceOp Try.prog 50 (.slice (some a) w.length vc) none (some (.int .i64 (if (66 : Int) < Int.ofNat w.length then 66 else Int.ofNat w.length))) none).map (·, h9)).trans ?_⟩
      rw [hK, ey]
      rfl
  generalize min w.length 66 = K at hK66 hKw
  intro y Y
  obtain ⟨ya, yc, rfl⟩ := Y.shape
  obtain ⟨l0, h10, e10, O10, X10, N10⟩ := appendNew slI Y (by rw [List.all_eq_true]; intro v hv; obtain ⟨z, _, rfl⟩ := List.mem_map.1 hv; rfl) (by rw [List.length_map, List.length_take]; omega)
  refine ok_go 0 ?_
  refine sy_call 0 (by kernel_rfl) e10 ?_
  refine ok_go 0 ?_
  have hbn : h.next ≤ b3 := Nat.le_trans (X0.trans X1).next (Nat.le_trans X2.next hb3)
  refine sy_loop 0 lf h10 (α := Nat × Value) (fun s => [(2, .slice va w.length vc), (10, .slice (some ⟨b3, 0, none⟩) (2 ^ n) (2 * 2 ^ n + 1)), (16, s.2), (17, J s.1)]) (fun s g => s.1 ≤ 2 ∧ h.Ext g ∧ Own s.2 g ∧ ∃ r, ArI b3 (2 ^ n) r g) (fun s _ => 2 - s.1) (0, l0) (by kernel_rfl) (by kernel_rfl) ⟨by kernel_rfl, by kernel_rfl, by kernel_rfl, by kernel_rfl, trivial⟩ (show 2 - 0 < lf by omega) ⟨Nat.zero_le _, Z9.trans X10, own_open hKw hK66 O10, _, Z3.ext X10⟩ ?_
  rintro m1 ⟨k, l⟩ f1 g ⟨hk, Xg, O, r, R⟩ ih
  dsimp only at hk O
  refine ok_go 1 ?_
  refine sy_test 0 (decide (Int.ofNat k < 2)) (by kernel_rfl) ?_ ?_
  · intro hlt
    have hlt : k < 2 := ok_nat (b := 2) hlt
    rcases own_cases U O with ⟨a, M, c, rfl, e33, e32⟩ | ⟨bb, q, u, hq, rfl, B, e33⟩
    · refine ok_go 0 ?_
      refine sy_call 0 (by kernel_rfl) (e32 g) ?_
      refine ok_go 3 ?_
      refine sy_call 0 (by kernel_rfl) (e33 g) ?_
      refine ok_go 12 ?_
      refine sy_test 0 (decide (Int.ofNat w.length > 0)) (by kernel_rfl) ?_ ?_
      · intro hl
        have hl : 0 < w.length := by have := of_decide_eq_true hl; simp at this; omega
        obtain ⟨pp, p1, p2⟩ := (V.ext (Xg)).read (P := Try.prog) (kd := .i64) uI zI agI (k := 0) (v := I (w[0])) (by rw [List.getElem?_map, List.getElem?_eq_getElem hl]; rfl)
        refine ok_go 1 ?_
        refine sy_load 0 (r := indexAddrOp Try.prog 50 (.slice va w.length vc) (J 0)) (h' := g) (by kernel_rfl) p1 ?_
        refine ok_go 1 ?_
        refine sy_load 0 (r := loadT Try.prog g 3 pp) (h' := g) (by kernel_rfl) p2 ?_
        refine ok_go 5 ?_
        refine sy_test 0 ((w[0]).tmod 3 == 0) (by kernel_rfl) ?_ ?_
        · intro _
          have hix : w.length % 2 ^ n < 2 ^ n := Nat.mod_lt _ (Nat.two_pow_pos n)
          obtain ⟨g', st, R', n', o'⟩ := (R).store hix (IntKind.wrap .i64 (r (w.length % 2 ^ n) + 1))
          refine ok_go 4 ?_
          refine sy_any 0 (p := fun y => y = .int .u64 (Int.ofNat (w.length % 2 ^ n))) (h' := g) ⟨.int .u64 ((IntKind.wrap .u64 (Int.ofNat w.length)).tmod (Int.ofNat (2 ^ n))), by rw [u64_nat (by omega)]; rfl, ?_⟩ ?_
          · rcases (by omega : n = 0 ∨ n = 1 ∨ n = 2 ∨ n = 3 ∨ n = 4 ∨ n = 5 ∨ n = 6) with rfl | rfl | rfl | rfl | rfl | rfl | rfl <;> kernel_rfl
          rintro _ rfl
          refine ok_go 0 ?_
          refine sy_load 0 (r := indexAddrOp Try.prog 50 (.slice (some ⟨b3, 0, none⟩) (2 ^ n) (2 * 2 ^ n + 1)) (.int .u64 (Int.ofNat (w.length % 2 ^ n)))) (h' := g) (by kernel_rfl) (idxU hix) ?_
          refine ok_go 0 ?_
          refine sy_load 0 (r := loadT Try.prog g 3 (ptr b3 (w.length % 2 ^ n))) (h' := g) (by kernel_rfl) ((R).read hix) ?_
          refine ok_go 1 ?_
          refine sy_load 0 (r := indexAddrOp Try.prog 50 (.slice (some ⟨b3, 0, none⟩) (2 ^ n) (2 * 2 ^ n + 1)) (.int .u64 (Int.ofNat (w.length % 2 ^ n)))) (h' := g) (by kernel_rfl) (idxU hix) ?_
          refine ok_go 0 ?_
          refine sy_store 0 (r := storeT Try.prog g 3 (ptr b3 (w.length % 2 ^ n)) (I (IntKind.wrap .i64 (r (w.length % 2 ^ n) + 1)))) (by kernel_rfl) st ?_
          refine ok_go 1 ?_
          exact sy_next 0 _ g' (by kernel_rfl) (by kernel_rfl) (ih (k + 1, .slice (some ⟨b3, 0, none⟩) (2 ^ n) (2 * 2 ^ n + 1)) _ g' ⟨hlt, ext_of (Xg) hbn n' o', .inr ⟨b3, 2 ^ n, _, Nat.one_le_two_pow, by omega, rfl, R'⟩, _, R'⟩ (show 2 - (k + 1) < 2 - k by omega) ⟨by kernel_rfl, by kernel_rfl, by kernel_rfl, (by kernel_rfl : _ = Value.int .i64 (IntKind.wrap .i64 (Int.ofNat (k + 1)))).trans (by rw [wrap_nat (by omega)]), trivial⟩)
        · intro _
          refine ok_go 1 ?_
          exact sy_next 0 _ g (by kernel_rfl) (by kernel_rfl) (ih (k + 1, .slice (some ⟨b3, 0, none⟩) (2 ^ n) (2 * 2 ^ n + 1)) _ g ⟨hlt, Xg, .inr ⟨b3, 2 ^ n, _, Nat.one_le_two_pow, by omega, rfl, R⟩, _, R⟩ (show 2 - (k + 1) < 2 - k by omega) ⟨by kernel_rfl, by kernel_rfl, by kernel_rfl, (by kernel_rfl : _ = Value.int .i64 (IntKind.wrap .i64 (Int.ofNat (k + 1)))).trans (by rw [wrap_nat (by omega)]), trivial⟩)
      · intro _
        refine ok_go 7 ?_
        exact sy_next 0 _ g (by kernel_rfl) (by kernel_rfl) (ih (k + 1, .slice (some ⟨b3, 0, none⟩) (2 ^ n) (2 * 2 ^ n + 1)) _ g ⟨hlt, Xg, .inr ⟨b3, 2 ^ n, _, Nat.one_le_two_pow, by omega, rfl, R⟩, _, R⟩ (show 2 - (k + 1) < 2 - k by omega) ⟨by kernel_rfl, by kernel_rfl, by kernel_rfl, (by kernel_rfl : _ = Value.int .i64 (IntKind.wrap .i64 (Int.ofNat (k + 1)))).trans (by rw [wrap_nat (by omega)]), trivial⟩)
    · obtain ⟨_, g1, f1e, Y1, hf⟩ := U.fg u q bb (2 * 2 ^ q + 1) g hq B
      obtain ⟨_, g2, f2e, Y2, hg⟩ := U.rfr u q bb (2 * 2 ^ q + 1) g1 hq (B.ext Y1)
      rw [form_iff q hq] at hg
      rcases hf with ⟨nf, rfl⟩ | ⟨yf, b11, rfl, hb11, B11⟩
      · rcases hg with ⟨_, rfl⟩ | ⟨yf, _⟩
        · refine ok_go 0 ?_
          refine sy_call 0 (by kernel_rfl) f1e ?_
          refine ok_go 3 ?_
          refine sy_call 0 (by kernel_rfl) (e33 g1) ?_
          refine ok_go 2 ?_
          refine sy_call 0 (by kernel_rfl) f2e ?_
          refine ok_go 14 ?_
          refine sy_test 0 (decide (Int.ofNat w.length > 0)) (by kernel_rfl) ?_ ?_
          · intro hl
            have hl : 0 < w.length := by have := of_decide_eq_true hl; simp at this; omega
            obtain ⟨pp, p1, p2⟩ := (V.ext (Xg.trans (Y1.trans Y2))).read (P := Try.prog) (kd := .i64) uI zI agI (k := 0) (v := I (w[0])) (by rw [List.getElem?_map, List.getElem?_eq_getElem hl]; rfl)
            refine ok_go 1 ?_
            refine sy_load 0 (r := indexAddrOp Try.prog 50 (.slice va w.length vc) (J 0)) (h' := g2) (by kernel_rfl) p1 ?_
            refine ok_go 1 ?_
            refine sy_load 0 (r := loadT Try.prog g2 3 pp) (h' := g2) (by kernel_rfl) p2 ?_
            refine ok_go 5 ?_
            refine sy_test 0 ((w[0]).tmod 3 == 0) (by kernel_rfl) ?_ ?_
            · intro _
              have hix : w.length % 2 ^ n < 2 ^ n := Nat.mod_lt _ (Nat.two_pow_pos n)
              obtain ⟨g', st, R', n', o'⟩ := (R.ext (Y1.trans Y2)).store hix (IntKind.wrap .i64 (r (w.length % 2 ^ n) + 1))
              refine ok_go 4 ?_
              refine sy_any 0 (p := fun y => y = .int .u64 (Int.ofNat (w.length % 2 ^ n))) (h' := g2) ⟨.int .u64 ((IntKind.wrap .u64 (Int.ofNat w.length)).tmod (Int.ofNat (2 ^ n))), by rw [u64_nat (by omega)]; rfl, ?_⟩ ?_
              · rcases (by omega : n = 0 ∨ n = 1 ∨ n = 2 ∨ n = 3 ∨ n = 4 ∨ n = 5 ∨ n = 6) with rfl | rfl | rfl | rfl | rfl | rfl | rfl <;> kernel_rfl
              rintro _ rfl
              refine ok_go 0 ?_
              refine sy_load 0 (r := indexAddrOp Try.prog 50 (.slice (some ⟨b3, 0, none⟩) (2 ^ n) (2 * 2 ^ n + 1)) (.int .u64 (Int.ofNat (w.length % 2 ^ n)))) (h' := g2) (by kernel_rfl) (idxU hix) ?_
              refine ok_go 0 ?_
              refine sy_load 0 (r := loadT Try.prog g2 3 (ptr b3 (w.length % 2 ^ n))) (h' := g2) (by kernel_rfl) ((R.ext (Y1.trans Y2)).read hix) ?_
              refine ok_go 1 ?_
              refine sy_load 0 (r := indexAddrOp Try.prog 50 (.slice (some ⟨b3, 0, none⟩) (2 ^ n) (2 * 2 ^ n + 1)) (.int .u64 (Int.ofNat (w.length % 2 ^ n)))) (h' := g2) (by kernel_rfl) (idxU hix) ?_
              refine ok_go 0 ?_
              refine sy_store 0 (r := storeT Try.prog g2 3 (ptr b3 (w.length % 2 ^ n)) (I (IntKind.wrap .i64 (r (w.length % 2 ^ n) + 1)))) (by kernel_rfl) st ?_
              refine ok_go 1 ?_
              exact sy_next 0 _ g' (by kernel_rfl) (by kernel_rfl) (ih (k + 1, .slice (some ⟨b3, 0, none⟩) (2 ^ n) (2 * 2 ^ n + 1)) _ g' ⟨hlt, ext_of (Xg.trans (Y1.trans Y2)) hbn n' o', .inr ⟨b3, 2 ^ n, _, Nat.one_le_two_pow, by omega, rfl, R'⟩, _, R'⟩ (show 2 - (k + 1) < 2 - k by omega) ⟨by kernel_rfl, by kernel_rfl, by kernel_rfl, (by kernel_rfl : _ = Value.int .i64 (IntKind.wrap .i64 (Int.ofNat (k + 1)))).trans (by rw [wrap_nat (by omega)]), trivial⟩)
            · intro _
              refine ok_go 1 ?_
              exact sy_next 0 _ g2 (by kernel_rfl) (by kernel_rfl) (ih (k + 1, .slice (some ⟨b3, 0, none⟩) (2 ^ n) (2 * 2 ^ n + 1)) _ g2 ⟨hlt, Xg.trans (Y1.trans Y2), .inr ⟨b3, 2 ^ n, _, Nat.one_le_two_pow, by omega, rfl, R.ext (Y1.trans Y2)⟩, _, R.ext (Y1.trans Y2)⟩ (show 2 - (k + 1) < 2 - k by omega) ⟨by kernel_rfl, by kernel_rfl, by kernel_rfl, (by kernel_rfl : _ = Value.int .i64 (IntKind.wrap .i64 (Int.ofNat (k + 1)))).trans (by rw [wrap_nat (by omega)]), trivial⟩)
          · intro _
            refine ok_go 7 ?_
            exact sy_next 0 _ g2 (by kernel_rfl) (by kernel_rfl) (ih (k + 1, .slice (some ⟨b3, 0, none⟩) (2 ^ n) (2 * 2 ^ n + 1)) _ g2 ⟨hlt, Xg.trans (Y1.trans Y2), .inr ⟨b3, 2 ^ n, _, Nat.one_le_two_pow, by omega, rfl, R.ext (Y1.trans Y2)⟩, _, R.ext (Y1.trans Y2)⟩ (show 2 - (k + 1) < 2 - k by omega) ⟨by kernel_rfl, by kernel_rfl, by kernel_rfl, (by kernel_rfl : _ = Value.int .i64 (IntKind.wrap .i64 (Int.ofNat (k + 1)))).trans (by rw [wrap_nat (by omega)]), trivial⟩)
        · exact absurd yf nf
      · rcases hg with ⟨nf, _⟩ | ⟨_, b12, rfl, hb12, B12⟩
        · exact absurd yf nf
        · have hbo := U.U.bo _ (2 ^ q) b11 (2 * 2 ^ q + 1) b12 (2 * 2 ^ q + 1) g2 (Nat.pow_le_pow_right (n := 2) (by decide) hq) (B11.ext Y2) B12
          refine ok_go 0 ?_
          refine sy_call 0 (by kernel_rfl) f1e ?_
          refine ok_go 3 ?_
          refine sy_call 0 (by kernel_rfl) (e33 g1) ?_
          refine ok_go 2 ?_
          refine sy_call 0 (by kernel_rfl) f2e ?_
          refine ok_go 8 ?_
          refine sy_call 0 (by kernel_rfl) hbo ?_
          refine ok_go 6 ?_
          refine sy_test 0 (decide (Int.ofNat w.length > 0)) (by kernel_rfl) ?_ ?_
          · intro hl
            have hl : 0 < w.length := by have := of_decide_eq_true hl; simp at this; omega
            obtain ⟨pp, p1, p2⟩ := (V.ext (Xg.trans (Y1.trans Y2))).read (P := Try.prog) (kd := .i64) uI zI agI (k := 0) (v := I (w[0])) (by rw [List.getElem?_map, List.getElem?_eq_getElem hl]; rfl)
            refine ok_go 1 ?_
            refine sy_load 0 (r := indexAddrOp Try.prog 50 (.slice va w.length vc) (J 0)) (h' := g2) (by kernel_rfl) p1 ?_
            refine ok_go 1 ?_
            refine sy_load 0 (r := loadT Try.prog g2 3 pp) (h' := g2) (by kernel_rfl) p2 ?_
            refine ok_go 5 ?_
            refine sy_test 0 ((w[0]).tmod 3 == 0) (by kernel_rfl) ?_ ?_
            · intro _
              have hix : w.length % 2 ^ n < 2 ^ n := Nat.mod_lt _ (Nat.two_pow_pos n)
              obtain ⟨g', st, R', n', o'⟩ := (R.ext (Y1.trans Y2)).store hix (IntKind.wrap .i64 (r (w.length % 2 ^ n) + 1))
              refine ok_go 4 ?_
              refine sy_any 0 (p := fun y => y = .int .u64 (Int.ofNat (w.length % 2 ^ n))) (h' := g2) ⟨.int .u64 ((IntKind.wrap .u64 (Int.ofNat w.length)).tmod (Int.ofNat (2 ^ n))), by rw [u64_nat (by omega)]; rfl, ?_⟩ ?_
              · rcases (by omega : n = 0 ∨ n = 1 ∨ n = 2 ∨ n = 3 ∨ n = 4 ∨ n = 5 ∨ n = 6) with rfl | rfl | rfl | rfl | rfl | rfl | rfl <;> kernel_rfl
              rintro _ rfl
              refine ok_go 0 ?_
              refine sy_load 0 (r := indexAddrOp Try.prog 50 (.slice (some ⟨b3, 0, none⟩) (2 ^ n) (2 * 2 ^ n + 1)) (.int .u64 (Int.ofNat (w.length % 2 ^ n)))) (h' := g2) (by kernel_rfl) (idxU hix) ?_
              refine ok_go 0 ?_
              refine sy_load 0 (r := loadT Try.prog g2 3 (ptr b3 (w.length % 2 ^ n))) (h' := g2) (by kernel_rfl) ((R.ext (Y1.trans Y2)).read hix) ?_
              refine ok_go 1 ?_
              refine sy_load 0 (r := indexAddrOp Try.prog 50 (.slice (some ⟨b3, 0, none⟩) (2 ^ n) (2 * 2 ^ n + 1)) (.int .u64 (Int.ofNat (w.length % 2 ^ n)))) (h' := g2) (by kernel_rfl) (idxU hix) ?_
              refine ok_go 0 ?_
              refine sy_store 0 (r := storeT Try.prog g2 3 (ptr b3 (w.length % 2 ^ n)) (I (IntKind.wrap .i64 (r (w.length % 2 ^ n) + 1)))) (by kernel_rfl) st ?_
              refine ok_go 1 ?_
              exact sy_next 0 _ g' (by kernel_rfl) (by kernel_rfl) (ih (k + 1, .slice (some ⟨b3, 0, none⟩) (2 ^ n) (2 * 2 ^ n + 1)) _ g' ⟨hlt, ext_of (Xg.trans (Y1.trans Y2)) hbn n' o', .inr ⟨b3, 2 ^ n, _, Nat.one_le_two_pow, by omega, rfl, R'⟩, _, R'⟩ (show 2 - (k + 1) < 2 - k by omega) ⟨by kernel_rfl, by kernel_rfl, by kernel_rfl, (by kernel_rfl : _ = Value.int .i64 (IntKind.wrap .i64 (Int.ofNat (k + 1)))).trans (by rw [wrap_nat (by omega)]), trivial⟩)
            · intro _
              refine ok_go 1 ?_
              exact sy_next 0 _ g2 (by kernel_rfl) (by kernel_rfl) (ih (k + 1, .slice (some ⟨b3, 0, none⟩) (2 ^ n) (2 * 2 ^ n + 1)) _ g2 ⟨hlt, Xg.trans (Y1.trans Y2), .inr ⟨b3, 2 ^ n, _, Nat.one_le_two_pow, by omega, rfl, R.ext (Y1.trans Y2)⟩, _, R.ext (Y1.trans Y2)⟩ (show 2 - (k + 1) < 2 - k by omega) ⟨by kernel_rfl, by kernel_rfl, by kernel_rfl, (by kernel_rfl : _ = Value.int .i64 (IntKind.wrap .i64 (Int.ofNat (k + 1)))).trans (by rw [wrap_nat (by omega)]), trivial⟩)
          · intro _
            refine ok_go 7 ?_
            exact sy_next 0 _ g2 (by kernel_rfl) (by kernel_rfl) (ih (k + 1, .slice (some ⟨b3, 0, none⟩) (2 ^ n) (2 * 2 ^ n + 1)) _ g2 ⟨hlt, Xg.trans (Y1.trans Y2), .inr ⟨b3, 2 ^ n, _, Nat.one_le_two_pow, by omega, rfl, R.ext (Y1.trans Y2)⟩, _, R.ext (Y1.trans Y2)⟩ (show 2 - (k + 1) < 2 - k by omega) ⟨by kernel_rfl, by kernel_rfl, by kernel_rfl, (by kernel_rfl : _ = Value.int .i64 (IntKind.wrap .i64 (Int.ofNat (k + 1)))).trans (by rw [wrap_nat (by omega)]), trivial⟩)
  · intro hlt
    refine ok_go 0 ?_
    refine sy_call 0 (by kernel_rfl) (U.U.aw g) ?_
    refine ok_go 0 ?_
    exact sy_done 0 (v := .bool true) (h := g) (by kernel_rfl) rfl
end Go.Proofs.Ytnfboopfpkaeaaa
namespace Go.Proofs.Ytnfboopfpkaeaaa
open Go Go.Eng Nim
set_option maxRecDepth 100000
theorem from_no (N lf m : Nat) (a : Option Addr) (c : Nat) (z : Value) (h : Hp) (sz : ∀ h, Ev lf m 56 [J N] h = some (.tuple #[z, .bool false], h)) : Ev lf (m + 1) 32 [.slice a N c] h = some (.tuple #[.slice none 0 0, I 70], h) := by
  refine fn_eq ?_
  refine ok_go 1 ?_
  refine sy_call 0 (by kernel_rfl) (sz h) ?_
  refine ok_go 4 ?_
  exact sy_done 0 (v := .tuple #[.slice none 0 0, I 70]) (h := h) (by kernel_rfl) ⟨rfl, rfl⟩
theorem rlow (k : Nat) : RLow 100000 (k + 20) where
  hlf := by decide
  va := fun b h => value_of b (k + 10) h
  on := fun z h hz => ones_of hz k h
theorem upper5 (k : Nat) : Upper5 100000 (k + 40) where
  U := upper (k + 18)
  dgr := fun f n b c h hn A => deg_of f n 100000 (k + 39) hn (by decide) (fun a c h => check_of n a c 100000 (k + 38) h fun h => size_of n hn (k + 28) h) (fun z h hz => count_of hz (k + 19) h) b c h (reals_of f n 100000 (k + 38) (lower n (k + 18) hn) (some ⟨b, 0, none⟩) c h (A.rds c))
  rrm := fun f n b c h hn A => rrem_of f n 100000 (k + 39) hn (rlow (k + 19)) b c h A
  it := fun f N a ca b cb h hN A B => ints_of f N 100000 (k + 39) a ca b cb hN (by decide) h A B
  rre := fun f n b c h hn A => rreal_of f n 100000 (k + 39) hn (rlow (k + 19)) b c h A
  rdg := fun f n b c h hn A => rdeg_of f n 100000 (k + 39) hn (rlow (k + 19)) b c h (rreal_of f n 100000 (k + 38) hn (rlow (k + 18)) b c h A)
  rsp := fun f n b c h hn A => rspec_of f n 100000 (k + 39) hn (rlow (k + 19)) b c h A
  ln := fun N hN => by
    rcases len_all hN with ⟨n, hn, rfl⟩ | h
    · exact .inl ⟨n, hn, rfl, fun h => rbits_of n hn (k + 20) h⟩
    · exact .inr ⟨(h (k + 20)).2, fun a c g => from_no N 100000 (k + 39) a c _ g (h (k + 19)).1⟩
  fg := fun v n b c h hn A => from_gen v n 100000 (k + 39) (lower n (k + 19) hn) b c h A
  rfr := fun v n b c h hn A => rfrom_of v n 100000 (k + 39) hn (by decide) b c h A
theorem said5 (x a0 a1 : Int) (w : List Int) (hw : w.length < 2 ^ 63) (va : Option Addr) (vc : Nat) (h : Hp) (V : Rds h (.slice va w.length vc) (w.map I)) (cut : (va = none ∧ w = [] ∧ vc = 0) ∨ ∃ a, va = some a ∧ ∀ K, K ≤ w.length → ∃ y, sliceOp Try.prog 50 (.slice (some a) w.length vc) none (some (J K)) none = some y ∧ Rds h y ((w.take K).map I)) : ∃ H, evInv Try.prog orc 100000 100 (.fn 5 [.int .u64 x, .agg #[I a0, I a1], .slice va w.length vc]) h = some (.bool true, H) :=
  s5 x a0 a1 w hw va vc 100000 99 (upper5 59) h V cut
end Go.Proofs.Ytnfboopfpkaeaaa
/- A slice of ints that is an argument, as the evaluator sees it: a window that is read alone, and what a part of it is. -/
namespace Go.Proofs.Ytnfboopfpkaeaaa
open Go Go.Eng Nim Go.ChangeShapes
set_option maxRecDepth 100000
section
variable {HH : Type} {enc : TypeId × Value → HH} {B : Prot} {w0 w : World}
theorem cell_block {w : World} {a : Addr} {v : Value} (h : w.cell? a = some v) : ∃ arr e fz, w.heap[a.block]? = some (.cells arr e fz) ∧ a.spot = none ∧ arr[a.off]? = some v := by
  unfold World.cell? at h
  split at h
  · rename_i c e fz hb
    split at h
    · cases h
    · rename_i hs
      refine ⟨c, e, fz, hb, ?_, h⟩
      cases hq : a.spot with
      | none => rfl
      | some q => rw [hq] at hs; simp at hs
  · cases h
theorem add_spot {a : Addr} (h : a.spot = none) (i : Nat) : a.add i = ⟨a.block, a.off + i, none⟩ := by
  obtain ⟨b, o, s⟩ := a
  simp only at h
  subst h
  unfold Addr.add
  split
  · rename_i h0; subst h0; rfl
  · rfl
theorem takeN_take : ∀ {n : Nat} {l : List Value} {r : List Value}, takeN n l = some r → ∀ k, k ≤ n → takeN k l = some (r.take k)
  | _, _, _, _, 0, _ => by simp [takeN]
  | 0, _, _, _, k + 1, hk => absurd hk (by omega)
  | n + 1, [], _, h, k + 1, _ => by simp [takeN] at h
  | n + 1, v :: l, r, h, k + 1, hk => by
    unfold takeN at h
    split at h
    · rename_i l' hl'
      cases h
      unfold takeN
      rw [takeN_take hl' k (by omega)]
      rfl
    · cases h
/-- The value of a part from the beginning. -/
theorem slice_val {i off len cap K : Nat} (h : K ≤ cap) : ∃ c, sliceOp Try.prog 50 (.slice (some ⟨i, off, none⟩) len (2 * cap)) none (some (J K)) none = some (.slice (some ⟨i, off, none⟩) K c) := by
  have hd : 2 * cap / 2 = cap := by omega
  have hm : 2 * cap % 2 = 0 := by omega
  have hs : sizeT Try.prog 3 = some 1 := zI
  simp only [sliceOp, uI, hs, sliceV, hd, hm, Go.Eng.bound, Option.isSome_none, show natOf (J K) = some K from rfl, Bool.false_eq_true, if_false, Nat.ble_eq_true_of_le h, Nat.ble_eq_true_of_le (Nat.zero_le cap), show Nat.beq 0 1 = false from rfl, Bool.false_and]
  cases hb : Nat.beq cap 0
  · exact ⟨2 * cap, by simp⟩
  · exact ⟨0, by simp⟩
theorem openInts {E : Env} {h : Hp} (H : HpOK Try.prog B w0 E h w) (hB : ∀ k, k < w.heap.size → B.ro k) {fuel : Nat} {c : Value} {x : DataW HH × List MemPlace}
    (ht : DataW.trod enc Try.prog w 0 (fun _ => true) true fuel 50 [c] = some x) :
    ∃ (E' : Env) (h' : Hp) (va : Option Addr) (vc : Nat) (r : List Int), HpOK Try.prog B w0 E' h' w ∧ con E' (.slice va r.length vc) = c ∧ sc h'.next (.slice va r.length vc) = true ∧ r.length < 2 ^ 63 ∧ Rds h' (.slice va r.length vc) (r.map I) ∧
      ((va = none ∧ r = [] ∧ vc = 0) ∨ ∃ a, va = some a ∧ ∀ K, K ≤ r.length → ∃ y, sliceOp Try.prog 50 (.slice (some a) r.length vc) none (some (J K)) none = some y ∧ Rds h' y ((r.take K).map I)) := by
  rcases open_ints (k := .i64) uI (by kernel_rfl) (by kernel_rfl) ht with ⟨hc, _⟩ | ⟨a, len, cap, zs, hc, _, hlc, hcm, hzl, _, hcell, hwf⟩
  · simp only [List.cons.injEq, and_true] at hc
    subst hc
    exact ⟨E, h, none, 0, [], H, by simp [con], rfl, by decide, .inl ⟨⟨none, rfl⟩, rfl⟩, .inl ⟨rfl, rfl, rfl⟩⟩
  · simp only [List.cons.injEq, and_true] at hc
    subst hc
    simp only [if_true] at hzl
    have hspot : 0 < cap → a.spot = none := fun hp => by
      have := hcell 0 (by omega)
      obtain ⟨_, _, _, _, h2, _⟩ := cell_block this
      unfold Addr.add at h2
      simpa using h2
    have hcl : ∀ i (v : Value), ((zs.take len).map I)[i]? = some v → w.cell? (a.add i) = some (con E v) := fun i v hv => by
      have hil : i < len ∧ i < zs.length := by
        have := (List.getElem?_eq_some_iff.1 hv).1
        simp at this
        exact ⟨by omega, by omega⟩
      have := hcell i hil.2
      rw [this]
      rw [List.getElem?_map, List.getElem?_take, if_pos hil.1, List.getElem?_eq_getElem hil.2] at hv
      simp only [Option.map_some, Option.some.injEq] at hv
      subst hv
      rw [List.getD_eq_getElem?_getD, List.getElem?_eq_getElem hil.2]
      simp [con]
    have hm : maxLen = 2 ^ 63 - 1 := rfl
    have hlr : (zs.take len).length = len := by rw [List.length_take]; omega
    generalize zs.take len = r at hcl hlr
    subst hlr
    cases r with
    | nil =>
      refine ⟨E.ext h.next a.block 0, ⟨h.objs, h.next + 1⟩, some ⟨h.next, a.off, a.spot⟩, 2 * cap, [], H.bump a.block, ?_, by simp [sc], by decide, ?_, .inr ⟨_, rfl, fun K hK => ?_⟩⟩
      · obtain ⟨b, o, s⟩ := a
        cases s with
        | none => simp [con, conCap]
        | some q =>
          have hc : cap = 0 := Nat.eq_zero_of_not_pos fun hp => by have := hspot hp; simp at this
          subst hc
          simp [con, conCap, conOff, conSpot]
      · cases hsp : a.spot with
        | none => exact .inr ⟨h.next, a.off, _, rfl, fun hn => absurd rfl hn⟩
        | some q =>
          have hc : cap = 0 := Nat.eq_zero_of_not_pos fun hp => by have := hspot hp; rw [hsp] at this; cases this
          subst hc
          exact .inl ⟨⟨_, rfl⟩, rfl⟩
      · obtain rfl : K = 0 := by simpa using hK
        cases hsp : a.spot with
        | none =>
          obtain ⟨c, e⟩ := slice_val (i := h.next) (off := a.off) (len := 0) (Nat.zero_le cap)
          exact ⟨_, e, .inr ⟨h.next, a.off, _, rfl, fun hn => absurd rfl hn⟩⟩
        | some q =>
          have hc : cap = 0 := Nat.eq_zero_of_not_pos fun hp => by have := hspot hp; rw [hsp] at this; cases this
          subst hc
          exact ⟨.slice (some ⟨h.next, a.off, some q⟩) 0 0, by kernel_rfl, .inl ⟨⟨_, rfl⟩, rfl⟩⟩
    | cons v r =>
      have h0 := hcl 0 (I v) rfl
      have hsp : a.spot = none := hspot (by simp at hlc; omega)
      obtain ⟨arr, e, fz, hb, _, ha⟩ := cell_block h0
      rw [add_spot hsp] at ha hb
      have ha0 : a.off + 0 < arr.size := (Array.getElem?_eq_some_iff.1 ha).1
      have hall : ∀ u ∈ (v :: r).map I, ∃ z, u = I z := fun u hu => by
        obtain ⟨z, _, rfl⟩ := List.mem_map.1 hu
        exact ⟨z, rfl⟩
      have hR := H.newRo (m := a.block) (off := a.off) (arr := arr) (cs := (v :: r).map I) (e := e) (hB _ (Array.getElem?_eq_some_iff.1 hb).1) hb (by omega) (fun i u hu => by
        have hi := hcl i u hu
        obtain ⟨arr', e', fz', hb', _, ha'⟩ := cell_block hi
        rw [add_spot hsp] at hb' ha'
        rw [hb] at hb'
        cases hb'
        exact ha') (by rw [scL_iff]; intro u hu; obtain ⟨z, rfl⟩ := hall u hu; rfl) (fun u hu => by obtain ⟨z, rfl⟩ := hall u hu; rfl)
      have hld : ∀ K, K ≤ (v :: r).length → loadN (h.new (.ro a.off ((v :: r).map I) e)) h.next a.off K = some (((v :: r).take K).map I) := by
        intro K hK
        unfold loadN
        rw [get_new]
        have hble : Nat.ble a.off a.off = true := Nat.ble_eq_true_of_le (Nat.le_refl _)
        simp only [hble, Nat.sub_self, List.drop_zero]
        have := takeN_take (takeN_all ((v :: r).map I)) K (by simpa using hK)
        rw [this, List.map_take]
      have hrd : ∀ K c, K ≤ (v :: r).length → Rds (h.new (.ro a.off ((v :: r).map I) e)) (.slice (some ⟨h.next, a.off, none⟩) K c) (((v :: r).take K).map I) := by
        intro K c hK
        have hlen : (((v :: r).take K).map I).length = K := by rw [List.length_map, List.length_take, Nat.min_eq_left hK]
        refine .inr ⟨h.next, a.off, c, by rw [hlen], fun _ => ⟨Nat.lt_succ_self _, ?_⟩⟩
        rw [hlen]
        exact hld K hK
      refine ⟨_, _, some ⟨h.next, a.off, none⟩, 2 * cap, v :: r, hR, ?_, by simp [sc, Hp.new], by omega, ?_, .inr ⟨_, rfl, fun K hK => ?_⟩⟩
      · obtain ⟨b, o, s⟩ := a
        simp only at hsp
        subst hsp
        simp [con, conCap]
      · have := hrd (v :: r).length (2 * cap) (Nat.le_refl _)
        rwa [List.take_length] at this
      · obtain ⟨c, e⟩ := slice_val (i := h.next) (off := a.off) (len := (v :: r).length) (K := K) (cap := cap) (by omega)
        exact ⟨_, e, hrd K c hK⟩
end
end Go.Proofs.Ytnfboopfpkaeaaa
