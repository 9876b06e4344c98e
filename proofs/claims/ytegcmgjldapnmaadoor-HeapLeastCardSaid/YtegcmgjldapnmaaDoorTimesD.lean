/- TimesD: contracts of functions. -/
import Derived.Test.YtegcmgjldapnmaaDoorFieldA
namespace Go.Proofs.YtegcmgjldapnmaaDoor
open Go Go.Eng Nim
set_option maxRecDepth 100000
theorem c37_1 (a b : Nat) (ha : a < 2 ^ 63) (lf n : Nat) (h : Hp) : Ev lf (n + 1) 37 [J a, J b, J 1] h = some (J (a &&& b), h) := by
  refine fn_eq ?_
  refine ok_go 3 ?_
  exact sy_done 0 (v := .int .i64 (andI (Int.ofNat a) (Int.ofNat b))) (h := h) (by kernel_rfl) ⟨by rw [and_nat ha], rfl⟩

theorem c37_2 (a b : Nat) (ha : a < 2 ^ 2) (hb : b < 2 ^ 2) (lf n : Nat) (h : Hp)
    (ih : ∀ a b, a < 2 ^ 1 → b < 2 ^ 1 → Ev lf n 37 [J a, J b, J 1] h = some (J (nm 0 a b), h)) : Ev lf (n + 1) 37 [J a, J b, J 2] h = some (J (nm 1 a b), h) := by
  have pw : 2 ^ 0 = 1 := rfl
  have e1 : a / 2 ^ 1 < 2 ^ 1 := by omega
  have e2 : b / 2 ^ 1 < 2 ^ 1 := by omega
  have e3 : a % 2 ^ 1 < 2 ^ 1 := by omega
  have e4 : b % 2 ^ 1 < 2 ^ 1 := by omega
  have e5 := nm_lt 0 _ _ e1 e2
  have e6 := nm_lt 0 _ _ e3 e4
  have e7 := nm_lt 0 _ _ (Nat.xor_lt_two_pow e1 e3) (Nat.xor_lt_two_pow e2 e4)
  have e8 := nm_lt 0 _ 1 e5 (by decide)
  rw [pw] at e5 e6 e7 e8
  have e9 := Nat.xor_lt_two_pow e7 e6
  have e10 := Nat.lt_of_lt_of_le e6 (show 2 ^ 1 ≤ 2 ^ 2 by decide)
  have e11 : (nm 0 ((a / 2 ^ 1) ^^^ (a % 2 ^ 1)) ((b / 2 ^ 1) ^^^ (b % 2 ^ 1)) ^^^ nm 0 (a % 2 ^ 1) (b % 2 ^ 1)) * 2 ^ 1 < 2 ^ 2 := by omega
  have e12 := Nat.xor_lt_two_pow e11 e10
  have m1 : ∀ {x : Nat}, x < 2 ^ 1 → x < 2 ^ 63 := fun h => by omega
  have m2 : ∀ {x : Nat}, x < 2 ^ 2 → x < 2 ^ 63 := fun h => by omega
  have an : ∀ {x : Nat}, x < 2 ^ 2 → andI (Int.ofNat x) 1 = Int.ofNat (x % 2 ^ 1) := fun {x} hx => by
    rw [show (1 : Int) = Int.ofNat 1 from rfl, and_nat (m2 hx), show (1 : Nat) = 2 ^ 1 - 1 from rfl, Nat.and_two_pow_sub_one_eq_mod]
  refine fn_eq ?_
  refine ok_go 12 ?_
  refine sy_call 0 (r := Ev lf n 37 [.int .i64 (shrI (Int.ofNat a) 1), .int .i64 (shrI (Int.ofNat b) 1), J 1] h) (by kernel_rfl) (v := J (nm 0 (a / 2 ^ 1) (b / 2 ^ 1))) (h' := h)
    (by rw [shr_nat, shr_nat]; exact ih _ _ e1 e2) ?_
  refine ok_go 0 ?_
  refine sy_call 0 (r := Ev lf n 37 [.int .i64 (andI (Int.ofNat a) 1), .int .i64 (andI (Int.ofNat b) 1), J 1] h) (by kernel_rfl) (v := J (nm 0 (a % 2 ^ 1) (b % 2 ^ 1))) (h' := h)
    (by rw [an ha, an hb]; exact ih _ _ e3 e4) ?_
  refine ok_go 2 ?_
  refine sy_call 0 (r := Ev lf n 37 [.int .i64 (xorI (shrI (Int.ofNat a) 1) (andI (Int.ofNat a) 1)), .int .i64 (xorI (shrI (Int.ofNat b) 1) (andI (Int.ofNat b) 1)), J 1] h) (by kernel_rfl) (v := J (nm 0 ((a / 2 ^ 1) ^^^ (a % 2 ^ 1)) ((b / 2 ^ 1) ^^^ (b % 2 ^ 1)))) (h' := h)
    (by rw [an ha, an hb, shr_nat, shr_nat, xor_nat (m1 e1) (m1 e3), xor_nat (m1 e2) (m1 e4)]; exact ih _ _ (Nat.xor_lt_two_pow e1 e3) (Nat.xor_lt_two_pow e2 e4)) ?_
  refine ok_go 7 ?_
  refine sy_call 0 (r := Ev lf n 37 [J (nm 0 (a / 2 ^ 1) (b / 2 ^ 1)), J 1, J 1] h) (by kernel_rfl) (v := J (nm 0 (nm 0 (a / 2 ^ 1) (b / 2 ^ 1)) 1)) (h' := h)
    (ih _ _ e5 (by decide)) ?_
  refine ok_go 1 ?_
  refine sy_done 0 (h := h) (v := .int .i64 (xorI (xorI (shlI (xorI (Int.ofNat (nm 0 ((a / 2 ^ 1) ^^^ (a % 2 ^ 1)) ((b / 2 ^ 1) ^^^ (b % 2 ^ 1)))) (Int.ofNat (nm 0 (a % 2 ^ 1) (b % 2 ^ 1)))) 1) (Int.ofNat (nm 0 (a % 2 ^ 1) (b % 2 ^ 1)))) (Int.ofNat (nm 0 (nm 0 (a / 2 ^ 1) (b / 2 ^ 1)) 1)))) (by kernel_rfl) ⟨?_, rfl⟩
  rw [xor_nat (m1 e7) (m1 e6), shl_nat (m2 e11), xor_nat (m2 e11) (m1 e6), xor_nat (m2 e12) (m1 e8)]
  rfl

theorem c37_4 (a b : Nat) (ha : a < 2 ^ 4) (hb : b < 2 ^ 4) (lf n : Nat) (h : Hp)
    (ih : ∀ a b, a < 2 ^ 2 → b < 2 ^ 2 → Ev lf n 37 [J a, J b, J 2] h = some (J (nm 1 a b), h)) : Ev lf (n + 1) 37 [J a, J b, J 4] h = some (J (nm 2 a b), h) := by
  have pw : 2 ^ 1 = 2 := rfl
  have e1 : a / 2 ^ 2 < 2 ^ 2 := by omega
  have e2 : b / 2 ^ 2 < 2 ^ 2 := by omega
  have e3 : a % 2 ^ 2 < 2 ^ 2 := by omega
  have e4 : b % 2 ^ 2 < 2 ^ 2 := by omega
  have e5 := nm_lt 1 _ _ e1 e2
  have e6 := nm_lt 1 _ _ e3 e4
  have e7 := nm_lt 1 _ _ (Nat.xor_lt_two_pow e1 e3) (Nat.xor_lt_two_pow e2 e4)
  have e8 := nm_lt 1 _ 2 e5 (by decide)
  rw [pw] at e5 e6 e7 e8
  have e9 := Nat.xor_lt_two_pow e7 e6
  have e10 := Nat.lt_of_lt_of_le e6 (show 2 ^ 2 ≤ 2 ^ 4 by decide)
  have e11 : (nm 1 ((a / 2 ^ 2) ^^^ (a % 2 ^ 2)) ((b / 2 ^ 2) ^^^ (b % 2 ^ 2)) ^^^ nm 1 (a % 2 ^ 2) (b % 2 ^ 2)) * 2 ^ 2 < 2 ^ 4 := by omega
  have e12 := Nat.xor_lt_two_pow e11 e10
  have m1 : ∀ {x : Nat}, x < 2 ^ 2 → x < 2 ^ 63 := fun h => by omega
  have m2 : ∀ {x : Nat}, x < 2 ^ 4 → x < 2 ^ 63 := fun h => by omega
  have an : ∀ {x : Nat}, x < 2 ^ 4 → andI (Int.ofNat x) 3 = Int.ofNat (x % 2 ^ 2) := fun {x} hx => by
    rw [show (3 : Int) = Int.ofNat 3 from rfl, and_nat (m2 hx), show (3 : Nat) = 2 ^ 2 - 1 from rfl, Nat.and_two_pow_sub_one_eq_mod]
  refine fn_eq ?_
  refine ok_go 12 ?_
  refine sy_call 0 (r := Ev lf n 37 [.int .i64 (shrI (Int.ofNat a) 2), .int .i64 (shrI (Int.ofNat b) 2), J 2] h) (by kernel_rfl) (v := J (nm 1 (a / 2 ^ 2) (b / 2 ^ 2))) (h' := h)
    (by rw [shr_nat, shr_nat]; exact ih _ _ e1 e2) ?_
  refine ok_go 0 ?_
  refine sy_call 0 (r := Ev lf n 37 [.int .i64 (andI (Int.ofNat a) 3), .int .i64 (andI (Int.ofNat b) 3), J 2] h) (by kernel_rfl) (v := J (nm 1 (a % 2 ^ 2) (b % 2 ^ 2))) (h' := h)
    (by rw [an ha, an hb]; exact ih _ _ e3 e4) ?_
  refine ok_go 2 ?_
  refine sy_call 0 (r := Ev lf n 37 [.int .i64 (xorI (shrI (Int.ofNat a) 2) (andI (Int.ofNat a) 3)), .int .i64 (xorI (shrI (Int.ofNat b) 2) (andI (Int.ofNat b) 3)), J 2] h) (by kernel_rfl) (v := J (nm 1 ((a / 2 ^ 2) ^^^ (a % 2 ^ 2)) ((b / 2 ^ 2) ^^^ (b % 2 ^ 2)))) (h' := h)
    (by rw [an ha, an hb, shr_nat, shr_nat, xor_nat (m1 e1) (m1 e3), xor_nat (m1 e2) (m1 e4)]; exact ih _ _ (Nat.xor_lt_two_pow e1 e3) (Nat.xor_lt_two_pow e2 e4)) ?_
  refine ok_go 7 ?_
  refine sy_call 0 (r := Ev lf n 37 [J (nm 1 (a / 2 ^ 2) (b / 2 ^ 2)), J 2, J 2] h) (by kernel_rfl) (v := J (nm 1 (nm 1 (a / 2 ^ 2) (b / 2 ^ 2)) 2)) (h' := h)
    (ih _ _ e5 (by decide)) ?_
  refine ok_go 1 ?_
  refine sy_done 0 (h := h) (v := .int .i64 (xorI (xorI (shlI (xorI (Int.ofNat (nm 1 ((a / 2 ^ 2) ^^^ (a % 2 ^ 2)) ((b / 2 ^ 2) ^^^ (b % 2 ^ 2)))) (Int.ofNat (nm 1 (a % 2 ^ 2) (b % 2 ^ 2)))) 2) (Int.ofNat (nm 1 (a % 2 ^ 2) (b % 2 ^ 2)))) (Int.ofNat (nm 1 (nm 1 (a / 2 ^ 2) (b / 2 ^ 2)) 2)))) (by kernel_rfl) ⟨?_, rfl⟩
  rw [xor_nat (m1 e7) (m1 e6), shl_nat (m2 e11), xor_nat (m2 e11) (m1 e6), xor_nat (m2 e12) (m1 e8)]
  rfl

theorem c37_8 (a b : Nat) (ha : a < 2 ^ 8) (hb : b < 2 ^ 8) (lf n : Nat) (h : Hp)
    (ih : ∀ a b, a < 2 ^ 4 → b < 2 ^ 4 → Ev lf n 37 [J a, J b, J 4] h = some (J (nm 2 a b), h)) : Ev lf (n + 1) 37 [J a, J b, J 8] h = some (J (nm 3 a b), h) := by
  have pw : 2 ^ 2 = 4 := rfl
  have e1 : a / 2 ^ 4 < 2 ^ 4 := by omega
  have e2 : b / 2 ^ 4 < 2 ^ 4 := by omega
  have e3 : a % 2 ^ 4 < 2 ^ 4 := by omega
  have e4 : b % 2 ^ 4 < 2 ^ 4 := by omega
  have e5 := nm_lt 2 _ _ e1 e2
  have e6 := nm_lt 2 _ _ e3 e4
  have e7 := nm_lt 2 _ _ (Nat.xor_lt_two_pow e1 e3) (Nat.xor_lt_two_pow e2 e4)
  have e8 := nm_lt 2 _ 8 e5 (by decide)
  rw [pw] at e5 e6 e7 e8
  have e9 := Nat.xor_lt_two_pow e7 e6
  have e10 := Nat.lt_of_lt_of_le e6 (show 2 ^ 4 ≤ 2 ^ 8 by decide)
  have e11 : (nm 2 ((a / 2 ^ 4) ^^^ (a % 2 ^ 4)) ((b / 2 ^ 4) ^^^ (b % 2 ^ 4)) ^^^ nm 2 (a % 2 ^ 4) (b % 2 ^ 4)) * 2 ^ 4 < 2 ^ 8 := by omega
  have e12 := Nat.xor_lt_two_pow e11 e10
  have m1 : ∀ {x : Nat}, x < 2 ^ 4 → x < 2 ^ 63 := fun h => by omega
  have m2 : ∀ {x : Nat}, x < 2 ^ 8 → x < 2 ^ 63 := fun h => by omega
  have an : ∀ {x : Nat}, x < 2 ^ 8 → andI (Int.ofNat x) 15 = Int.ofNat (x % 2 ^ 4) := fun {x} hx => by
    rw [show (15 : Int) = Int.ofNat 15 from rfl, and_nat (m2 hx), show (15 : Nat) = 2 ^ 4 - 1 from rfl, Nat.and_two_pow_sub_one_eq_mod]
  refine fn_eq ?_
  refine ok_go 12 ?_
  refine sy_call 0 (r := Ev lf n 37 [.int .i64 (shrI (Int.ofNat a) 4), .int .i64 (shrI (Int.ofNat b) 4), J 4] h) (by kernel_rfl) (v := J (nm 2 (a / 2 ^ 4) (b / 2 ^ 4))) (h' := h)
    (by rw [shr_nat, shr_nat]; exact ih _ _ e1 e2) ?_
  refine ok_go 0 ?_
  refine sy_call 0 (r := Ev lf n 37 [.int .i64 (andI (Int.ofNat a) 15), .int .i64 (andI (Int.ofNat b) 15), J 4] h) (by kernel_rfl) (v := J (nm 2 (a % 2 ^ 4) (b % 2 ^ 4))) (h' := h)
    (by rw [an ha, an hb]; exact ih _ _ e3 e4) ?_
  refine ok_go 2 ?_
  refine sy_call 0 (r := Ev lf n 37 [.int .i64 (xorI (shrI (Int.ofNat a) 4) (andI (Int.ofNat a) 15)), .int .i64 (xorI (shrI (Int.ofNat b) 4) (andI (Int.ofNat b) 15)), J 4] h) (by kernel_rfl) (v := J (nm 2 ((a / 2 ^ 4) ^^^ (a % 2 ^ 4)) ((b / 2 ^ 4) ^^^ (b % 2 ^ 4)))) (h' := h)
    (by rw [an ha, an hb, shr_nat, shr_nat, xor_nat (m1 e1) (m1 e3), xor_nat (m1 e2) (m1 e4)]; exact ih _ _ (Nat.xor_lt_two_pow e1 e3) (Nat.xor_lt_two_pow e2 e4)) ?_
  refine ok_go 7 ?_
  refine sy_call 0 (r := Ev lf n 37 [J (nm 2 (a / 2 ^ 4) (b / 2 ^ 4)), J 8, J 4] h) (by kernel_rfl) (v := J (nm 2 (nm 2 (a / 2 ^ 4) (b / 2 ^ 4)) 8)) (h' := h)
    (ih _ _ e5 (by decide)) ?_
  refine ok_go 1 ?_
  refine sy_done 0 (h := h) (v := .int .i64 (xorI (xorI (shlI (xorI (Int.ofNat (nm 2 ((a / 2 ^ 4) ^^^ (a % 2 ^ 4)) ((b / 2 ^ 4) ^^^ (b % 2 ^ 4)))) (Int.ofNat (nm 2 (a % 2 ^ 4) (b % 2 ^ 4)))) 4) (Int.ofNat (nm 2 (a % 2 ^ 4) (b % 2 ^ 4)))) (Int.ofNat (nm 2 (nm 2 (a / 2 ^ 4) (b / 2 ^ 4)) 8)))) (by kernel_rfl) ⟨?_, rfl⟩
  rw [xor_nat (m1 e7) (m1 e6), shl_nat (m2 e11), xor_nat (m2 e11) (m1 e6), xor_nat (m2 e12) (m1 e8)]
  rfl

theorem c37_16 (a b : Nat) (ha : a < 2 ^ 16) (hb : b < 2 ^ 16) (lf n : Nat) (h : Hp)
    (ih : ∀ a b, a < 2 ^ 8 → b < 2 ^ 8 → Ev lf n 37 [J a, J b, J 8] h = some (J (nm 3 a b), h)) : Ev lf (n + 1) 37 [J a, J b, J 16] h = some (J (nm 4 a b), h) := by
  have pw : 2 ^ 3 = 8 := rfl
  have e1 : a / 2 ^ 8 < 2 ^ 8 := by omega
  have e2 : b / 2 ^ 8 < 2 ^ 8 := by omega
  have e3 : a % 2 ^ 8 < 2 ^ 8 := by omega
  have e4 : b % 2 ^ 8 < 2 ^ 8 := by omega
  have e5 := nm_lt 3 _ _ e1 e2
  have e6 := nm_lt 3 _ _ e3 e4
  have e7 := nm_lt 3 _ _ (Nat.xor_lt_two_pow e1 e3) (Nat.xor_lt_two_pow e2 e4)
  have e8 := nm_lt 3 _ 128 e5 (by decide)
  rw [pw] at e5 e6 e7 e8
  have e9 := Nat.xor_lt_two_pow e7 e6
  have e10 := Nat.lt_of_lt_of_le e6 (show 2 ^ 8 ≤ 2 ^ 16 by decide)
  have e11 : (nm 3 ((a / 2 ^ 8) ^^^ (a % 2 ^ 8)) ((b / 2 ^ 8) ^^^ (b % 2 ^ 8)) ^^^ nm 3 (a % 2 ^ 8) (b % 2 ^ 8)) * 2 ^ 8 < 2 ^ 16 := by omega
  have e12 := Nat.xor_lt_two_pow e11 e10
  have m1 : ∀ {x : Nat}, x < 2 ^ 8 → x < 2 ^ 63 := fun h => by omega
  have m2 : ∀ {x : Nat}, x < 2 ^ 16 → x < 2 ^ 63 := fun h => by omega
  have an : ∀ {x : Nat}, x < 2 ^ 16 → andI (Int.ofNat x) 255 = Int.ofNat (x % 2 ^ 8) := fun {x} hx => by
    rw [show (255 : Int) = Int.ofNat 255 from rfl, and_nat (m2 hx), show (255 : Nat) = 2 ^ 8 - 1 from rfl, Nat.and_two_pow_sub_one_eq_mod]
  refine fn_eq ?_
  refine ok_go 12 ?_
  refine sy_call 0 (r := Ev lf n 37 [.int .i64 (shrI (Int.ofNat a) 8), .int .i64 (shrI (Int.ofNat b) 8), J 8] h) (by kernel_rfl) (v := J (nm 3 (a / 2 ^ 8) (b / 2 ^ 8))) (h' := h)
    (by rw [shr_nat, shr_nat]; exact ih _ _ e1 e2) ?_
  refine ok_go 0 ?_
  refine sy_call 0 (r := Ev lf n 37 [.int .i64 (andI (Int.ofNat a) 255), .int .i64 (andI (Int.ofNat b) 255), J 8] h) (by kernel_rfl) (v := J (nm 3 (a % 2 ^ 8) (b % 2 ^ 8))) (h' := h)
    (by rw [an ha, an hb]; exact ih _ _ e3 e4) ?_
  refine ok_go 2 ?_
  refine sy_call 0 (r := Ev lf n 37 [.int .i64 (xorI (shrI (Int.ofNat a) 8) (andI (Int.ofNat a) 255)), .int .i64 (xorI (shrI (Int.ofNat b) 8) (andI (Int.ofNat b) 255)), J 8] h) (by kernel_rfl) (v := J (nm 3 ((a / 2 ^ 8) ^^^ (a % 2 ^ 8)) ((b / 2 ^ 8) ^^^ (b % 2 ^ 8)))) (h' := h)
    (by rw [an ha, an hb, shr_nat, shr_nat, xor_nat (m1 e1) (m1 e3), xor_nat (m1 e2) (m1 e4)]; exact ih _ _ (Nat.xor_lt_two_pow e1 e3) (Nat.xor_lt_two_pow e2 e4)) ?_
  refine ok_go 7 ?_
  refine sy_call 0 (r := Ev lf n 37 [J (nm 3 (a / 2 ^ 8) (b / 2 ^ 8)), J 128, J 8] h) (by kernel_rfl) (v := J (nm 3 (nm 3 (a / 2 ^ 8) (b / 2 ^ 8)) 128)) (h' := h)
    (ih _ _ e5 (by decide)) ?_
  refine ok_go 1 ?_
  refine sy_done 0 (h := h) (v := .int .i64 (xorI (xorI (shlI (xorI (Int.ofNat (nm 3 ((a / 2 ^ 8) ^^^ (a % 2 ^ 8)) ((b / 2 ^ 8) ^^^ (b % 2 ^ 8)))) (Int.ofNat (nm 3 (a % 2 ^ 8) (b % 2 ^ 8)))) 8) (Int.ofNat (nm 3 (a % 2 ^ 8) (b % 2 ^ 8)))) (Int.ofNat (nm 3 (nm 3 (a / 2 ^ 8) (b / 2 ^ 8)) 128)))) (by kernel_rfl) ⟨?_, rfl⟩
  rw [xor_nat (m1 e7) (m1 e6), shl_nat (m2 e11), xor_nat (m2 e11) (m1 e6), xor_nat (m2 e12) (m1 e8)]
  rfl

theorem c37 (a b : Nat) (ha : a < 2 ^ 16) (hb : b < 2 ^ 16) (lf n : Nat) (h : Hp) : Ev lf (n + 5) 37 [J a, J b, J 16] h = some (J (nm 4 a b), h) :=
  c37_16 a b ha hb lf _ h fun a b ha hb => c37_8 a b ha hb lf _ h fun a b ha hb => c37_4 a b ha hb lf _ h fun a b ha hb => c37_2 a b ha hb lf _ h fun a b ha hb => c37_1 a b (by omega) lf _ h

theorem s13 (a b : Nat) (lf n : Nat) (h : Hp) (d : Ev lf n 37 [J a, J b, J 16] h = some (J (nm 4 a b), h)) : Ev lf (n + 1) 13 [J a, J b] h = some (J (nm 4 a b), h) := by
  refine fn_eq ?_
  refine ok_go 0 ?_
  refine sy_call 0 (by kernel_rfl) d ?_
  refine ok_go 0 ?_
  exact sy_done 0 (v := J (nm 4 a b)) (h := h) (by kernel_rfl) ⟨rfl, rfl⟩

theorem s18 (a m : Nat) (ha : a < 2 ^ 16) (hm : m < 2 ^ 63) (lf n : Nat) (hlf : 100 ≤ lf) (h : Hp) (d : ∀ a b h, a < 2 ^ 16 → b < 2 ^ 16 → ∃ H, Ev lf n 13 [J a, J b] h = some (J (nm 4 a b), H)) :
    ∃ H, Ev lf (n + 1) 18 [J a, J m] h = some (J (pwr 1 a m), H) := by
  refine fn_val ?_
  refine ok_go 0 ?_
  refine sy_loop 0 lf h (α := Nat × Nat × Nat × Nat) (fun s => [(5, J s.1), (0, J s.2.1), (1, J s.2.2.1)]) (fun s _ => s.1 < 2 ^ 16 ∧ s.2.1 < 2 ^ 16 ∧ s.2.2.1 < 2 ^ s.2.2.2 ∧ s.2.2.2 ≤ 63 ∧ pwr s.1 s.2.1 s.2.2.1 = pwr 1 a m) (fun s _ => s.2.2.2) (1, a, m, 63) (by kernel_rfl) (by kernel_rfl) ⟨by kernel_rfl, by kernel_rfl, by kernel_rfl, trivial⟩ (show 63 < lf by omega) ⟨show 1 < 2 ^ 16 by decide, ha, hm, show 63 ≤ 63 by omega, rfl⟩ ?_
  rintro k ⟨o, x, y, s⟩ f hh ⟨h1, h2, h3, h4, h5⟩ ih
  dsimp only at h1 h2 h3 h4 h5
  have hy63 : y < 2 ^ 63 := Nat.lt_of_lt_of_le h3 (Nat.pow_le_pow_right (by omega) h4)
  have hd : Value.int .i64 (IntKind.wrap .i64 ((Int.ofNat y).tdiv 2)) = J (y / 2) := by
    show Value.int .i64 (IntKind.wrap .i64 (Int.ofNat (y / 2))) = _
    rw [wrap_nat (by omega)]
  have mono : ∀ {f' : Fr} (o' x' : Nat) (h' : Hp), o' < 2 ^ 16 → x' < 2 ^ 16 → pwr o' x' (y / 2) = pwr 1 a m → 0 < y → f' 5 = J o' → f' 0 = J x' → f' 1 = J (y / 2) → Ok (fun v x => v = J (pwr 1 a m)) (cutFam (goS 0 (goS 0 (fnS Tryd.prog orc lf n 18 [J a, J m] h))) k f' h') := fun {f'} o' x' h' g1 g2 g3 g4 g5 g6 g7 => by
    have hs : 0 < s := by
      rcases s with _ | s
      · simp at h3; omega
      · omega
    have h2s : 2 ^ s = 2 * 2 ^ (s - 1) := by rw [← Nat.pow_succ']; congr 1; omega
    exact ih (o', x', y / 2, s - 1) f' h' ⟨g1, g2, (show y / 2 < 2 ^ (s - 1) by omega), (show s - 1 ≤ 63 by omega), g3⟩ (show s - 1 < s by omega) ⟨g5, g6, g7, trivial⟩
  refine ok_go 1 ?_
  refine sy_test 0 (decide (Int.ofNat y > 0)) (by kernel_rfl) ?_ ?_
  · intro hy
    have hy : 0 < y := by have := of_decide_eq_true hy; simpa using this
    refine ok_go 2 ?_
    refine sy_test 0 ((Int.ofNat y).tmod 2 == 1) (by kernel_rfl) ?_ ?_
    · intro ho
      have ho : y % 2 = 1 := by
        have h7 : Int.ofNat (y % 2) = Int.ofNat 1 := eq_of_beq ho
        exact Int.ofNat.inj h7
      obtain ⟨H1, e1⟩ := d o x hh h1 h2
      refine ok_go 0 ?_
      refine sy_call 0 (by kernel_rfl) e1 ?_
      obtain ⟨H2, e2⟩ := d x x H1 h2 h2
      refine ok_go 0 ?_
      refine sy_call 0 (by kernel_rfl) e2 ?_
      refine ok_go 1 ?_
      refine sy_next 0 (cutFam (goS 0 (goS 0 (fnS Tryd.prog orc lf n 18 [J a, J m] h))) k) H2 (by kernel_rfl) (by kernel_rfl) ?_
      refine mono (nm 4 o x) (nm 4 x x) H2 (nm_lt 4 _ _ h1 h2) (nm_lt 4 _ _ h2 h2) ?_ hy (by kernel_rfl) (by kernel_rfl) ((by kernel_rfl : _ = Value.int .i64 (IntKind.wrap .i64 ((Int.ofNat y).tdiv 2))).trans hd)
      rw [← h5, pwr.eq_1 o x y, if_neg (by omega), if_pos ho]
    · intro ho
      have ho : y % 2 ≠ 1 := fun hc => by
        have h7 : ((Int.ofNat (y % 2)) == 1) = false := ho
        rw [hc] at h7
        cases h7
      obtain ⟨H2, e2⟩ := d x x hh h2 h2
      refine ok_go 0 ?_
      refine sy_call 0 (by kernel_rfl) e2 ?_
      refine ok_go 1 ?_
      refine sy_next 0 (cutFam (goS 0 (goS 0 (fnS Tryd.prog orc lf n 18 [J a, J m] h))) k) H2 (by kernel_rfl) (by kernel_rfl) ?_
      refine mono o (nm 4 x x) H2 h1 (nm_lt 4 _ _ h2 h2) ?_ hy (by kernel_rfl) (by kernel_rfl) ((by kernel_rfl : _ = Value.int .i64 (IntKind.wrap .i64 ((Int.ofNat y).tdiv 2))).trans hd)
      rw [← h5, pwr.eq_1 o x y, if_neg (by omega), if_neg ho]
  · intro hy
    have hy : y = 0 := by have := of_decide_eq_false hy; simp at this; omega
    refine ok_go 0 ?_
    refine sy_done 0 (h := hh) (v := J o) (by kernel_rfl) ?_
    rw [← h5, hy, pwr]
    rfl

abbrev inF (x : Int) : Prop := 0 ≤ x ∧ x < 65536
theorem s15 (a : Int) (lf n : Nat) (h : Hp) (c : ∀ x h, Ev lf n 34 [.int .i64 x] h = some (.bool (decide (inF x)), h)) (d : ∀ x h, F x → ∃ H, Ev lf n 38 [J x, J 65534] h = some (J (pwr 1 x 65534), H)) :
    (¬ inF a → ∃ H, Ev lf (n + 1) 15 [.int .i64 a] h = some (.tuple #[.int .i64 0, .int .i64 1], H)) ∧ (a = 0 → ∃ H, Ev lf (n + 1) 15 [.int .i64 a] h = some (.tuple #[.int .i64 0, .int .i64 4], H)) ∧
    (∀ x : Nat, F x → x ≠ 0 → a = Int.ofNat x → ∃ H, Ev lf (n + 1) 15 [.int .i64 a] h = some (.tuple #[J (pwr 1 x 65534), .int .i64 0], H)) := by
  refine ⟨fun hn => ?_, fun h0 => ?_, fun x hx h0 e => ?_⟩
  · refine fn_val ?_
    refine ok_go 0 ?_
    refine sy_call 0 (by kernel_rfl) ((c a h).trans (by rw [decide_eq_false hn])) ?_
    refine ok_go 2 ?_
    exact sy_done 0 (v := .tuple #[.int .i64 0, .int .i64 1]) (h := h) (by kernel_rfl) rfl
  · subst h0
    refine fn_val ?_
    refine ok_go 0 ?_
    refine sy_call 0 (by kernel_rfl) ((c 0 h).trans (by rw [decide_eq_true (show inF 0 by decide)])) ?_
    refine ok_go 4 ?_
    exact sy_done 0 (v := .tuple #[.int .i64 0, .int .i64 4]) (h := h) (by kernel_rfl) rfl
  · subst e
    refine fn_val ?_
    refine ok_go 0 ?_
    refine sy_call 0 (by kernel_rfl) ((c (Int.ofNat x) h).trans (by rw [decide_eq_true (show inF (Int.ofNat x) from ⟨by simp, by simp; omega⟩)])) ?_
    refine ok_go 3 ?_
    refine sy_no 0 (b := Int.ofNat x == 0) (by kernel_rfl) (by
      cases hc : (Int.ofNat x == 0) with
      | false => rfl
      | true => exact absurd (Int.ofNat.inj (eq_of_beq hc)) h0) ?_
    obtain ⟨H, e⟩ := d x h hx
    refine ok_go 0 ?_
    refine sy_call 0 (by kernel_rfl) e ?_
    refine ok_go 0 ?_
    exact sy_done 0 (v := .tuple #[J (pwr 1 x 65534), .int .i64 0]) (h := H) (by kernel_rfl) rfl
theorem s16 (a : Int) (lf n : Nat) (h : Hp) (c : ∀ x h, Ev lf n 34 [.int .i64 x] h = some (.bool (decide (inF x)), h)) (d : ∀ x h, F x → ∃ H, Ev lf n 38 [J x, J 32768] h = some (J (pwr 1 x 32768), H)) :
    (¬ inF a → ∃ H, Ev lf (n + 1) 16 [.int .i64 a] h = some (.tuple #[.int .i64 0, .int .i64 1], H)) ∧
    (∀ x : Nat, F x → a = Int.ofNat x → ∃ H, Ev lf (n + 1) 16 [.int .i64 a] h = some (.tuple #[J (pwr 1 x 32768), .int .i64 0], H)) := by
  refine ⟨fun hn => ?_, fun x hx e => ?_⟩
  · refine fn_val ?_
    refine ok_go 0 ?_
    refine sy_call 0 (by kernel_rfl) ((c a h).trans (by rw [decide_eq_false hn])) ?_
    refine ok_go 2 ?_
    exact sy_done 0 (v := .tuple #[.int .i64 0, .int .i64 1]) (h := h) (by kernel_rfl) rfl
  · subst e
    refine fn_val ?_
    refine ok_go 0 ?_
    refine sy_call 0 (by kernel_rfl) ((c (Int.ofNat x) h).trans (by rw [decide_eq_true (show inF (Int.ofNat x) from ⟨by simp, by simp; omega⟩)])) ?_
    obtain ⟨H, e⟩ := d x h hx
    refine ok_go 2 ?_
    refine sy_call 0 (by kernel_rfl) e ?_
    refine ok_go 0 ?_
    exact sy_done 0 (v := .tuple #[J (pwr 1 x 32768), .int .i64 0]) (h := H) (by kernel_rfl) rfl
theorem n17 (a m : Int) (lf n : Nat) (h : Hp) (c : ∀ x h, Ev lf n 34 [.int .i64 x] h = some (.bool (decide (inF x)), h)) (hn : ¬ inF a ∨ m < 0) : ∃ H, Ev lf (n + 1) 17 [.int .i64 a, .int .i64 m] h = some (.tuple #[.int .i64 0, .int .i64 1], H) := by
  by_cases ha : inF a
  · refine fn_val ?_
    refine ok_go 0 ?_
    refine sy_call 0 (by kernel_rfl) ((c a h).trans (by rw [decide_eq_true ha])) ?_
    refine ok_go 5 ?_
    refine sy_yes 0 (b := decide (m < 0)) (by kernel_rfl) (decide_eq_true (hn.resolve_left (fun h => h ha))) ?_
    refine ok_go 0 ?_
    exact sy_done 0 (v := .tuple #[.int .i64 0, .int .i64 1]) (h := h) (by kernel_rfl) rfl
  · refine fn_val ?_
    refine ok_go 0 ?_
    refine sy_call 0 (by kernel_rfl) ((c a h).trans (by rw [decide_eq_false ha])) ?_
    refine ok_go 5 ?_
    exact sy_done 0 (v := .tuple #[.int .i64 0, .int .i64 1]) (h := h) (by kernel_rfl) rfl
theorem n11 (a b : Int) (lf n : Nat) (h : Hp) (c : ∀ x h, Ev lf n 34 [.int .i64 x] h = some (.bool (decide (inF x)), h)) (hn : ¬ (inF a ∧ inF b)) : ∃ H, Ev lf (n + 1) 11 [.int .i64 a, .int .i64 b] h = some (.tuple #[.int .i64 0, .int .i64 1], H) := by
  by_cases ha : inF a
  · refine fn_val ?_
    refine ok_go 0 ?_
    refine sy_call 0 (by kernel_rfl) ((c a h).trans (by rw [decide_eq_true ha])) ?_
    refine ok_go 3 ?_
    refine sy_call 0 (by kernel_rfl) ((c b h).trans (by rw [decide_eq_false (fun hb => hn ⟨ha, hb⟩)])) ?_
    refine ok_go 4 ?_
    exact sy_done 0 (v := .tuple #[.int .i64 0, .int .i64 1]) (h := h) (by kernel_rfl) rfl
  · refine fn_val ?_
    refine ok_go 0 ?_
    refine sy_call 0 (by kernel_rfl) ((c a h).trans (by rw [decide_eq_false ha])) ?_
    refine ok_go 6 ?_
    exact sy_done 0 (v := .tuple #[.int .i64 0, .int .i64 1]) (h := h) (by kernel_rfl) rfl
end Go.Proofs.YtegcmgjldapnmaaDoor
