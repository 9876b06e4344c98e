/- TimesA: contracts of functions. -/
import Derived.Test.YtegcmgjldapnmaaDoorProg
import Derived.KernelRfl
import Derived.Test.YtegcmgjldapnmaaDoorSyB
import Derived.Test.YtegcmgjldapnmaaDoorNimC
import Derived.Test.YtegcmgjldapnmaaDoorAwake
namespace Go.Proofs.YtegcmgjldapnmaaDoor
open Go Go.Eng Nim
set_option maxRecDepth 100000
abbrev J (a : Nat) : Value := .int .i64 (Int.ofNat a)
noncomputable abbrev T1 (lf n a b B : Nat) (p : Value) (h : Hp) := evInv Tryd.prog orc lf n (.fn 59 [J a, J b, J B, p]) h
theorem c59_1 (a b : Nat) (ha : a < 2 ^ 63) (p : Value) (lf n : Nat) (h : Hp) : T1 lf (n + 1) a b 1 p h = some (J (a &&& b), h) := by
  refine fn_eq (sy_done 3 (v := .int .i64 (andI (Int.ofNat a) (Int.ofNat b))) (h := h) (by kernel_rfl) ⟨by rw [and_nat ha], rfl⟩)
def clo (p : Value) : Value := .func (.func 59) #[] #[p]

theorem c59_2 (a b : Nat) (ha : a < 2 ^ 2) (hb : b < 2 ^ 2) (p : Value) (lf n : Nat) (h : Hp) (hp : loadT Tryd.prog h 61 p = some (clo p))
    (ih : ∀ a b, a < 2 ^ 1 → b < 2 ^ 1 → T1 lf n a b 1 p h = some (J (nm 0 a b), h)) : T1 lf (n + 1) a b 2 p h = some (J (nm 1 a b), h) := by
  have pw : 2 ^ 0 = 1 := rfl
  have e1 : a / 2 ^ 1 < 2 ^ 1 := by omega
  have e2 : b / 2 ^ 1 < 2 ^ 1 := by omega
  have e3 : a % 2 ^ 1 < 2 ^ 1 := by omega
  have e4 : b % 2 ^ 1 < 2 ^ 1 := by omega
  have e5 := nm_lt 0 _ _ e1 e2
  have e6 := nm_lt 0 _ _ e3 e4
  have e7 := nm_lt 0 _ _ (Nat.xor_lt_two_pow e1 e3) (Nat.xor_lt_two_pow e2 e4)
  have e8 := nm_lt 0 _ 1 e5 (by decide)
  rw [pw] at e5 e6 e7 e8
  have e9 := Nat.xor_lt_two_pow e7 e6
  have e10 := Nat.lt_of_lt_of_le e6 (show 2 ^ 1 ≤ 2 ^ 2 by decide)
  have e11 : (nm 0 ((a / 2 ^ 1) ^^^ (a % 2 ^ 1)) ((b / 2 ^ 1) ^^^ (b % 2 ^ 1)) ^^^ nm 0 (a % 2 ^ 1) (b % 2 ^ 1)) * 2 ^ 1 < 2 ^ 2 := by omega
  have e12 := Nat.xor_lt_two_pow e11 e10
  have m1 : ∀ {x : Nat}, x < 2 ^ 1 → x < 2 ^ 63 := fun h => by omega
  have m2 : ∀ {x : Nat}, x < 2 ^ 2 → x < 2 ^ 63 := fun h => by omega
  have an : ∀ {x : Nat}, x < 2 ^ 2 → andI (Int.ofNat x) 1 = Int.ofNat (x % 2 ^ 1) := fun {x} hx => by
    rw [show (1 : Int) = Int.ofNat 1 from rfl, and_nat (m2 hx), show (1 : Nat) = 2 ^ 1 - 1 from rfl, Nat.and_two_pow_sub_one_eq_mod]
  refine fn_eq ?_
  refine sy_load 12 (r := loadT Tryd.prog h 61 p) (h' := h) (by kernel_rfl) hp ?_
  refine sy_call 0 (r := evInv Tryd.prog orc lf n (.fn 59 [.int .i64 (shrI (Int.ofNat a) 1), .int .i64 (shrI (Int.ofNat b) 1), J 1, p]) h) (by kernel_rfl) (v := J (nm 0 (a / 2 ^ 1) (b / 2 ^ 1))) (h' := h)
    (by rw [shr_nat, shr_nat]; exact ih _ _ e1 e2) ?_
  refine sy_load 0 (r := loadT Tryd.prog h 61 p) (h' := h) (by kernel_rfl) hp ?_
  refine sy_call 0 (r := evInv Tryd.prog orc lf n (.fn 59 [.int .i64 (andI (Int.ofNat a) 1), .int .i64 (andI (Int.ofNat b) 1), J 1, p]) h) (by kernel_rfl) (v := J (nm 0 (a % 2 ^ 1) (b % 2 ^ 1))) (h' := h)
    (by rw [an ha, an hb]; exact ih _ _ e3 e4) ?_
  refine sy_load 0 (r := loadT Tryd.prog h 61 p) (h' := h) (by kernel_rfl) hp ?_
  refine sy_call 2 (r := evInv Tryd.prog orc lf n (.fn 59 [.int .i64 (xorI (shrI (Int.ofNat a) 1) (andI (Int.ofNat a) 1)), .int .i64 (xorI (shrI (Int.ofNat b) 1) (andI (Int.ofNat b) 1)), J 1, p]) h) (by kernel_rfl) (v := J (nm 0 ((a / 2 ^ 1) ^^^ (a % 2 ^ 1)) ((b / 2 ^ 1) ^^^ (b % 2 ^ 1)))) (h' := h)
    (by rw [an ha, an hb, shr_nat, shr_nat, xor_nat (m1 e1) (m1 e3), xor_nat (m1 e2) (m1 e4)]; exact ih _ _ (Nat.xor_lt_two_pow e1 e3) (Nat.xor_lt_two_pow e2 e4)) ?_
  refine sy_load 4 (r := loadT Tryd.prog h 61 p) (h' := h) (by kernel_rfl) hp ?_
  refine sy_call 3 (r := evInv Tryd.prog orc lf n (.fn 59 [J (nm 0 (a / 2 ^ 1) (b / 2 ^ 1)), J 1, J 1, p]) h) (by kernel_rfl) (v := J (nm 0 (nm 0 (a / 2 ^ 1) (b / 2 ^ 1)) 1)) (h' := h)
    (ih _ _ e5 (by decide)) ?_
  refine sy_done 1 (h := h) (v := .int .i64 (xorI (xorI (shlI (xorI (Int.ofNat (nm 0 ((a / 2 ^ 1) ^^^ (a % 2 ^ 1)) ((b / 2 ^ 1) ^^^ (b % 2 ^ 1)))) (Int.ofNat (nm 0 (a % 2 ^ 1) (b % 2 ^ 1)))) 1) (Int.ofNat (nm 0 (a % 2 ^ 1) (b % 2 ^ 1)))) (Int.ofNat (nm 0 (nm 0 (a / 2 ^ 1) (b / 2 ^ 1)) 1)))) (by kernel_rfl) ⟨?_, rfl⟩
  rw [xor_nat (m1 e7) (m1 e6), shl_nat (m2 e11), xor_nat (m2 e11) (m1 e6), xor_nat (m2 e12) (m1 e8)]
  rfl

theorem c59_4 (a b : Nat) (ha : a < 2 ^ 4) (hb : b < 2 ^ 4) (p : Value) (lf n : Nat) (h : Hp) (hp : loadT Tryd.prog h 61 p = some (clo p))
    (ih : ∀ a b, a < 2 ^ 2 → b < 2 ^ 2 → T1 lf n a b 2 p h = some (J (nm 1 a b), h)) : T1 lf (n + 1) a b 4 p h = some (J (nm 2 a b), h) := by
  have pw : 2 ^ 1 = 2 := rfl
  have e1 : a / 2 ^ 2 < 2 ^ 2 := by omega
  have e2 : b / 2 ^ 2 < 2 ^ 2 := by omega
  have e3 : a % 2 ^ 2 < 2 ^ 2 := by omega
  have e4 : b % 2 ^ 2 < 2 ^ 2 := by omega
  have e5 := nm_lt 1 _ _ e1 e2
  have e6 := nm_lt 1 _ _ e3 e4
  have e7 := nm_lt 1 _ _ (Nat.xor_lt_two_pow e1 e3) (Nat.xor_lt_two_pow e2 e4)
  have e8 := nm_lt 1 _ 2 e5 (by decide)
  rw [pw] at e5 e6 e7 e8
  have e9 := Nat.xor_lt_two_pow e7 e6
  have e10 := Nat.lt_of_lt_of_le e6 (show 2 ^ 2 ≤ 2 ^ 4 by decide)
  have e11 : (nm 1 ((a / 2 ^ 2) ^^^ (a % 2 ^ 2)) ((b / 2 ^ 2) ^^^ (b % 2 ^ 2)) ^^^ nm 1 (a % 2 ^ 2) (b % 2 ^ 2)) * 2 ^ 2 < 2 ^ 4 := by omega
  have e12 := Nat.xor_lt_two_pow e11 e10
  have m1 : ∀ {x : Nat}, x < 2 ^ 2 → x < 2 ^ 63 := fun h => by omega
  have m2 : ∀ {x : Nat}, x < 2 ^ 4 → x < 2 ^ 63 := fun h => by omega
  have an : ∀ {x : Nat}, x < 2 ^ 4 → andI (Int.ofNat x) 3 = Int.ofNat (x % 2 ^ 2) := fun {x} hx => by
    rw [show (3 : Int) = Int.ofNat 3 from rfl, and_nat (m2 hx), show (3 : Nat) = 2 ^ 2 - 1 from rfl, Nat.and_two_pow_sub_one_eq_mod]
  refine fn_eq ?_
  refine sy_load 12 (r := loadT Tryd.prog h 61 p) (h' := h) (by kernel_rfl) hp ?_
  refine sy_call 0 (r := evInv Tryd.prog orc lf n (.fn 59 [.int .i64 (shrI (Int.ofNat a) 2), .int .i64 (shrI (Int.ofNat b) 2), J 2, p]) h) (by kernel_rfl) (v := J (nm 1 (a / 2 ^ 2) (b / 2 ^ 2))) (h' := h)
    (by rw [shr_nat, shr_nat]; exact ih _ _ e1 e2) ?_
  refine sy_load 0 (r := loadT Tryd.prog h 61 p) (h' := h) (by kernel_rfl) hp ?_
  refine sy_call 0 (r := evInv Tryd.prog orc lf n (.fn 59 [.int .i64 (andI (Int.ofNat a) 3), .int .i64 (andI (Int.ofNat b) 3), J 2, p]) h) (by kernel_rfl) (v := J (nm 1 (a % 2 ^ 2) (b % 2 ^ 2))) (h' := h)
    (by rw [an ha, an hb]; exact ih _ _ e3 e4) ?_
  refine sy_load 0 (r := loadT Tryd.prog h 61 p) (h' := h) (by kernel_rfl) hp ?_
  refine sy_call 2 (r := evInv Tryd.prog orc lf n (.fn 59 [.int .i64 (xorI (shrI (Int.ofNat a) 2) (andI (Int.ofNat a) 3)), .int .i64 (xorI (shrI (Int.ofNat b) 2) (andI (Int.ofNat b) 3)), J 2, p]) h) (by kernel_rfl) (v := J (nm 1 ((a / 2 ^ 2) ^^^ (a % 2 ^ 2)) ((b / 2 ^ 2) ^^^ (b % 2 ^ 2)))) (h' := h)
    (by rw [an ha, an hb, shr_nat, shr_nat, xor_nat (m1 e1) (m1 e3), xor_nat (m1 e2) (m1 e4)]; exact ih _ _ (Nat.xor_lt_two_pow e1 e3) (Nat.xor_lt_two_pow e2 e4)) ?_
  refine sy_load 4 (r := loadT Tryd.prog h 61 p) (h' := h) (by kernel_rfl) hp ?_
  refine sy_call 3 (r := evInv Tryd.prog orc lf n (.fn 59 [J (nm 1 (a / 2 ^ 2) (b / 2 ^ 2)), J 2, J 2, p]) h) (by kernel_rfl) (v := J (nm 1 (nm 1 (a / 2 ^ 2) (b / 2 ^ 2)) 2)) (h' := h)
    (ih _ _ e5 (by decide)) ?_
  refine sy_done 1 (h := h) (v := .int .i64 (xorI (xorI (shlI (xorI (Int.ofNat (nm 1 ((a / 2 ^ 2) ^^^ (a % 2 ^ 2)) ((b / 2 ^ 2) ^^^ (b % 2 ^ 2)))) (Int.ofNat (nm 1 (a % 2 ^ 2) (b % 2 ^ 2)))) 2) (Int.ofNat (nm 1 (a % 2 ^ 2) (b % 2 ^ 2)))) (Int.ofNat (nm 1 (nm 1 (a / 2 ^ 2) (b / 2 ^ 2)) 2)))) (by kernel_rfl) ⟨?_, rfl⟩
  rw [xor_nat (m1 e7) (m1 e6), shl_nat (m2 e11), xor_nat (m2 e11) (m1 e6), xor_nat (m2 e12) (m1 e8)]
  rfl

theorem c59_8 (a b : Nat) (ha : a < 2 ^ 8) (hb : b < 2 ^ 8) (p : Value) (lf n : Nat) (h : Hp) (hp : loadT Tryd.prog h 61 p = some (clo p))
    (ih : ∀ a b, a < 2 ^ 4 → b < 2 ^ 4 → T1 lf n a b 4 p h = some (J (nm 2 a b), h)) : T1 lf (n + 1) a b 8 p h = some (J (nm 3 a b), h) := by
  have pw : 2 ^ 2 = 4 := rfl
  have e1 : a / 2 ^ 4 < 2 ^ 4 := by omega
  have e2 : b / 2 ^ 4 < 2 ^ 4 := by omega
  have e3 : a % 2 ^ 4 < 2 ^ 4 := by omega
  have e4 : b % 2 ^ 4 < 2 ^ 4 := by omega
  have e5 := nm_lt 2 _ _ e1 e2
  have e6 := nm_lt 2 _ _ e3 e4
  have e7 := nm_lt 2 _ _ (Nat.xor_lt_two_pow e1 e3) (Nat.xor_lt_two_pow e2 e4)
  have e8 := nm_lt 2 _ 8 e5 (by decide)
  rw [pw] at e5 e6 e7 e8
  have e9 := Nat.xor_lt_two_pow e7 e6
  have e10 := Nat.lt_of_lt_of_le e6 (show 2 ^ 4 ≤ 2 ^ 8 by decide)
  have e11 : (nm 2 ((a / 2 ^ 4) ^^^ (a % 2 ^ 4)) ((b / 2 ^ 4) ^^^ (b % 2 ^ 4)) ^^^ nm 2 (a % 2 ^ 4) (b % 2 ^ 4)) * 2 ^ 4 < 2 ^ 8 := by omega
  have e12 := Nat.xor_lt_two_pow e11 e10
  have m1 : ∀ {x : Nat}, x < 2 ^ 4 → x < 2 ^ 63 := fun h => by omega
  have m2 : ∀ {x : Nat}, x < 2 ^ 8 → x < 2 ^ 63 := fun h => by omega
  have an : ∀ {x : Nat}, x < 2 ^ 8 → andI (Int.ofNat x) 15 = Int.ofNat (x % 2 ^ 4) := fun {x} hx => by
    rw [show (15 : Int) = Int.ofNat 15 from rfl, and_nat (m2 hx), show (15 : Nat) = 2 ^ 4 - 1 from rfl, Nat.and_two_pow_sub_one_eq_mod]
  refine fn_eq ?_
  refine sy_load 12 (r := loadT Tryd.prog h 61 p) (h' := h) (by kernel_rfl) hp ?_
  refine sy_call 0 (r := evInv Tryd.prog orc lf n (.fn 59 [.int .i64 (shrI (Int.ofNat a) 4), .int .i64 (shrI (Int.ofNat b) 4), J 4, p]) h) (by kernel_rfl) (v := J (nm 2 (a / 2 ^ 4) (b / 2 ^ 4))) (h' := h)
    (by rw [shr_nat, shr_nat]; exact ih _ _ e1 e2) ?_
  refine sy_load 0 (r := loadT Tryd.prog h 61 p) (h' := h) (by kernel_rfl) hp ?_
  refine sy_call 0 (r := evInv Tryd.prog orc lf n (.fn 59 [.int .i64 (andI (Int.ofNat a) 15), .int .i64 (andI (Int.ofNat b) 15), J 4, p]) h) (by kernel_rfl) (v := J (nm 2 (a % 2 ^ 4) (b % 2 ^ 4))) (h' := h)
    (by rw [an ha, an hb]; exact ih _ _ e3 e4) ?_
  refine sy_load 0 (r := loadT Tryd.prog h 61 p) (h' := h) (by kernel_rfl) hp ?_
  refine sy_call 2 (r := evInv Tryd.prog orc lf n (.fn 59 [.int .i64 (xorI (shrI (Int.ofNat a) 4) (andI (Int.ofNat a) 15)), .int .i64 (xorI (shrI (Int.ofNat b) 4) (andI (Int.ofNat b) 15)), J 4, p]) h) (by kernel_rfl) (v := J (nm 2 ((a / 2 ^ 4) ^^^ (a % 2 ^ 4)) ((b / 2 ^ 4) ^^^ (b % 2 ^ 4)))) (h' := h)
    (by rw [an ha, an hb, shr_nat, shr_nat, xor_nat (m1 e1) (m1 e3), xor_nat (m1 e2) (m1 e4)]; exact ih _ _ (Nat.xor_lt_two_pow e1 e3) (Nat.xor_lt_two_pow e2 e4)) ?_
  refine sy_load 4 (r := loadT Tryd.prog h 61 p) (h' := h) (by kernel_rfl) hp ?_
  refine sy_call 3 (r := evInv Tryd.prog orc lf n (.fn 59 [J (nm 2 (a / 2 ^ 4) (b / 2 ^ 4)), J 8, J 4, p]) h) (by kernel_rfl) (v := J (nm 2 (nm 2 (a / 2 ^ 4) (b / 2 ^ 4)) 8)) (h' := h)
    (ih _ _ e5 (by decide)) ?_
  refine sy_done 1 (h := h) (v := .int .i64 (xorI (xorI (shlI (xorI (Int.ofNat (nm 2 ((a / 2 ^ 4) ^^^ (a % 2 ^ 4)) ((b / 2 ^ 4) ^^^ (b % 2 ^ 4)))) (Int.ofNat (nm 2 (a % 2 ^ 4) (b % 2 ^ 4)))) 4) (Int.ofNat (nm 2 (a % 2 ^ 4) (b % 2 ^ 4)))) (Int.ofNat (nm 2 (nm 2 (a / 2 ^ 4) (b / 2 ^ 4)) 8)))) (by kernel_rfl) ⟨?_, rfl⟩
  rw [xor_nat (m1 e7) (m1 e6), shl_nat (m2 e11), xor_nat (m2 e11) (m1 e6), xor_nat (m2 e12) (m1 e8)]
  rfl

theorem c59_16 (a b : Nat) (ha : a < 2 ^ 16) (hb : b < 2 ^ 16) (p : Value) (lf n : Nat) (h : Hp) (hp : loadT Tryd.prog h 61 p = some (clo p))
    (ih : ∀ a b, a < 2 ^ 8 → b < 2 ^ 8 → T1 lf n a b 8 p h = some (J (nm 3 a b), h)) : T1 lf (n + 1) a b 16 p h = some (J (nm 4 a b), h) := by
  have pw : 2 ^ 3 = 8 := rfl
  have e1 : a / 2 ^ 8 < 2 ^ 8 := by omega
  have e2 : b / 2 ^ 8 < 2 ^ 8 := by omega
  have e3 : a % 2 ^ 8 < 2 ^ 8 := by omega
  have e4 : b % 2 ^ 8 < 2 ^ 8 := by omega
  have e5 := nm_lt 3 _ _ e1 e2
  have e6 := nm_lt 3 _ _ e3 e4
  have e7 := nm_lt 3 _ _ (Nat.xor_lt_two_pow e1 e3) (Nat.xor_lt_two_pow e2 e4)
  have e8 := nm_lt 3 _ 128 e5 (by decide)
  rw [pw] at e5 e6 e7 e8
  have e9 := Nat.xor_lt_two_pow e7 e6
  have e10 := Nat.lt_of_lt_of_le e6 (show 2 ^ 8 ≤ 2 ^ 16 by decide)
  have e11 : (nm 3 ((a / 2 ^ 8) ^^^ (a % 2 ^ 8)) ((b / 2 ^ 8) ^^^ (b % 2 ^ 8)) ^^^ nm 3 (a % 2 ^ 8) (b % 2 ^ 8)) * 2 ^ 8 < 2 ^ 16 := by omega
  have e12 := Nat.xor_lt_two_pow e11 e10
  have m1 : ∀ {x : Nat}, x < 2 ^ 8 → x < 2 ^ 63 := fun h => by omega
  have m2 : ∀ {x : Nat}, x < 2 ^ 16 → x < 2 ^ 63 := fun h => by omega
  have an : ∀ {x : Nat}, x < 2 ^ 16 → andI (Int.ofNat x) 255 = Int.ofNat (x % 2 ^ 8) := fun {x} hx => by
    rw [show (255 : Int) = Int.ofNat 255 from rfl, and_nat (m2 hx), show (255 : Nat) = 2 ^ 8 - 1 from rfl, Nat.and_two_pow_sub_one_eq_mod]
  refine fn_eq ?_
  refine sy_load 12 (r := loadT Tryd.prog h 61 p) (h' := h) (by kernel_rfl) hp ?_
  refine sy_call 0 (r := evInv Tryd.prog orc lf n (.fn 59 [.int .i64 (shrI (Int.ofNat a) 8), .int .i64 (shrI (Int.ofNat b) 8), J 8, p]) h) (by kernel_rfl) (v := J (nm 3 (a / 2 ^ 8) (b / 2 ^ 8))) (h' := h)
    (by rw [shr_nat, shr_nat]; exact ih _ _ e1 e2) ?_
  refine sy_load 0 (r := loadT Tryd.prog h 61 p) (h' := h) (by kernel_rfl) hp ?_
  refine sy_call 0 (r := evInv Tryd.prog orc lf n (.fn 59 [.int .i64 (andI (Int.ofNat a) 255), .int .i64 (andI (Int.ofNat b) 255), J 8, p]) h) (by kernel_rfl) (v := J (nm 3 (a % 2 ^ 8) (b % 2 ^ 8))) (h' := h)
    (by rw [an ha, an hb]; exact ih _ _ e3 e4) ?_
  refine sy_load 0 (r := loadT Tryd.prog h 61 p) (h' := h) (by kernel_rfl) hp ?_
  refine sy_call 2 (r := evInv Tryd.prog orc lf n (.fn 59 [.int .i64 (xorI (shrI (Int.ofNat a) 8) (andI (Int.ofNat a) 255)), .int .i64 (xorI (shrI (Int.ofNat b) 8) (andI (Int.ofNat b) 255)), J 8, p]) h) (by kernel_rfl) (v := J (nm 3 ((a / 2 ^ 8) ^^^ (a % 2 ^ 8)) ((b / 2 ^ 8) ^^^ (b % 2 ^ 8)))) (h' := h)
    (by rw [an ha, an hb, shr_nat, shr_nat, xor_nat (m1 e1) (m1 e3), xor_nat (m1 e2) (m1 e4)]; exact ih _ _ (Nat.xor_lt_two_pow e1 e3) (Nat.xor_lt_two_pow e2 e4)) ?_
  refine sy_load 4 (r := loadT Tryd.prog h 61 p) (h' := h) (by kernel_rfl) hp ?_
  refine sy_call 3 (r := evInv Tryd.prog orc lf n (.fn 59 [J (nm 3 (a / 2 ^ 8) (b / 2 ^ 8)), J 128, J 8, p]) h) (by kernel_rfl) (v := J (nm 3 (nm 3 (a / 2 ^ 8) (b / 2 ^ 8)) 128)) (h' := h)
    (ih _ _ e5 (by decide)) ?_
  refine sy_done 1 (h := h) (v := .int .i64 (xorI (xorI (shlI (xorI (Int.ofNat (nm 3 ((a / 2 ^ 8) ^^^ (a % 2 ^ 8)) ((b / 2 ^ 8) ^^^ (b % 2 ^ 8)))) (Int.ofNat (nm 3 (a % 2 ^ 8) (b % 2 ^ 8)))) 8) (Int.ofNat (nm 3 (a % 2 ^ 8) (b % 2 ^ 8)))) (Int.ofNat (nm 3 (nm 3 (a / 2 ^ 8) (b / 2 ^ 8)) 128)))) (by kernel_rfl) ⟨?_, rfl⟩
  rw [xor_nat (m1 e7) (m1 e6), shl_nat (m2 e11), xor_nat (m2 e11) (m1 e6), xor_nat (m2 e12) (m1 e8)]
  rfl

theorem c59 (a b : Nat) (ha : a < 2 ^ 16) (hb : b < 2 ^ 16) (p : Value) (lf n : Nat) (h : Hp) (hp : loadT Tryd.prog h 61 p = some (clo p)) : T1 lf (n + 5) a b 16 p h = some (J (nm 4 a b), h) :=
  c59_16 a b ha hb p lf _ h hp fun a b ha hb => c59_8 a b ha hb p lf _ h hp fun a b ha hb => c59_4 a b ha hb p lf _ h hp fun a b ha hb => c59_2 a b ha hb p lf _ h hp fun a b ha hb => c59_1 a b (by omega) p lf _ h
end Go.Proofs.YtegcmgjldapnmaaDoor
