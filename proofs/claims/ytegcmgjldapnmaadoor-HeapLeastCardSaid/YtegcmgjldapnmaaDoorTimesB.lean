/- TimesB: contracts of functions. -/
import Derived.Test.YtegcmgjldapnmaaDoorTimesA
namespace Go.Proofs.YtegcmgjldapnmaaDoor
open Go Go.Eng Nim
set_option maxRecDepth 100000
noncomputable abbrev Ev (lf n f : Nat) (l : List Value) (h : Hp) := evInv Tryd.prog orc lf n (.fn f l) h
theorem c34 (a : Int) (lf n : Nat) (h : Hp) : Ev lf (n + 1) 34 [.int .i64 a] h = some (.bool (decide (0 ≤ a ∧ a < 65536)), h) := by
  refine fn_eq ?_
  refine sy_test 1 (decide (a ≥ 0)) (by kernel_rfl) ?_ ?_
  · intro h1
    refine sy_done 3 (v := .bool (decide (a < 65536))) (h := h) (by kernel_rfl) ⟨?_, rfl⟩
    have := of_decide_eq_true h1
    congr 1
    simp
    omega
  · intro h1
    refine sy_done 2 (v := .bool false) (h := h) (by kernel_rfl) ⟨?_, rfl⟩
    have := of_decide_eq_false h1
    congr 1
    symm
    exact decide_eq_false (by omega)
theorem s35 (a b : Nat) (ha : a < 2 ^ 16) (hb : b < 2 ^ 16) (lf n : Nat) (h : Hp) (c : ∀ p h, loadT Tryd.prog h 61 p = some (clo p) → T1 lf n a b 16 p h = some (J (nm 4 a b), h)) : ∃ H, Ev lf (n + 1) 35 [J a, J b, J 16] h = some (J (nm 4 a b), H) := by
  have small : (a < 2 ∨ b < 2) → IntKind.wrap .i64 (Int.ofNat a * Int.ofNat b) = Int.ofNat (nm 4 a b) := fun hs => by
    rw [nm_small hs ha hb]
    have e : Int.ofNat a * Int.ofNat b = Int.ofNat (a * b) := rfl
    rw [e]
    refine wrap_nat ?_
    have : a * b ≤ 2 ^ 16 * 2 ^ 16 := Nat.mul_le_mul (by omega) (by omega)
    omega
  refine fn_val ?_
  refine sy_test 1 (decide (Int.ofNat a < 2)) (by kernel_rfl) ?_ ?_
  · intro h1
    refine sy_done 4 (v := .int .i64 (IntKind.wrap .i64 (Int.ofNat a * Int.ofNat b))) (h := h) (by kernel_rfl) ?_
    rw [small (.inl (by have := of_decide_eq_true h1; simp at this; omega))]
  · intro h1
    refine sy_test 3 (decide (Int.ofNat b < 2)) (by kernel_rfl) ?_ ?_
    · intro h2
      refine sy_done 1 (v := .int .i64 (IntKind.wrap .i64 (Int.ofNat a * Int.ofNat b))) (h := h) (by kernel_rfl) ?_
      rw [small (.inr (by have := of_decide_eq_true h2; simp at this; omega))]
    · intro h2
      have hg1 := get_new h (.cells [.nilFunc] 61 false)
      have hg2 := get_put (h.new (.cells [.nilFunc] 61 false)) h.next (.cells [clo (ptr h.next 0)] 61 false)
      have hl : loadT Tryd.prog ((h.new (.cells [.nilFunc] 61 false)).put h.next (.cells [clo (ptr h.next 0)] 61 false)) 61 (ptr h.next 0) = some (clo (ptr h.next 0)) := load1 (by kernel_rfl) hg2 rfl
      refine sy_store 2 (r := storeT Tryd.prog (h.new (.cells [.nilFunc] 61 false)) 61 (ptr h.next 0) (clo (ptr h.next 0))) (h' := (h.new (.cells [.nilFunc] 61 false)).put h.next (.cells [clo (ptr h.next 0)] 61 false)) (by kernel_rfl) (store1 (by kernel_rfl) rfl hg1 (by simp)) ?_
      refine sy_load 0 (r := loadT Tryd.prog ((h.new (.cells [.nilFunc] 61 false)).put h.next (.cells [clo (ptr h.next 0)] 61 false)) 61 (ptr h.next 0)) (h' := (h.new (.cells [.nilFunc] 61 false)).put h.next (.cells [clo (ptr h.next 0)] 61 false)) (by kernel_rfl) hl ?_
      refine sy_call 0 (by kernel_rfl) (c _ _ hl) ?_
      refine sy_done 0 (h := (h.new (.cells [.nilFunc] 61 false)).put h.next (.cells [clo (ptr h.next 0)] 61 false)) (v := J (nm 4 a b)) (by kernel_rfl) rfl
theorem c35 (a b : Nat) (ha : a < 2 ^ 16) (hb : b < 2 ^ 16) (lf n : Nat) (h : Hp) : ∃ H, Ev lf (n + 6) 35 [J a, J b, J 16] h = some (J (nm 4 a b), H) :=
  s35 a b ha hb lf (n + 5) h fun p h hl => c59 a b ha hb p lf n h hl
end Go.Proofs.YtegcmgjldapnmaaDoor
