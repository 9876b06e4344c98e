/- Needs that are residues of a number: a run is true if it is true at each residue. -/
import Derived.Test.YtkfbfgcflnkllaaGreatDoorEngN
namespace Go.Eng

def U (u : Int) : Value := .int .u64 u

theorem wrap_pos (x : Int) : 0 ≤ IntKind.u64.wrap x := by
  unfold IntKind.wrap
  simp only [IntKind.bits, IntKind.signed, Bool.false_and, Bool.false_eq_true, if_false]
  omega

theorem wrap_lt (x : Int) : IntKind.u64.wrap x < 18446744073709551616 := by
  unfold IntKind.wrap
  simp only [IntKind.bits, IntKind.signed, Bool.false_and, Bool.false_eq_true, if_false]
  omega

/-- A number made unsigned, and its residue by m: two needs. -/
theorem need_mod {A : Ans} {x : Int} {m : Nat} (hm : 0 < m) (h1 : isNeed A = true) (h2 : needV A = U (IntKind.u64.wrap x)) (h3 : ∀ u, isNeed (needF A (U u)) = true) (h4 : ∀ u, needV (needF A (U u)) = U (u.tmod m))
    (h5 : ∀ (u : Int) (r : Nat), 0 ≤ u → u < 18446744073709551616 → r < m → u.tmod m = r → Yes (needF (needF A (U u)) (U r))) : Yes A := by
  refine need_ok h1 h2 (need_ok (h3 _) (h4 _) ?_)
  have h0 := wrap_pos x
  have hl := wrap_lt x
  generalize IntKind.u64.wrap x = u at h0 hl
  have e : u.tmod m = ((u.toNat % m : Nat) : Int) := by
    rw [Int.tmod_eq_emod_of_nonneg h0]
    obtain ⟨n, rfl⟩ := Int.eq_ofNat_of_zero_le h0
    simp
  rw [e]
  exact h5 u _ h0 hl (Nat.mod_lt _ hm) e

def I (u : Int) : Value := .int .i64 u

theorem wrap_small {x : Int} (h0 : 0 ≤ x) (h1 : x < 9223372036854775808) : IntKind.i64.wrap x = x := wrap_in (by show x ≤ 9223372036854775807; omega) (by show -(9223372036854775808 : Int) ≤ x; omega)

/-- The same, where the residue is made an int again: three needs. -/
theorem need_mod3 {A : Ans} {x : Int} {m : Nat} (hm : 0 < m) (hm2 : m ≤ 9223372036854775808) (h1 : isNeed A = true) (h2 : needV A = U (IntKind.u64.wrap x)) (h3 : ∀ u, isNeed (needF A (U u)) = true) (h4 : ∀ u, needV (needF A (U u)) = U (u.tmod m))
    (h5 : ∀ u r, isNeed (needF (needF A (U u)) (U r)) = true) (h6 : ∀ u r, needV (needF (needF A (U u)) (U r)) = I (IntKind.i64.wrap r))
    (h7 : ∀ (u : Int) (r : Nat), 0 ≤ u → u < 18446744073709551616 → r < m → u.tmod m = r → Yes (needF (needF (needF A (U u)) (U r)) (I r))) : Yes A :=
  need_mod hm h1 h2 h3 h4 fun u r a b c d => need_ok (h5 u r) ((h6 u r).trans (by rw [wrap_small (by omega) (by omega)])) (h7 u r a b c d)

/-- All of the numbers below n. -/
noncomputable def allB (n : Nat) (f : Nat → Bool) : Bool := Nat.rec (motive := fun _ => Bool) true (fun k ih => Bool.rec (motive := fun _ => Bool) false ih (f k)) n

theorem allB_ok {f : Nat → Bool} : ∀ {n : Nat}, allB n f = true → ∀ k, k < n → f k = true
  | 0, _, k, hk => absurd hk (Nat.not_lt_zero _)
  | n + 1, h, k, hk => by
    have h' : Bool.rec (motive := fun _ => Bool) false (allB n f) (f n) = true := h
    cases hf : f n with
    | false => rw [hf] at h'; cases h'
    | true =>
      rw [hf] at h'
      have h2 : allB n f = true := h'
      rcases Nat.lt_succ_iff_lt_or_eq.1 hk with h3 | h3
      · exact allB_ok h2 k h3
      · subst h3; exact hf

/-- Numbers from a on, n of them. -/
noncomputable def allFrom (a n : Nat) (f : Nat → Bool) : Bool := allB n fun k => f (a + k)

theorem allFrom_ok {f : Nat → Bool} {a n : Nat} (h : allFrom a n f = true) (k : Nat) (h1 : a ≤ k) (h2 : k < a + n) : f k = true := by
  have := allB_ok h (k - a) (by omega)
  rwa [show a + (k - a) = k from by omega] at this

end Go.Eng
