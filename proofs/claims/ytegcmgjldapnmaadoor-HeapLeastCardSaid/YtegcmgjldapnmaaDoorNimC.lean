/- Powers, inverses. -/
import Derived.Test.YtegcmgjldapnmaaDoorNimB
namespace Go.Proofs.YtegcmgjldapnmaaDoor.Nim

theorem xor_ind {n : Nat} {P : Nat → Prop} (h0 : P 0) (hx : ∀ a b, a < 2 ^ n → b < 2 ^ n → P a → P b → P (a ^^^ b)) (hb : ∀ i, i < n → P (2 ^ i)) : ∀ m, m ≤ n → ∀ a, a < 2 ^ m → P a
  | 0, _, a, h => by
    have : a = 0 := by simpa using h
    rw [this]; exact h0
  | m + 1, hm, a, h => by
    have hlt : a % 2 ^ m < 2 ^ m := Nat.mod_lt _ (Nat.pow_pos (by omega))
    have ih := xor_ind h0 hx hb m (by omega) _ hlt
    have hle : 2 ^ m ≤ 2 ^ n := Nat.pow_le_pow_right (by omega) (by omega)
    have hlt2 : 2 ^ m < 2 ^ n := Nat.pow_lt_pow_right (by omega) (by omega)
    by_cases hq : a < 2 ^ m
    · rw [Nat.mod_eq_of_lt hq] at ih; exact ih
    · have h1 : a / 2 ^ m = 1 := by
        have h2 : a / 2 ^ m < 2 := Nat.div_lt_of_lt_mul (by rw [Nat.pow_succ] at h; exact h)
        have h3 : 0 < a / 2 ^ m := Nat.div_pos (by omega) (Nat.pow_pos (by omega))
        omega
      have : a = 2 ^ m ^^^ a % 2 ^ m := by
        have := xor_add (x := 1) hlt
        rw [Nat.one_mul] at this
        rw [this]
        have := Nat.div_add_mod a (2 ^ m)
        rw [h1, Nat.mul_one] at this
        exact this.symm
      rw [this]
      exact hx _ _ hlt2 (Nat.lt_of_lt_of_le hlt hle) (hb m (by omega)) ih

abbrev F (a : Nat) : Prop := a < 2 ^ 16

theorem nF {a b : Nat} (ha : F a) (hb : F b) : F (nm 4 a b) := nm_lt 4 a b ha hb
theorem cF {a b : Nat} (ha : F a) (hb : F b) : nm 4 a b = nm 4 b a := nm_comm (k := 4) ha hb
theorem aF {a b c : Nat} (ha : F a) (hb : F b) (hc : F c) : nm 4 (nm 4 a b) c = nm 4 a (nm 4 b c) := nm_assoc (k := 4) ha hb hc
theorem lF {a b c : Nat} (ha : F a) (hb : F b) (hc : F c) : nm 4 a (nm 4 b c) = nm 4 b (nm 4 a c) := by rw [← aF ha hb hc, cF ha hb, aF hb ha hc]
theorem xF {a b c : Nat} (ha : F a) (hb : F b) (hc : F c) : nm 4 a (b ^^^ c) = nm 4 a b ^^^ nm 4 a c := nm_xor (k := 4) ha hb hc

theorem sq_xor {a b : Nat} (ha : F a) (hb : F b) : nm 4 (a ^^^ b) (a ^^^ b) = nm 4 a a ^^^ nm 4 b b := by
  have hab : F (a ^^^ b) := Nat.xor_lt_two_pow ha hb
  rw [xF hab ha hb, cF hab ha, cF hab hb, xF ha ha hb, xF hb ha hb, cF hb ha, Nat.xor_assoc, ← Nat.xor_assoc (nm 4 a b), Nat.xor_self, Nat.zero_xor]

def frob : Nat → Nat → Nat
  | 0, a => a
  | n + 1, a => frob n (nm 4 a a)

theorem frobF : ∀ (n : Nat) {a : Nat}, F a → F (frob n a)
  | 0, a, h => h
  | n + 1, a, h => frobF n (nF h h)

theorem frob_xor : ∀ (n : Nat) {a b : Nat}, F a → F b → frob n (a ^^^ b) = frob n a ^^^ frob n b
  | 0, a, b, _, _ => rfl
  | n + 1, a, b, ha, hb => by
    show frob n (nm 4 (a ^^^ b) (a ^^^ b)) = _
    rw [sq_xor ha hb]
    exact frob_xor n (nF ha ha) (nF hb hb)

theorem frob_zero : ∀ n : Nat, frob n 0 = 0
  | 0 => rfl
  | n + 1 => by
    show frob n (nm 4 0 0) = 0
    rw [(nm_zero 4 0).1]
    exact frob_zero n

theorem all_lt {n : Nat} {p : Nat → Bool} (h : (List.range n).all p = true) : ∀ i, i < n → p i = true := fun i hi => List.all_eq_true.1 h i (List.mem_range.2 hi)

theorem frob_basis : (List.range 16).all (fun i => Nat.beq (frob 16 (2 ^ i)) (2 ^ i)) = true := by decide +kernel

theorem frob16 {a : Nat} (ha : F a) : frob 16 a = a := by
  refine xor_ind (n := 16) (P := fun a => frob 16 a = a) (frob_zero 16) (fun a b ha hb h1 h2 => ?_) (fun i hi => Nat.eq_of_beq_eq_true (all_lt frob_basis i hi)) 16 (Nat.le_refl _) a ha
  rw [frob_xor 16 ha hb, h1, h2]

/-- Undoes e e + e, but for the last bit. -/
def und (y : Nat) : Nat := (List.zipIdx [2, 4, 10, 16, 42, 76, 180, 256, 692, 1234, 2892, 4230, 10888, 19510, 46384, 0]).foldl (fun r (g, i) => r ^^^ (if y.testBit i then g else 0)) 0

theorem und_xor (a b : Nat) : und (a ^^^ b) = und a ^^^ und b := by
  have key : ∀ (l : List (Nat × Nat)) (r s : Nat), l.foldl (fun r (g, i) => r ^^^ (if (a ^^^ b).testBit i then g else 0)) (r ^^^ s) = l.foldl (fun r (g, i) => r ^^^ (if a.testBit i then g else 0)) r ^^^ l.foldl (fun r (g, i) => r ^^^ (if b.testBit i then g else 0)) s := by
    intro l
    induction l with
    | nil => intro r s; rfl
    | cons x l ih =>
      intro r s
      obtain ⟨g, i⟩ := x
      simp only [List.foldl_cons]
      rw [← ih]
      congr 1
      rw [Nat.testBit_xor]
      cases a.testBit i <;> cases b.testBit i <;> simp [Nat.xor_assoc]
      · rw [Nat.xor_comm s g]
      · rw [← Nat.xor_assoc g s g, Nat.xor_comm g s, Nat.xor_assoc, Nat.xor_self, Nat.xor_zero]
  have := key (List.zipIdx [2, 4, 10, 16, 42, 76, 180, 256, 692, 1234, 2892, 4230, 10888, 19510, 46384, 0]) 0 0
  simpa [und] using this

theorem und_basis : (List.range 16).all (fun i => Nat.beq (und (nm 4 (2 ^ i) (2 ^ i) ^^^ 2 ^ i)) (2 ^ i ^^^ (2 ^ i % 2))) = true := by decide +kernel

theorem mod2_xor (a b : Nat) : (a ^^^ b) % 2 = (a % 2) ^^^ (b % 2) := by
  have := Nat.xor_mod_two_pow (a := a) (b := b) (n := 1)
  simpa using this

theorem und_sq {a : Nat} (ha : F a) : und (nm 4 a a ^^^ a) = a ^^^ (a % 2) := by
  refine xor_ind (n := 16) (P := fun a => und (nm 4 a a ^^^ a) = a ^^^ (a % 2)) (by decide +kernel) (fun a b ha hb h1 h2 => ?_) (fun i hi => Nat.eq_of_beq_eq_true (all_lt und_basis i hi)) 16 (Nat.le_refl _) a ha
  rw [sq_xor ha hb, mod2_xor]
  have e : nm 4 a a ^^^ nm 4 b b ^^^ (a ^^^ b) = (nm 4 a a ^^^ a) ^^^ (nm 4 b b ^^^ b) := by ac_rfl
  rw [e, und_xor, h1, h2]
  ac_rfl

theorem idem {a : Nat} (ha : F a) (h : nm 4 a a = a) : a = 0 ∨ a = 1 := by
  have := und_sq ha
  rw [h, Nat.xor_self] at this
  have h0 : und 0 = 0 := by decide +kernel
  rw [h0] at this
  have : a = a % 2 := by
    have h3 : a ^^^ (a ^^^ (a % 2)) = a := by rw [← this, Nat.xor_zero]
    rw [← Nat.xor_assoc, Nat.xor_self, Nat.zero_xor] at h3
    exact h3.symm
  omega

/-- The power 2^n - 1. -/
def pf : Nat → Nat → Nat
  | 0, _ => 1
  | n + 1, a => nm 4 a (pf n (nm 4 a a))

theorem pfF : ∀ (n : Nat) {a : Nat}, F a → F (pf n a)
  | 0, a, _ => by show F 1; decide
  | n + 1, a, h => nF h (pfF n (nF h h))

theorem pf_last : ∀ (n : Nat) {a : Nat}, F a → pf (n + 1) a = nm 4 (pf n a) (frob n a)
  | 0, a, h => by
    show nm 4 a 1 = nm 4 1 a
    exact cF h (by decide)
  | n + 1, a, h => by
    have ih := pf_last n (nF h h)
    show nm 4 a (pf (n + 1) (nm 4 a a)) = nm 4 (nm 4 a (pf n (nm 4 a a))) (frob n (nm 4 a a))
    rw [ih, aF h (pfF n (nF h h)) (frobF n (nF h h))]

theorem sq_mul {a b : Nat} (ha : F a) (hb : F b) : nm 4 (nm 4 a b) (nm 4 a b) = nm 4 (nm 4 a a) (nm 4 b b) := by
  rw [aF ha hb (nF ha hb), aF ha ha (nF hb hb), lF hb ha hb]

theorem pf_sq : ∀ (n : Nat) {a : Nat}, F a → nm 4 (pf n a) (pf n a) = pf n (nm 4 a a)
  | 0, a, _ => (nm_one 4 1 (by decide)).1
  | n + 1, a, h => by
    show nm 4 (nm 4 a (pf n (nm 4 a a))) (nm 4 a (pf n (nm 4 a a))) = nm 4 (nm 4 a a) (pf n (nm 4 (nm 4 a a) (nm 4 a a)))
    rw [sq_mul h (pfF n (nF h h)), pf_sq n (nF h h)]

theorem frob_pf : ∀ (n : Nat) {a : Nat}, F a → frob n a = nm 4 a (pf n a)
  | 0, a, h => ((nm_one 4 a h).1).symm
  | n + 1, a, h => by
    show frob n (nm 4 a a) = nm 4 a (nm 4 a (pf n (nm 4 a a)))
    rw [frob_pf n (nF h h), aF h h (pfF n (nF h h))]

theorem pf16 {a : Nat} (h : F a) (h0 : a ≠ 0) : pf 16 a = 1 := by
  have hi : nm 4 (pf 16 a) (pf 16 a) = pf 16 a := by
    rw [pf_sq 16 h, pf_last 15 (nF h h)]
    have : frob 15 (nm 4 a a) = a := frob16 h
    rw [this, cF (pfF 15 (nF h h)) h]
    rfl
  rcases idem (pfF 16 h) hi with h1 | h1
  · have := frob_pf 16 h
    rw [h1, (nm_zero 4 a).1, frob16 h] at this
    exact absurd this h0
  · exact h1

/-- The inverse. -/
theorem inv_mul {a : Nat} (h : F a) (h0 : a ≠ 0) : nm 4 a (pf 15 (nm 4 a a)) = 1 := pf16 h h0

theorem no_div {a b : Nat} (ha : F a) (hb : F b) : nm 4 a b = 0 ↔ (a = 0 ∨ b = 0) := by
  constructor
  · intro h
    by_cases h0 : a = 0
    · exact .inl h0
    · right
      have hi := inv_mul ha h0
      have hp := pfF 15 (nF ha ha)
      have : nm 4 (nm 4 a (pf 15 (nm 4 a a))) b = nm 4 (pf 15 (nm 4 a a)) (nm 4 a b) := by
        rw [cF ha hp, aF hp ha hb]
      rw [hi, h, (nm_one 4 b hb).2, (nm_zero 4 _).1] at this
      exact this
  · rintro (rfl | rfl)
    · exact (nm_zero 4 b).2
    · exact (nm_zero 4 a).1

def pwr (o a n : Nat) : Nat := if n = 0 then o else pwr (if n % 2 = 1 then nm 4 o a else o) (nm 4 a a) (n / 2)

theorem pwr_zero (o a : Nat) : pwr o a 0 = o := by rw [pwr]; rfl
theorem pwr_even {o a n : Nat} (h : 0 < n) : pwr o a (2 * n) = pwr o (nm 4 a a) n := by
  rw [pwr.eq_1 o a, if_neg (by omega), if_neg (by omega)]
  congr 1
  omega
theorem pwr_odd {o a n : Nat} : pwr o a (2 * n + 1) = pwr (nm 4 o a) (nm 4 a a) n := by
  rw [pwr.eq_1 o a, if_neg (by omega), if_pos (by omega)]
  congr 1
  omega

theorem pwr_two : ∀ (n : Nat) {o a : Nat}, F a → pwr o a (2 ^ n) = nm 4 o (frob n a)
  | 0, o, a, _ => by
    show pwr o a (2 * 0 + 1) = _
    rw [pwr_odd, pwr_zero]
    rfl
  | n + 1, o, a, h => by
    rw [Nat.pow_succ, Nat.mul_comm, pwr_even (Nat.pow_pos (by omega)), pwr_two n (nF h h)]
    rfl

theorem pwr_pf : ∀ (n : Nat) {o a : Nat}, F o → F a → pwr o a (2 ^ n - 1) = nm 4 o (pf n a)
  | 0, o, a, ho, _ => by
    show pwr o a 0 = nm 4 o 1
    rw [pwr_zero, (nm_one 4 o ho).1]
  | n + 1, o, a, ho, h => by
    have : 2 ^ (n + 1) - 1 = 2 * (2 ^ n - 1) + 1 := by
      have : 0 < 2 ^ n := Nat.pow_pos (by omega)
      rw [Nat.pow_succ]; omega
    rw [this, pwr_odd, pwr_pf n (nF ho h) (nF h h)]
    show _ = nm 4 o (nm 4 a (pf n (nm 4 a a)))
    rw [aF ho h (pfF n (nF h h))]

theorem pwrF (a : Nat) (n : Nat) : ∀ (o : Nat), F o → F a → F (pwr o a n) := by
  induction n using Nat.strongRecOn generalizing a with
  | _ n ih =>
    intro o ho ha
    rw [pwr]
    by_cases h : n = 0
    · rw [if_pos h]; exact ho
    · rw [if_neg h]
      refine ih (n / 2) (by omega) _ _ ?_ (nF ha ha)
      split
      · exact nF ho ha
      · exact ho

theorem pwr_65536 {a : Nat} (h : F a) : pwr 1 a 65536 = a := by
  have := pwr_two 16 (o := 1) h
  rw [frob16 h, (nm_one 4 a h).2] at this
  exact this

theorem root_sq {a : Nat} (h : F a) : nm 4 (pwr 1 a 32768) (pwr 1 a 32768) = a := by
  have h1 := pwr_two 15 (o := 1) h
  rw [(nm_one 4 _ (frobF 15 h)).2] at h1
  have h1 : pwr 1 a 32768 = frob 15 a := h1
  rw [h1]
  have : ∀ (n : Nat) {a : Nat}, F a → nm 4 (frob n a) (frob n a) = frob (n + 1) a := fun n => by
    induction n with
    | zero => intro a _; rfl
    | succ n ih => intro a ha; exact ih (nF ha ha)
  rw [this 15 h, frob16 h]

theorem inv_pwr {a : Nat} (h : F a) (h0 : a ≠ 0) : nm 4 a (pwr 1 a 65534) = 1 := by
  have h1 : pwr 1 a 65534 = pf 15 (nm 4 a a) := by
    show pwr 1 a (2 * 32767) = _
    rw [pwr_even (by omega)]
    have := pwr_pf 15 (o := 1) (by decide) (nF h h)
    rw [(nm_one 4 _ (pfF 15 (nF h h))).2] at this
    exact this
  rw [h1]
  exact inv_mul h h0

/-- A power of 2 to a power of 2, by less. -/
theorem less {x : Nat} : nm 4 2 (x % 2) = 2 * (x % 2) ∧ nm 4 4 (x % 4) = 4 * (x % 4) ∧ nm 4 16 (x % 16) = 16 * (x % 16) ∧ nm 4 256 (x % 256) = 256 * (x % 256) := by
  have key : ∀ m t : Nat, (List.range m).all (fun i => Nat.beq (nm 4 t i) (t * i)) = true → 0 < m → nm 4 t (x % m) = t * (x % m) := fun m t h hm => Nat.eq_of_beq_eq_true (all_lt h _ (Nat.mod_lt _ hm))
  exact ⟨key 2 2 (by decide +kernel) (by omega), key 4 4 (by decide +kernel) (by omega), key 16 16 (by decide +kernel) (by omega), key 256 256 (by decide +kernel) (by omega)⟩

theorem squares : nm 4 2 2 = 3 ∧ nm 4 4 4 = 6 ∧ nm 4 16 16 = 24 ∧ nm 4 256 256 = 384 := by decide +kernel

end Go.Proofs.YtegcmgjldapnmaaDoor.Nim
