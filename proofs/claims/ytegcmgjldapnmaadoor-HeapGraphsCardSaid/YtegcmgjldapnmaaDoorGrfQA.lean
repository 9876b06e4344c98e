/- Whole numbers of 64 bits as natural numbers. -/
import GoSem.Core.View
import Derived.Test.YtegcmgjldapnmaaDoorProg
import Derived.KernelRfl
import Derived.Test.YtegcmgjldapnmaaDoorSyF
import Derived.Test.YtegcmgjldapnmaaDoorAwake
namespace Go.Proofs.YtegcmgjldapnmaaDoor.Nim

abbrev andI (x y : Int) : Int := IntKind.wrap .i64 ((BitVec.ofInt 64 x &&& BitVec.ofInt 64 y).toNat : Int)
abbrev orI (x y : Int) : Int := IntKind.wrap .i64 ((BitVec.ofInt 64 x ||| BitVec.ofInt 64 y).toNat : Int)
abbrev xorI (x y : Int) : Int := IntKind.wrap .i64 ((BitVec.ofInt 64 x ^^^ BitVec.ofInt 64 y).toNat : Int)
abbrev shlI (x : Int) (n : Nat) : Int := IntKind.wrap .i64 (x * 2 ^ n)
abbrev shrI (x : Int) (n : Nat) : Int := x.fdiv (2 ^ n)

theorem wrap_nat {n : Nat} (h : n < 2 ^ 63) : IntKind.wrap .i64 (Int.ofNat n) = Int.ofNat n := by
  unfold IntKind.wrap
  have h1 : (Int.ofNat n) % (2 ^ IntKind.i64.bits : Int) = Int.ofNat n := Int.emod_eq_of_lt (by simp) (by
    show (n : Int) < 2 ^ 64
    have : (n : Int) < ((2 ^ 63 : Nat) : Int) := by exact_mod_cast h
    simp at this
    omega)
  simp only [h1]
  have h2 : ¬ ((Int.ofNat n : Int) ≥ (2 ^ (IntKind.i64.bits - 1) : Int)) := by
    show ¬ ((n : Int) ≥ 2 ^ 63)
    have : (n : Int) < ((2 ^ 63 : Nat) : Int) := by exact_mod_cast h
    simp at this
    omega
  have h3 : decide ((Int.ofNat n : Int) ≥ (2 ^ (IntKind.i64.bits - 1) : Int)) = false := decide_eq_false h2
  simp only [h3, Bool.and_false]
  rfl

theorem ofInt_nat (n : Nat) : BitVec.ofInt 64 (Int.ofNat n) = BitVec.ofNat 64 n := by
  simp [BitVec.ofInt_natCast]

theorem and_nat {a b : Nat} (ha : a < 2 ^ 63) : andI (Int.ofNat a) (Int.ofNat b) = Int.ofNat (a &&& b) := by
  unfold andI
  rw [ofInt_nat, ofInt_nat, BitVec.toNat_and, BitVec.toNat_ofNat, BitVec.toNat_ofNat]
  have h1 : a % 2 ^ 64 = a := Nat.mod_eq_of_lt (by omega)
  have h2 : a &&& b % 2 ^ 64 = a &&& b := by
    apply Nat.eq_of_testBit_eq
    intro i
    simp only [Nat.testBit_and, Nat.testBit_mod_two_pow]
    by_cases hi : i < 64
    · simp [hi]
    · have : a.testBit i = false := Nat.testBit_lt_two_pow (Nat.lt_of_lt_of_le (show a < 2 ^ 64 by omega) (Nat.pow_le_pow_right (by omega) (by omega)))
      simp [this]
  rw [h1, h2]
  exact wrap_nat (Nat.lt_of_le_of_lt Nat.and_le_left ha)

theorem xor_nat {a b : Nat} (ha : a < 2 ^ 63) (hb : b < 2 ^ 63) : xorI (Int.ofNat a) (Int.ofNat b) = Int.ofNat (a ^^^ b) := by
  unfold xorI
  rw [ofInt_nat, ofInt_nat, BitVec.toNat_xor, BitVec.toNat_ofNat, BitVec.toNat_ofNat]
  rw [Nat.mod_eq_of_lt (show a < 2 ^ 64 by omega), Nat.mod_eq_of_lt (show b < 2 ^ 64 by omega)]
  exact wrap_nat (Nat.xor_lt_two_pow ha hb)

theorem shr_nat (a n : Nat) : shrI (Int.ofNat a) n = Int.ofNat (a / 2 ^ n) := by
  show Int.fdiv (a : Int) (2 ^ n) = _
  have : (2 : Int) ^ n = ((2 ^ n : Nat) : Int) := by simp
  rw [this, Int.fdiv_eq_ediv_of_nonneg _ (Int.natCast_nonneg _)]
  exact (Int.natCast_ediv a (2 ^ n)).symm

theorem shl_nat {a n : Nat} (h : a * 2 ^ n < 2 ^ 63) : shlI (Int.ofNat a) n = Int.ofNat (a * 2 ^ n) := by
  unfold shlI
  have : (Int.ofNat a) * (2 : Int) ^ n = Int.ofNat (a * 2 ^ n) := by simp
  rw [this, wrap_nat h]

theorem or_nat {a b : Nat} (ha : a < 2 ^ 63) (hb : b < 2 ^ 63) : orI (Int.ofNat a) (Int.ofNat b) = Int.ofNat (a ||| b) := by
  unfold orI
  rw [ofInt_nat, ofInt_nat, BitVec.toNat_or, BitVec.toNat_ofNat, BitVec.toNat_ofNat]
  rw [Nat.mod_eq_of_lt (show a < 2 ^ 64 by omega), Nat.mod_eq_of_lt (show b < 2 ^ 64 by omega)]
  exact wrap_nat (Nat.or_lt_two_pow ha hb)
theorem wrap_int {x : Int} (h0 : -(2 ^ 63) ≤ x) (h1 : x < 2 ^ 63) : IntKind.wrap .i64 x = x := by
  cases x with
  | ofNat n => exact wrap_nat (by simp at h1; omega)
  | negSucc n =>
    have hn : n < 2 ^ 63 := by omega
    unfold IntKind.wrap
    have e1 : (Int.negSucc n) % (2 ^ IntKind.i64.bits : Int) = Int.ofNat (2 ^ 64 - 1 - n) := by
      show (Int.negSucc n) % (2 ^ 64 : Int) = _
      simp only [Int.ofNat_eq_natCast]
      omega
    simp only [e1]
    have h3 : decide ((Int.ofNat (2 ^ 64 - 1 - n) : Int) ≥ (2 ^ (IntKind.i64.bits - 1) : Int)) = true := by
      refine decide_eq_true ?_
      show ((2 ^ 64 - 1 - n : Nat) : Int) ≥ 2 ^ 63
      omega
    simp only [h3, Bool.and_true, show IntKind.i64.signed = true from rfl, if_true]
    show ((2 ^ 64 - 1 - n : Nat) : Int) - 2 ^ 64 = _
    omega
/-- One bit of a number. -/
theorem and_bit (x i : Nat) : (x &&& 2 ^ i = 0) ↔ x.testBit i = false := by
  constructor
  · intro h
    have : (x &&& 2 ^ i).testBit i = x.testBit i := by simp [Nat.testBit_and, Nat.testBit_two_pow]
    rw [← this, h, Nat.zero_testBit]
  · intro h
    apply Nat.eq_of_testBit_eq
    intro j
    rw [Nat.testBit_and, Nat.testBit_two_pow, Nat.zero_testBit]
    by_cases hij : i = j
    · subst hij; simp [h]
    · simp [hij]
theorem or_bit {x i : Nat} (h : x.testBit i = false) : x ||| 2 ^ i = x ^^^ 2 ^ i := by
  apply Nat.eq_of_testBit_eq
  intro j
  rw [Nat.testBit_or, Nat.testBit_xor, Nat.testBit_two_pow]
  by_cases hij : i = j
  · subst hij; simp [h]
  · simp [hij]
end Go.Proofs.YtegcmgjldapnmaaDoor.Nim
namespace Go.Proofs.YtegcmgjldapnmaaDoor
open Go Go.Eng Nim
set_option maxRecDepth 100000
/-- A number that is not less than 0. -/
abbrev J (a : Nat) : Value := .int .i64 (Int.ofNat a)
noncomputable abbrev Ev (lf n f : Nat) (l : List Value) (h : Hp) := evInv Tryd.prog orc lf n (.fn f l) h
theorem slT : SlT Tryd.prog 32 3 := ⟨by kernel_rfl, by kernel_rfl, ⟨_, rfl, by kernel_rfl⟩, ⟨_, rfl, by kernel_rfl⟩⟩
theorem aggI : isAggT Tryd.prog 3 = some false := by kernel_rfl
end Go.Proofs.YtegcmgjldapnmaaDoor
namespace Go.Proofs.YtegcmgjldapnmaaDoor.Nim
abbrev St := Nat → Nat × Int
section
variable (G : List (List Nat))
def grow (v : Nat) : List Nat := G.getD v []
def won0 (S : St) (r : List Nat) : Bool := r.any fun t => (S t).1 == 0
def all1 (S : St) (r : List Nat) : Bool := r.all fun t => (S t).1 == 1
def refAt (S : St) (d : Int) (v : Nat) : Nat × Int :=
  if (S v).1 ≠ 2 then S v else if won0 S (grow G v) = true then (1, d) else if all1 S (grow G v) = true then (0, d) else S v
def wonP (S : St) (d : Int) (r : List Nat) : Bool := r.any fun t => (S t).1 == 0 && (S t).2 == d - 1
def lastP (S : St) (r : List Nat) : Int := r.foldl (fun m t => max m (S t).2) (-1)
def foundP (S : St) (d : Int) (v : Nat) : Bool := (S v).1 == 2 && (wonP S d (grow G v) || (all1 S (grow G v) && lastP S (grow G v) == d - 1))
def progAt (S : St) (d : Int) (v : Nat) : Nat × Int :=
  if foundP G S d v = true then (if wonP S d (grow G v) = true then (1, d) else (0, d)) else S v
def refS : Nat → St
  | 0 => fun _ => (2, 0)
  | d + 1 => refAt G (refS d) d

theorem max_le {S : St} {m : Int} : ∀ {r : List Nat} {a : Int}, a ≤ m → (∀ t ∈ r, (S t).2 ≤ m) → r.foldl (fun m t => max m (S t).2) a ≤ m
  | [], _, ha, _ => ha
  | t :: r, a, ha, h => max_le (r := r) (by have := h t (by simp); simp only [Int.max_def]; split <;> omega) (fun x hx => h x (by simp [hx]))
theorem le_max {S : St} : ∀ {r : List Nat} {a : Int}, a ≤ r.foldl (fun m t => max m (S t).2) a ∧ ∀ t ∈ r, (S t).2 ≤ r.foldl (fun m t => max m (S t).2) a
  | [], a => ⟨Int.le_refl _, fun t ht => by cases ht⟩
  | t :: r, a => by
    obtain ⟨h1, h2⟩ := le_max (S := S) (r := r) (a := max a (S t).2)
    simp only [List.foldl_cons]
    have : a ≤ max a (S t).2 ∧ (S t).2 ≤ max a (S t).2 := by simp only [Int.max_def]; split <;> omega
    refine ⟨by omega, fun x hx => ?_⟩
    rcases List.mem_cons.1 hx with rfl | hx
    · omega
    · exact h2 x hx
theorem max_at {S : St} : ∀ {r : List Nat} {a : Int}, r.foldl (fun m t => max m (S t).2) a = a ∨ ∃ t ∈ r, (S t).2 = r.foldl (fun m t => max m (S t).2) a
  | [], a => .inl rfl
  | t :: r, a => by
    simp only [List.foldl_cons]
    rcases max_at (S := S) (r := r) (a := max a (S t).2) with h | ⟨x, hx, h⟩
    · rw [h]
      by_cases hc : a ≤ (S t).2
      · exact .inr ⟨t, by simp, by simp only [Int.max_def]; split <;> omega⟩
      · exact .inl (by simp only [Int.max_def]; split <;> omega)
    · exact .inr ⟨x, by simp [hx], h⟩

/-- What holds before round d. -/
structure InvS (d : Nat) (S : St) : Prop where
  k : ∀ v, (S v).1 ≤ 2
  dr : ∀ v, (S v).1 = 2 → S v = (2, 0)
  di : ∀ v, (S v).1 ≠ 2 → 0 ≤ (S v).2 ∧ (S v).2 < d
  lo : ∀ v, (S v).1 = 2 → ∀ t ∈ grow G v, (S t).1 = 0 → (S t).2 = (d : Int) - 1
  al : ∀ v, (S v).1 = 2 → all1 S (grow G v) = true → lastP S (grow G v) = (d : Int) - 1

theorem all1_iff {S : St} {r : List Nat} : all1 S r = true ↔ ∀ t ∈ r, (S t).1 = 1 := by simp [all1]
theorem won0_iff {S : St} {r : List Nat} : won0 S r = true ↔ ∃ t ∈ r, (S t).1 = 0 := by simp [won0]
theorem wonP_iff {S : St} {d : Int} {r : List Nat} : wonP S d r = true ↔ ∃ t ∈ r, S t = (0, d - 1) := by
  simp only [wonP, List.any_eq_true, Bool.and_eq_true, beq_iff_eq, Prod.ext_iff]

variable {G}
theorem refAt_old {S : St} {d : Int} {v : Nat} (h : (S v).1 ≠ 2) : refAt G S d v = S v := if_pos h
theorem refAt_new {S : St} {d : Int} {v : Nat} (h : (S v).1 = 2) : refAt G S d v = (if won0 S (grow G v) = true then (1, d) else if all1 S (grow G v) = true then (0, d) else S v) := by
  unfold refAt
  rw [if_neg (fun hc => hc h)]
theorem refAt_cases {S : St} {d : Int} {v : Nat} (h : (S v).1 = 2) : (refAt G S d v = (1, d) ∧ won0 S (grow G v) = true) ∨ (refAt G S d v = (0, d) ∧ won0 S (grow G v) = false ∧ all1 S (grow G v) = true) ∨ (refAt G S d v = S v ∧ won0 S (grow G v) = false ∧ all1 S (grow G v) = false) := by
  rw [refAt_new h]
  cases h1 : won0 S (grow G v) <;> cases h2 : all1 S (grow G v) <;> simp
theorem inv_step {d : Nat} {S : St} (I : InvS G d S) : InvS G (d + 1) (refAt G S d) := by
  have old : ∀ t, (S t).1 ≠ 2 → refAt G S d t = S t := fun t => refAt_old
  have drawn : ∀ v, (refAt G S d v).1 = 2 → (S v).1 = 2 ∧ refAt G S d v = S v ∧ won0 S (grow G v) = false ∧ all1 S (grow G v) = false := by
    intro v hv
    by_cases h : (S v).1 = 2
    · rcases refAt_cases (G := G) (d := d) h with ⟨e, _⟩ | ⟨e, _⟩ | ⟨e, h1, h2⟩
      · rw [e] at hv; cases hv
      · rw [e] at hv; cases hv
      · exact ⟨h, e, h1, h2⟩
    · rw [old v h] at hv; exact absurd hv h
  have le : ∀ t, (refAt G S d t).2 ≤ d ∧ ((refAt G S d t).1 ≠ 2 → 0 ≤ (refAt G S d t).2) := by
    intro t
    by_cases h : (S t).1 = 2
    · rcases refAt_cases (G := G) (d := d) h with ⟨e, _⟩ | ⟨e, _⟩ | ⟨e, h1, h2⟩
      · rw [e]; exact ⟨Int.le_refl _, fun _ => by simp⟩
      · rw [e]; exact ⟨Int.le_refl _, fun _ => by simp⟩
      · rw [e, I.dr t h]; exact ⟨by simp, fun _ => by simp⟩
    · rw [old t h]; have := I.di t h; exact ⟨by omega, fun _ => this.1⟩
  refine ⟨fun v => ?_, fun v hv => ?_, fun v hv => ?_, fun v hv t ht h0 => ?_, fun v hv ha => ?_⟩
  · by_cases h : (S v).1 = 2
    · rcases refAt_cases (G := G) (d := d) h with ⟨e, _⟩ | ⟨e, _⟩ | ⟨e, h1, h2⟩
      · rw [e]; simp
      · rw [e]; simp
      · rw [e]; exact I.k v
    · rw [old v h]; exact I.k v
  · obtain ⟨h, e, _⟩ := drawn v hv
    rw [e]; exact I.dr v h
  · have := le v
    exact ⟨this.2 hv, by omega⟩
  · obtain ⟨h, e, h1, h2⟩ := drawn v hv
    by_cases ht2 : (S t).1 = 2
    · rcases refAt_cases (G := G) (d := d) ht2 with ⟨e, _⟩ | ⟨e, _⟩ | ⟨e, _, _⟩
      · rw [e] at h0; cases h0
      · rw [e]; show (d : Int) = _; omega
      · rw [e, ht2] at h0; cases h0
    · rw [old t ht2] at h0
      have : won0 S (grow G v) = true := won0_iff.2 ⟨t, ht, h0⟩
      rw [h1] at this; cases this
  · obtain ⟨h, e, h1, h2⟩ := drawn v hv
    have ha' := all1_iff.1 ha
    have : ¬ ∀ t ∈ grow G v, (S t).1 = 1 := fun hc => by rw [all1_iff.2 hc] at h2; cases h2
    have : ∃ t ∈ grow G v, (S t).1 ≠ 1 := Classical.byContradiction fun hc => this fun t ht => Classical.byContradiction fun h => hc ⟨t, ht, h⟩
    obtain ⟨t, ht, htn⟩ := this
    have ht1 := ha' t ht
    have et : (refAt G S d t).2 = d := by
      by_cases ht2 : (S t).1 = 2
      · rcases refAt_cases (G := G) (d := d) ht2 with ⟨e, _⟩ | ⟨e, _⟩ | ⟨e, _, _⟩
        · rw [e]
        · rw [e]
        · rw [e, ht2] at ht1; cases ht1
      · rw [old t ht2] at ht1; exact absurd ht1 htn
    have g1 := max_le (S := refAt G S d) (m := d) (r := grow G v) (a := -1) (by omega) (fun t _ => (le t).1)
    have g2 := (le_max (S := refAt G S d) (r := grow G v) (a := -1)).2 t ht
    unfold lastP
    omega
theorem inv_refS : ∀ d, InvS G d (refS G d)
  | 0 => by
    refine ⟨fun v => Nat.le_refl _, fun v _ => rfl, fun v hv => absurd rfl hv, fun v _ t _ h => (by cases h), fun v _ h => ?_⟩
    have : grow G v = [] := by
      cases hg : grow G v with
      | nil => rfl
      | cons t r => have := all1_iff.1 h t (by rw [hg]; simp); cases this
    rw [this]; rfl
  | d + 1 => inv_step (inv_refS d)
/-- Both ways. -/
theorem prog_ref {d : Nat} {S : St} (I : InvS G d S) (v : Nat) : progAt G S d v = refAt G S d v := by
  unfold progAt foundP
  by_cases h : (S v).1 = 2
  · have hw : wonP S d (grow G v) = won0 S (grow G v) := by
      rw [Bool.eq_iff_iff, wonP_iff, won0_iff]
      constructor
      · rintro ⟨t, ht, e⟩; exact ⟨t, ht, by rw [e]⟩
      · rintro ⟨t, ht, e⟩; exact ⟨t, ht, Prod.ext e (I.lo v h t ht e)⟩
    rw [refAt_new h, hw, h]
    cases h1 : won0 S (grow G v) with
    | true => simp
    | false =>
      cases h2 : all1 S (grow G v) with
      | true => simp [I.al v h h2]
      | false => simp
  · rw [refAt_old h]
    have : ((S v).1 == 2) = false := by simpa using h
    rw [this]
    simp

/-- What the outcomes are like. -/
structure FinS (G : List (List Nat)) (S : St) : Prop where
  w1 : ∀ v, (S v).1 = 1 → ∃ t ∈ grow G v, S t = (0, (S v).2 - 1)
  w2 : ∀ v, (S v).1 = 1 → ∀ t ∈ grow G v, (S t).1 = 0 → (S v).2 - 1 ≤ (S t).2
  l1 : ∀ v, (S v).1 = 0 → ∀ t ∈ grow G v, (S t).1 = 1 ∧ (S t).2 ≤ (S v).2 - 1
  l2 : ∀ v, (S v).1 = 0 → grow G v ≠ [] → ∃ t ∈ grow G v, S t = (1, (S v).2 - 1)
  l3 : ∀ v, (S v).1 = 0 → grow G v = [] → (S v).2 = 0
theorem fin_step {d : Nat} {S : St} (I : InvS G d S) (F : FinS G S) : FinS G (refAt G S d) := by
  have old : ∀ t, (S t).1 ≠ 2 → refAt G S d t = S t := fun t => refAt_old
  have new : ∀ t, (S t).1 = 2 → (refAt G S d t).1 ≠ 2 → (refAt G S d t).2 = d := by
    intro t ht h
    rcases refAt_cases (G := G) (d := d) ht with ⟨e, _⟩ | ⟨e, _⟩ | ⟨e, _, _⟩
    · rw [e]
    · rw [e]
    · rw [e] at h; exact absurd ht h
  have zero : ∀ t, (refAt G S d t).1 = 0 → (S t).1 ≠ 2 → (S t).1 = 0 := fun t h h2 => by rw [old t h2] at h; exact h
  refine ⟨fun v hv => ?_, fun v hv t ht h0 => ?_, fun v hv t ht => ?_, fun v hv hn => ?_, fun v hv hn => ?_⟩
  · by_cases h : (S v).1 = 2
    · rcases refAt_cases (G := G) (d := d) h with ⟨e, hw⟩ | ⟨e, _⟩ | ⟨e, _, _⟩
      · obtain ⟨t, ht, h0⟩ := won0_iff.1 hw
        refine ⟨t, ht, ?_⟩
        rw [old t (by rw [h0]; decide), e]
        exact Prod.ext h0 (I.lo v h t ht h0)
      · rw [e] at hv; cases hv
      · rw [e, h] at hv; cases hv
    · rw [old v h] at hv ⊢
      obtain ⟨t, ht, e⟩ := F.w1 v hv
      exact ⟨t, ht, by rw [old t (by rw [e]; simp)]; exact e⟩
  · have hlt : (refAt G S d v).2 ≤ d := by
      by_cases h : (S v).1 = 2
      · rw [new v h (by rw [hv]; decide)]; exact Int.le_refl _
      · rw [old v h]; have := (I.di v h).2; omega
    by_cases ht2 : (S t).1 = 2
    · rw [new t ht2 (by rw [h0]; decide)]; omega
    · have h00 := zero t h0 ht2
      rw [old t ht2]
      by_cases h : (S v).1 = 2
      · have := I.lo v h t ht h00; omega
      · rw [old v h] at hv ⊢
        exact F.w2 v hv t ht h00
  · by_cases h : (S v).1 = 2
    · rcases refAt_cases (G := G) (d := d) h with ⟨e, _⟩ | ⟨e, _, ha⟩ | ⟨e, _, _⟩
      · rw [e] at hv; cases hv
      · have h1 := all1_iff.1 ha t ht
        rw [old t (by rw [h1]; decide), e]
        have := (I.di t (by rw [h1]; decide)).2
        exact ⟨h1, by show (S t).2 ≤ (d : Int) - 1; omega⟩
      · rw [e, h] at hv; cases hv
    · rw [old v h] at hv ⊢
      have h1 := F.l1 v hv t ht
      rw [old t (by rw [h1.1]; decide)]
      exact h1
  · by_cases h : (S v).1 = 2
    · rcases refAt_cases (G := G) (d := d) h with ⟨e, _⟩ | ⟨e, _, ha⟩ | ⟨e, _, _⟩
      · rw [e] at hv; cases hv
      · have hl := I.al v h ha
        have h1 := all1_iff.1 ha
        rw [e]
        rcases max_at (S := S) (r := grow G v) (a := -1) with hm | ⟨t, ht, hm⟩
        · obtain ⟨t, ht⟩ := List.exists_mem_of_ne_nil _ hn
          have := (I.di t (by rw [h1 t ht]; decide))
          unfold lastP at hl
          omega
        · refine ⟨t, ht, ?_⟩
          rw [old t (by rw [h1 t ht]; decide)]
          unfold lastP at hl
          exact Prod.ext (h1 t ht) (hm.trans hl)
      · rw [e, h] at hv; cases hv
    · rw [old v h] at hv ⊢
      obtain ⟨t, ht, e⟩ := F.l2 v hv hn
      exact ⟨t, ht, by rw [old t (by rw [e]; simp)]; exact e⟩
  · by_cases h : (S v).1 = 2
    · rcases refAt_cases (G := G) (d := d) h with ⟨e, _⟩ | ⟨e, _, ha⟩ | ⟨e, _, _⟩
      · rw [e] at hv; cases hv
      · have hl := I.al v h ha
        rw [hn] at hl
        rw [e]
        have hl : (-1 : Int) = d - 1 := hl
        show (d : Int) = 0
        omega
      · rw [e, h] at hv; cases hv
    · rw [old v h] at hv ⊢
      exact F.l3 v hv hn
theorem fin_refS : ∀ d, FinS G (refS G d)
  | 0 => ⟨fun _ h => (by cases h), fun _ h => (by cases h), fun _ h => (by cases h), fun _ h => (by cases h), fun _ h => (by cases h)⟩
  | d + 1 => fin_step (inv_refS d) (fin_refS d)
end
section
variable {G : List (List Nat)}
theorem refS_empty {v : Nat} (h : grow G v = []) : ∀ d, refS G (d + 1) v = (0, 0)
  | 0 => by
    show refAt G (fun _ => (2, 0)) (0 : Nat) v = (0, 0)
    rw [refAt_new rfl, h]
    rfl
  | d + 1 => by
    show refAt G (refS G (d + 1)) (d + 1 : Nat) v = (0, 0)
    rw [refAt_old (by rw [refS_empty h d]; decide), refS_empty h d]
theorem count_le {p q : Nat → Bool} : ∀ {l : List Nat}, (∀ x ∈ l, p x = true → q x = true) → l.countP p ≤ l.countP q
  | [], _ => Nat.le_refl _
  | x :: l, h => by
    have ih := count_le (l := l) (fun y hy => h y (by simp [hy]))
    rw [List.countP_cons, List.countP_cons]
    have hx := h x (by simp)
    cases hp : p x
    · simp; omega
    · rw [hx hp]; simp; omega
theorem count_lt {p q : Nat → Bool} {v : Nat} (hp : p v = false) (hq : q v = true) : ∀ {l : List Nat}, (∀ x ∈ l, p x = true → q x = true) → v ∈ l → l.countP p < l.countP q
  | [], _, hv => by cases hv
  | x :: l, h, hv => by
    rw [List.countP_cons, List.countP_cons]
    rcases List.mem_cons.1 hv with rfl | hv
    · have ih := count_le (l := l) (fun y hy => h y (by simp [hy]))
      rw [hp, hq]; simp; omega
    · have ih := count_lt hp hq (l := l) (fun y hy => h y (by simp [hy])) hv
      have hx := h x (by simp)
      cases hpx : p x
      · simp; omega
      · rw [hx hpx]; simp; omega
/-- Nothing is found any more. -/
def Still (G : List (List Nat)) (d : Nat) : Prop := ∀ v, v < G.length → (refS G d v).1 = 2 → won0 (refS G d) (grow G v) = false ∧ all1 (refS G d) (grow G v) = false
def told (G : List (List Nat)) (d : Nat) : Nat := (List.range G.length).countP fun v => (refS G d v).1 != 2
theorem still_same {d : Nat} (hs : Still G d) {v : Nat} (hv : v < G.length) : refS G (d + 1) v = refS G d v := by
  show refAt G (refS G d) d v = _
  by_cases h : (refS G d v).1 = 2
  · rcases refAt_cases (G := G) (d := (d : Int)) h with ⟨_, e⟩ | ⟨_, _, e⟩ | ⟨e, _⟩
    · rw [(hs v hv h).1] at e; cases e
    · rw [(hs v hv h).2] at e; cases e
    · exact e
  · exact refAt_old h
theorem still_succ (hG : ∀ i t, t ∈ grow G i → t < G.length) {d : Nat} (hs : Still G d) : Still G (d + 1) := by
  intro v hv h2
  rw [still_same hs hv] at h2
  have h1 := hs v hv h2
  have e : ∀ f : Nat × Int → Bool, ((grow G v).any fun t => f (refS G (d + 1) t)) = ((grow G v).any fun t => f (refS G d t)) := by
    intro f
    rw [Bool.eq_iff_iff, List.any_eq_true, List.any_eq_true]
    constructor
    · rintro ⟨t, ht, hf⟩; exact ⟨t, ht, by rwa [still_same hs (hG v t ht)] at hf⟩
    · rintro ⟨t, ht, hf⟩; exact ⟨t, ht, by rwa [still_same hs (hG v t ht)]⟩
  have e2 : ((grow G v).all fun t => (refS G (d + 1) t).1 == 1) = ((grow G v).all fun t => (refS G d t).1 == 1) := by
    rw [Bool.eq_iff_iff, List.all_eq_true, List.all_eq_true]
    constructor
    · intro h t ht; have := h t ht; rwa [still_same hs (hG v t ht)] at this
    · intro h t ht; rw [still_same hs (hG v t ht)]; exact h t ht
  exact ⟨(e (fun x => x.1 == 0)).trans h1.1, e2.trans h1.2⟩
theorem told_succ {d : Nat} (hs : ¬ Still G d) : told G d < told G (d + 1) := by
  have hs : ∃ v, v < G.length ∧ (refS G d v).1 = 2 ∧ ¬ (won0 (refS G d) (grow G v) = false ∧ all1 (refS G d) (grow G v) = false) := by
    refine Classical.byContradiction fun hc => hs fun v hv h2 => Classical.byContradiction fun h => hc ⟨v, hv, h2, h⟩
  obtain ⟨v, hv, h2, h3⟩ := hs
  refine count_lt (v := v) (by simp [h2]) ?_ (fun x _ hx => ?_) (List.mem_range.2 hv)
  · show ((refAt G (refS G d) d v).1 != 2) = true
    rcases refAt_cases (G := G) (d := (d : Int)) h2 with ⟨e, _⟩ | ⟨e, _⟩ | ⟨_, e⟩
    · rw [e]; rfl
    · rw [e]; rfl
    · exact absurd e h3
  · show ((refAt G (refS G d) d x).1 != 2) = true
    rw [refAt_old (by simpa using hx)]
    exact hx
theorem still_end (hG : ∀ i t, t ∈ grow G i → t < G.length) : Still G (G.length + 1) := by
  have key : ∀ d, Still G d ∨ d ≤ told G d := by
    intro d
    induction d with
    | zero => exact .inr (Nat.zero_le _)
    | succ d ih =>
      by_cases hs : Still G d
      · exact .inl (still_succ hG hs)
      · have := told_succ hs
        rcases ih with h | h
        · exact absurd h hs
        · exact .inr (by omega)
  rcases key (G.length + 1) with h | h
  · exact h
  · have : told G (G.length + 1) ≤ G.length := by
      have := List.countP_le_length (p := fun v => (refS G (G.length + 1) v).1 != 2) (l := List.range G.length)
      rwa [List.length_range] at this
    omega
end
end Go.Proofs.YtegcmgjldapnmaaDoor.Nim
namespace Go.Proofs.YtegcmgjldapnmaaDoor
open Go Go.Eng Nim
set_option maxRecDepth 100000
/-- A number of Go's int. -/
abbrev I (z : Int) : Value := .int .i64 z
theorem u31 : Tryd.prog.underlying 31 = some (.slice 32) := by kernel_rfl
theorem u32 : Tryd.prog.underlying 32 = some (.slice 3) := by kernel_rfl
theorem z3 : sizeT Tryd.prog 3 = some 1 := by kernel_rfl
theorem z32 : sizeT Tryd.prog 32 = some 1 := by kernel_rfl
theorem agg32 : isAggT Tryd.prog 32 = some false := by kernel_rfl
/-- A slice of slices of ints that may be read. -/
def Gr (h : Hp) (v : Value) (g : List (List Int)) : Prop := ∃ vs, Rds h v vs ∧ vs.length = g.length ∧ ∀ (i : Nat) (r : List Int), g[i]? = some r → ∃ rv, vs[i]? = some rv ∧ Rds h rv (r.map I)
theorem Gr.ext {h h' : Hp} {v : Value} {g : List (List Int)} (hg : Gr h v g) (k : h.Ext h') : Gr h' v g := by
  obtain ⟨vs, h1, h2, h3⟩ := hg
  exact ⟨vs, h1.ext k, h2, fun i r hr => by obtain ⟨rv, h4, h5⟩ := h3 i r hr; exact ⟨rv, h4, h5.ext k⟩⟩
theorem Gr.shape {h : Hp} {v : Value} {g : List (List Int)} (hg : Gr h v g) : ∃ a c, v = .slice a g.length c := by
  obtain ⟨vs, h1, h2, h3⟩ := hg
  rw [← h2]
  exact h1.shape
/-- One row. -/
theorem Gr.row {h : Hp} {v : Value} {g : List (List Int)} (hg : Gr h v g) {i : Nat} (hi : i < g.length) : ∃ p rv, indexAddrOp Tryd.prog 31 v (J i) = some p ∧ loadT Tryd.prog h 32 p = some rv ∧ Rds h rv (g[i].map I) := by
  obtain ⟨vs, h1, h2, h3⟩ := hg
  obtain ⟨rv, h4, h5⟩ := h3 i g[i] (List.getElem?_eq_getElem hi)
  obtain ⟨p, h6, h7⟩ := h1.read u31 z32 agg32 h4
  exact ⟨p, rv, h6, h7, h5⟩
/-- One number of a row. -/
theorem row_get {h : Hp} {rv : Value} {r : List Int} (hr : Rds h rv (r.map I)) {k : Nat} (hk : k < r.length) : ∃ p, indexAddrOp Tryd.prog 32 rv (J k) = some p ∧ loadT Tryd.prog h 3 p = some (I r[k]) :=
  hr.read u32 z3 aggI (by rw [List.getElem?_map, List.getElem?_eq_getElem hk]; rfl)
/-- A row of a graph of n vertices, the first k of it. -/
def RowOK (n : Nat) (r : List Int) (k : Nat) : Prop := ∀ j (hj : j < r.length), j < k → 0 ≤ r[j] ∧ r[j] < Int.ofNat n ∧ (∀ hp : j ≠ 0, r[j - 1] < r[j])
/-- A graph. -/
def GrOK (g : List (List Int)) : Prop := 1 ≤ g.length ∧ g.length ≤ 200 ∧ ∀ r ∈ g, RowOK g.length r r.length
def okRows (g : List (List Int)) (i : Nat) : Prop := ∀ j (hj : j < g.length), j < i → RowOK g.length g[j] g[j].length
theorem ok_nat {a b : Nat} (h : decide (Int.ofNat a < Int.ofNat b) = true) : a < b := by have := of_decide_eq_true h; simpa using this
theorem no_nat {a b : Nat} (h : decide (Int.ofNat a < Int.ofNat b) = false) : b ≤ a := by have := of_decide_eq_false h; simp at this; omega
/-- The number before. -/
def lastOf (r : List Int) (k : Nat) : Int := if k = 0 then -1 else r.getD (k - 1) 0
theorem no_ok {g : List (List Int)} {i k : Nat} (hi : i < g.length) (hk : k < g[i].length) (h : g[i][k] ≤ lastOf g[i] k ∨ Int.ofNat g.length ≤ g[i][k]) : ¬ GrOK g := by
  rintro ⟨_, _, h3⟩
  obtain ⟨h4, h5, h6⟩ := h3 g[i] (List.getElem_mem hi) k hk hk
  rcases h with h | h
  · unfold lastOf at h
    split at h
    · omega
    · rename_i hp
      have := h6 hp
      rw [List.getD_eq_getElem?_getD, List.getElem?_eq_getElem (by omega), Option.getD_some] at h
      omega
  · omega
theorem ok_step {n : Nat} {r : List Int} {k : Nat} (hk : k < r.length) (h : RowOK n r k) (h1 : ¬ r[k] ≤ lastOf r k) (h2 : ¬ Int.ofNat n ≤ r[k]) : RowOK n r (k + 1) := by
  intro j hj hjk
  rcases Nat.lt_succ_iff_lt_or_eq.1 hjk with hlt | rfl
  · exact h j hj hlt
  · unfold lastOf at h1
    split at h1
    · rename_i h0
      subst h0
      exact ⟨by omega, by omega, fun hp => absurd rfl hp⟩
    · rename_i hp
      rw [List.getD_eq_getElem?_getD, List.getElem?_eq_getElem (by omega), Option.getD_some] at h1
      have := h (j - 1) (by omega) (by omega)
      exact ⟨by omega, by omega, fun _ => by omega⟩
theorem s20 (g : List (List Int)) (lf n : Nat) (hlf : g.length < lf) (hrow : ∀ r ∈ g, r.length < lf) (v : Value) (h : Hp) (hg : Gr h v g) (hsm : lf < 2 ^ 62) :
    ∃ x h', Ev lf (n+1) 20 [v] h = some (x, h') ∧ h' = h ∧ ((x = J 0 ∧ GrOK g) ∨ (x = J 61 ∧ ¬ GrOK g)) := by
  obtain ⟨a, c, hsh⟩ := hg.shape
  subst hsh
  refine fnS_ok (Q := fun x h' => h' = h ∧ ((x = J 0 ∧ GrOK g) ∨ (x = J 61 ∧ ¬ GrOK g))) ?_
  refine ok_go 2 ?_
  refine sy_test 0 (decide (Int.ofNat g.length < 1)) (by kernel_rfl) ?_ ?_
  · intro h1
    have h1 : g.length < 1 := by have := of_decide_eq_true h1; simp at this; omega
    refine ok_go 4 ?_
    exact sy_done 0 (v := J 61) (h := h) (by kernel_rfl) ⟨rfl, .inr ⟨rfl, fun hc => by have := hc.1; omega⟩⟩
  · intro h1
    have h1 : 1 ≤ g.length := by have := of_decide_eq_false h1; simp at this; omega
    refine ok_go 5 ?_
    refine sy_test 0 (decide (200 < Int.ofNat g.length)) (by kernel_rfl) ?_ ?_
    · intro h2
      have h2 : 200 < g.length := by have := of_decide_eq_true h2; simp at this; omega
      refine ok_go 0 ?_
      exact sy_done 0 (v := J 61) (h := h) (by kernel_rfl) ⟨rfl, .inr ⟨rfl, fun hc => by have := hc.2.1; omega⟩⟩
    · intro h2
      have h2 : g.length ≤ 200 := by have := of_decide_eq_false h2; simp at this; omega
      refine ok_go 1 ?_
      refine sy_loop 0 lf h (α := Nat) (fun s => [(0, .slice a g.length c), (16, .slice a g.length c), (17, J g.length), (18, J s)]) (fun s k => k = h ∧ s ≤ g.length ∧ okRows g s) (fun s _ => g.length - s) 0 (by kernel_rfl) (by kernel_rfl) ⟨by kernel_rfl, by kernel_rfl, by kernel_rfl, by kernel_rfl, trivial⟩ (show g.length - 0 < lf by omega) ⟨rfl, Nat.zero_le _, fun j hj hj0 => absurd hj0 (Nat.not_lt_zero _)⟩ ?_
      rintro m i f k ⟨rfl, hil, hi⟩ ih
      refine ok_go 1 ?_
      refine sy_test 0 (decide (Int.ofNat i < Int.ofNat g.length)) (by kernel_rfl) ?_ ?_
      · intro hlt
        have hlt := ok_nat hlt
        obtain ⟨p, rv, e1, e2, hr⟩ := hg.row hlt
        refine ok_go 0 ?_
        refine sy_load 0 (r := indexAddrOp Tryd.prog 31 (.slice a g.length c) (J i)) (h' := k) (by kernel_rfl) e1 ?_
        refine ok_go 0 ?_
        refine sy_load 0 (r := loadT Tryd.prog k 32 p) (h' := k) (by kernel_rfl) e2 ?_
        obtain ⟨ra, rc, hrs⟩ := hr.shape
        rw [List.length_map] at hrs
        subst hrs
        refine ok_go 1 ?_
        refine sy_loop 0 lf k (α := Nat) (fun s => [(0, .slice a g.length c), (16, .slice a g.length c), (17, J g.length), (18, J i), (22, .slice ra g[i].length rc), (23, J g[i].length), (24, J s), (5, I (lastOf g[i] s))]) (fun s k' => k' = k ∧ s ≤ g[i].length ∧ RowOK g.length g[i] s) (fun s _ => g[i].length - s) 0 (by kernel_rfl) (by kernel_rfl) ⟨by kernel_rfl, by kernel_rfl, by kernel_rfl, by kernel_rfl, by kernel_rfl, by kernel_rfl, by kernel_rfl, by kernel_rfl, trivial⟩ (show g[i].length - 0 < lf by have := hrow _ (List.getElem_mem hlt); omega) ⟨rfl, Nat.zero_le _, fun j hj hj0 => absurd hj0 (Nat.not_lt_zero _)⟩ ?_
        rintro m2 j f2 k2 ⟨rfl, hjl, hj⟩ ih2
        refine ok_go 1 ?_
        refine sy_test 0 (decide (Int.ofNat j < Int.ofNat g[i].length)) (by kernel_rfl) ?_ ?_
        · intro hjlt
          have hjlt := ok_nat hjlt
          have hll := hrow _ (List.getElem_mem hlt)
          obtain ⟨q, e3, e4⟩ := row_get hr hjlt
          refine ok_go 0 ?_
          refine sy_load 0 (r := indexAddrOp Tryd.prog 32 (.slice ra g[i].length rc) (J j)) (h' := k2) (by kernel_rfl) e3 ?_
          refine ok_go 0 ?_
          refine sy_load 0 (r := loadT Tryd.prog k2 3 q) (h' := k2) (by kernel_rfl) e4 ?_
          refine ok_go 1 ?_
          refine sy_test 0 (decide (g[i][j] ≤ lastOf g[i] j)) (by kernel_rfl) ?_ ?_
          · intro hc
            have hc := of_decide_eq_true hc
            refine ok_go 5 ?_
            exact sy_done 0 (v := J 61) (h := k2) (by kernel_rfl) ⟨rfl, .inr ⟨rfl, no_ok hlt hjlt (.inl hc)⟩⟩
          · intro hc
            have hc := of_decide_eq_false hc
            refine ok_go 6 ?_
            refine sy_test 0 (decide (g[i][j] ≥ Int.ofNat g.length)) (by kernel_rfl) ?_ ?_
            · intro hd
              have hd := of_decide_eq_true hd
              refine ok_go 0 ?_
              exact sy_done 0 (v := J 61) (h := k2) (by kernel_rfl) ⟨rfl, .inr ⟨rfl, no_ok hlt hjlt (.inr hd)⟩⟩
            · intro hd
              have hd := of_decide_eq_false hd
              refine ok_go 1 ?_
              refine sy_next 0 _ k2 (by kernel_rfl) (by kernel_rfl) (ih2 (j + 1) _ k2 ⟨rfl, hjlt, ok_step hjlt hj hc hd⟩ (show g[i].length - (j + 1) < g[i].length - j by omega) ⟨by kernel_rfl, by kernel_rfl, by kernel_rfl, by kernel_rfl, by kernel_rfl, by kernel_rfl, (by kernel_rfl : _ = Value.int .i64 (IntKind.wrap .i64 (Int.ofNat (j + 1)))).trans (by rw [wrap_nat (by omega)]), (by kernel_rfl : _ = I g[i][j]).trans (by unfold lastOf; rw [if_neg (Nat.succ_ne_zero j), Nat.add_sub_cancel, List.getD_eq_getElem?_getD, List.getElem?_eq_getElem hjlt, Option.getD_some]), trivial⟩)
        · intro hjlt
          have hjlt := no_nat hjlt
          refine ok_go 1 ?_
          refine sy_next 0 _ k2 (by kernel_rfl) (by kernel_rfl) (ih (i + 1) _ k2 ⟨rfl, hlt, fun q hq hqi => ?_⟩ (show g.length - (i + 1) < g.length - i by omega) ⟨by kernel_rfl, by kernel_rfl, by kernel_rfl, (by kernel_rfl : _ = Value.int .i64 (IntKind.wrap .i64 (Int.ofNat (i + 1)))).trans (by rw [wrap_nat (by omega)]), trivial⟩)
          rcases Nat.lt_succ_iff_lt_or_eq.1 hqi with h7 | h7
          · exact hi q hq h7
          · subst h7
            intro x hx _
            exact hj x hx (by omega)
      · intro hlt
        have hlt := no_nat hlt
        refine ok_go 0 ?_
        refine sy_done 0 (v := J 0) (h := k) (by kernel_rfl) ⟨rfl, .inl ⟨rfl, h1, h2, fun r hr => ?_⟩⟩
        obtain ⟨q, hq, rfl⟩ := List.getElem_of_mem hr
        exact hi q hq (by omega)
end Go.Proofs.YtegcmgjldapnmaaDoor
namespace Go.Proofs.YtegcmgjldapnmaaDoor
open Go Go.Eng Nim
set_option maxRecDepth 100000
theorem ok_step' {n : Nat} {r : List Int} {k : Nat} (hk : k < r.length) (h : RowOK n r k) (h1 : ¬ r[k] < 0) (h2 : ¬ r[k] ≥ Int.ofNat n) (h3 : ∀ _ : k ≠ 0, ¬ r[k - 1] ≥ r[k]) : RowOK n r (k + 1) := by
  intro j hj hjk
  rcases Nat.lt_succ_iff_lt_or_eq.1 hjk with hlt | rfl
  · exact h j hj hlt
  · exact ⟨by omega, by omega, fun hp => by have := h3 hp; omega⟩
theorem sub1 {j : Nat} (h : j < 2 ^ 63) : IntKind.wrap .i64 (Int.ofNat (j + 1) - 1) = Int.ofNat j := by
  rw [show Int.ofNat (j + 1) - 1 = Int.ofNat j by simp]
  exact wrap_nat h
theorem s19 (g : List (List Int)) (lf n : Nat) (hlf : g.length < lf) (hrow : ∀ r ∈ g, r.length < lf) (v : Value) (h : Hp) (hg : Gr h v g) (hsm : lf < 2 ^ 62) :
    ∃ x h', Ev lf (n+1) 19 [v] h = some (x, h') ∧ h' = h ∧ ((x = J 0 ∧ GrOK g) ∨ (x = J 61 ∧ ¬ GrOK g)) := by
  obtain ⟨a, c, hsh⟩ := hg.shape
  subst hsh
  refine fnS_ok (Q := fun x h' => h' = h ∧ ((x = J 0 ∧ GrOK g) ∨ (x = J 61 ∧ ¬ GrOK g))) ?_
  refine ok_go 2 ?_
  refine sy_test 0 (decide (Int.ofNat g.length < 1)) (by kernel_rfl) ?_ ?_
  · intro h1
    have h1 : g.length < 1 := by have := of_decide_eq_true h1; simp at this; omega
    refine ok_go 4 ?_
    exact sy_done 0 (v := J 61) (h := h) (by kernel_rfl) ⟨rfl, .inr ⟨rfl, fun hc => by have := hc.1; omega⟩⟩
  · intro h1
    have h1 : 1 ≤ g.length := by have := of_decide_eq_false h1; simp at this; omega
    refine ok_go 5 ?_
    refine sy_test 0 (decide (200 < Int.ofNat g.length)) (by kernel_rfl) ?_ ?_
    · intro h2
      have h2 : 200 < g.length := by have := of_decide_eq_true h2; simp at this; omega
      refine ok_go 0 ?_
      exact sy_done 0 (v := J 61) (h := h) (by kernel_rfl) ⟨rfl, .inr ⟨rfl, fun hc => by have := hc.2.1; omega⟩⟩
    · intro h2
      have h2 : g.length ≤ 200 := by have := of_decide_eq_false h2; simp at this; omega
      refine ok_go 0 ?_
      refine sy_loop 0 lf h (α := Nat) (fun s => [(0, .slice a g.length c), (3, J s)]) (fun s k => k = h ∧ s ≤ g.length ∧ okRows g s) (fun s _ => g.length - s) 0 (by kernel_rfl) (by kernel_rfl) ⟨by kernel_rfl, by kernel_rfl, trivial⟩ (show g.length - 0 < lf by omega) ⟨rfl, Nat.zero_le _, fun j hj hj0 => absurd hj0 (Nat.not_lt_zero _)⟩ ?_
      rintro m i f k ⟨rfl, hil, hi⟩ ih
      refine ok_go 2 ?_
      refine sy_test 0 (decide (Int.ofNat i < Int.ofNat g.length)) (by kernel_rfl) ?_ ?_
      · intro hlt
        have hlt := ok_nat hlt
        obtain ⟨p, rv, e1, e2, hr⟩ := hg.row hlt
        obtain ⟨ra, rc, hrs⟩ := hr.shape
        rw [List.length_map] at hrs
        subst hrs
        refine ok_go 0 ?_
        refine sy_loop 0 lf k (α := Nat) (fun s => [(0, .slice a g.length c), (3, J i), (4, J s)]) (fun s k' => k' = k ∧ s ≤ g[i].length ∧ RowOK g.length g[i] s) (fun s _ => g[i].length - s) 0 (by kernel_rfl) (by kernel_rfl) ⟨by kernel_rfl, by kernel_rfl, by kernel_rfl, trivial⟩ (show g[i].length - 0 < lf by have := hrow _ (List.getElem_mem hlt); omega) ⟨rfl, Nat.zero_le _, fun j hj hj0 => absurd hj0 (Nat.not_lt_zero _)⟩ ?_
        rintro m2 j f2 k2 ⟨rfl, hjl, hj⟩ ih2
        refine ok_go 0 ?_
        refine sy_load 0 (r := indexAddrOp Tryd.prog 31 (.slice a g.length c) (J i)) (h' := k2) (by kernel_rfl) e1 ?_
        refine ok_go 0 ?_
        refine sy_load 0 (r := loadT Tryd.prog k2 32 p) (h' := k2) (by kernel_rfl) e2 ?_
        refine ok_go 2 ?_
        refine sy_test 0 (decide (Int.ofNat j < Int.ofNat g[i].length)) (by kernel_rfl) ?_ ?_
        · intro hjlt
          have hjlt := ok_nat hjlt
          have hll := hrow _ (List.getElem_mem hlt)
          obtain ⟨q, e3, e4⟩ := row_get hr hjlt
          refine ok_go 0 ?_
          refine sy_load 0 (r := indexAddrOp Tryd.prog 31 (.slice a g.length c) (J i)) (h' := k2) (by kernel_rfl) e1 ?_
          refine ok_go 0 ?_
          refine sy_load 0 (r := loadT Tryd.prog k2 32 p) (h' := k2) (by kernel_rfl) e2 ?_
          refine ok_go 0 ?_
          refine sy_load 0 (r := indexAddrOp Tryd.prog 32 (.slice ra g[i].length rc) (J j)) (h' := k2) (by kernel_rfl) e3 ?_
          refine ok_go 0 ?_
          refine sy_load 0 (r := loadT Tryd.prog k2 3 q) (h' := k2) (by kernel_rfl) e4 ?_
          refine ok_go 1 ?_
          refine sy_test 0 (decide (g[i][j] < 0)) (by kernel_rfl) ?_ ?_
          · intro c1
            have c1 := of_decide_eq_true c1
            refine ok_go 16 ?_
            exact sy_done 0 (v := J 61) (h := k2) (by kernel_rfl) ⟨rfl, .inr ⟨rfl, fun hc => by have := (hc.2.2 _ (List.getElem_mem hlt) j hjlt hjlt).1; omega⟩⟩
          · intro c1
            have c1 := of_decide_eq_false c1
            refine ok_go 2 ?_
            refine sy_load 0 (r := indexAddrOp Tryd.prog 31 (.slice a g.length c) (J i)) (h' := k2) (by kernel_rfl) e1 ?_
            refine ok_go 1 ?_
            refine sy_load 0 (r := loadT Tryd.prog k2 32 p) (h' := k2) (by kernel_rfl) e2 ?_
            refine ok_go 2 ?_
            refine sy_load 0 (r := indexAddrOp Tryd.prog 32 (.slice ra g[i].length rc) (J j)) (h' := k2) (by kernel_rfl) e3 ?_
            refine ok_go 1 ?_
            refine sy_load 0 (r := loadT Tryd.prog k2 3 q) (h' := k2) (by kernel_rfl) e4 ?_
            refine ok_go 6 ?_
            refine sy_test 0 (decide (g[i][j] ≥ Int.ofNat g.length)) (by kernel_rfl) ?_ ?_
            · intro c2
              have c2 := of_decide_eq_true c2
              refine ok_go 5 ?_
              exact sy_done 0 (v := J 61) (h := k2) (by kernel_rfl) ⟨rfl, .inr ⟨rfl, fun hc => by have := (hc.2.2 _ (List.getElem_mem hlt) j hjlt hjlt).2.1; omega⟩⟩
            · intro c2
              have c2 := of_decide_eq_false c2
              cases j with
              | zero =>
                refine ok_go 24 ?_
                exact sy_next 0 _ k2 (by kernel_rfl) (by kernel_rfl) (ih2 (0 + 1) _ k2 ⟨rfl, hjlt, ok_step' hjlt hj c1 c2 (fun hp => absurd rfl hp)⟩ (show g[i].length - (0 + 1) < g[i].length - (0) by omega) ⟨by kernel_rfl, by kernel_rfl, (by kernel_rfl : _ = Value.int .i64 (IntKind.wrap .i64 (Int.ofNat (0 + 1)))).trans (by rw [wrap_nat (by omega)]), trivial⟩)
              | succ j0 =>
                obtain ⟨q', e5, e6⟩ := row_get hr (k := j0) (by omega)
                refine ok_go 3 ?_
                refine sy_yes 0 (b := decide (Int.ofNat (j0 + 1) > 0)) (by kernel_rfl) (decide_eq_true (by simp)) ?_
                refine ok_go 2 ?_
                refine sy_load 0 (r := indexAddrOp Tryd.prog 31 (.slice a g.length c) (J i)) (h' := k2) (by kernel_rfl) e1 ?_
                refine ok_go 1 ?_
                refine sy_load 0 (r := loadT Tryd.prog k2 32 p) (h' := k2) (by kernel_rfl) e2 ?_
                refine ok_go 4 ?_
                refine sy_load 0 (r := indexAddrOp Tryd.prog 32 (.slice ra g[i].length rc) (.int .i64 (IntKind.wrap .i64 (Int.ofNat (j0 + 1) - 1)))) (h' := k2) (by kernel_rfl) (by rw [sub1 (by omega)]; exact e5) ?_
                refine ok_go 1 ?_
                refine sy_load 0 (r := loadT Tryd.prog k2 3 q') (h' := k2) (by kernel_rfl) e6 ?_
                refine ok_go 3 ?_
                refine sy_load 0 (r := indexAddrOp Tryd.prog 31 (.slice a g.length c) (J i)) (h' := k2) (by kernel_rfl) e1 ?_
                refine ok_go 1 ?_
                refine sy_load 0 (r := loadT Tryd.prog k2 32 p) (h' := k2) (by kernel_rfl) e2 ?_
                refine ok_go 2 ?_
                refine sy_load 0 (r := indexAddrOp Tryd.prog 32 (.slice ra g[i].length rc) (J (j0 + 1))) (h' := k2) (by kernel_rfl) e3 ?_
                refine ok_go 1 ?_
                refine sy_load 0 (r := loadT Tryd.prog k2 3 q) (h' := k2) (by kernel_rfl) e4 ?_
                refine ok_go 5 ?_
                refine sy_test 0 (decide (g[i][j0] ≥ g[i][j0 + 1])) (by kernel_rfl) ?_ ?_
                · intro c3
                  have c3 := of_decide_eq_true c3
                  refine ok_go 0 ?_
                  exact sy_done 0 (v := J 61) (h := k2) (by kernel_rfl) ⟨rfl, .inr ⟨rfl, fun hc => by have := (hc.2.2 _ (List.getElem_mem hlt) (j0 + 1) hjlt hjlt).2.2 (by omega); simp only [Nat.add_sub_cancel] at this; omega⟩⟩
                · intro c3
                  have c3 := of_decide_eq_false c3
                  refine ok_go 1 ?_
                  exact sy_next 0 _ k2 (by kernel_rfl) (by kernel_rfl) (ih2 (j0 + 1 + 1) _ k2 ⟨rfl, hjlt, ok_step' hjlt hj c1 c2 (fun _ => c3)⟩ (show g[i].length - (j0 + 1 + 1) < g[i].length - (j0 + 1) by omega) ⟨by kernel_rfl, by kernel_rfl, (by kernel_rfl : _ = Value.int .i64 (IntKind.wrap .i64 (Int.ofNat (j0 + 1 + 1)))).trans (by rw [wrap_nat (by omega)]), trivial⟩)
        · intro hjlt
          have hjlt := no_nat hjlt
          refine ok_go 1 ?_
          refine sy_next 0 _ k2 (by kernel_rfl) (by kernel_rfl) (ih (i + 1) _ k2 ⟨rfl, hlt, fun q hq hqi => ?_⟩ (show g.length - (i + 1) < g.length - i by omega) ⟨by kernel_rfl, (by kernel_rfl : _ = Value.int .i64 (IntKind.wrap .i64 (Int.ofNat (i + 1)))).trans (by rw [wrap_nat (by omega)]), trivial⟩)
          rcases Nat.lt_succ_iff_lt_or_eq.1 hqi with h7 | h7
          · exact hi q hq h7
          · subst h7
            intro x hx _
            exact hj x hx (by omega)
      · intro hlt
        have hlt := no_nat hlt
        refine ok_go 0 ?_
        refine sy_done 0 (v := J 0) (h := k) (by kernel_rfl) ⟨rfl, .inl ⟨rfl, h1, h2, fun r hr => ?_⟩⟩
        obtain ⟨q, hq, rfl⟩ := List.getElem_of_mem hr
        exact hi q hq (by omega)
end Go.Proofs.YtegcmgjldapnmaaDoor
namespace Go.Proofs.YtegcmgjldapnmaaDoor
open Go Go.Eng Nim
set_option maxRecDepth 100000
/-- What make makes. -/
theorem makeSl {P : Program} {h : Hp} {t e : TypeId} {len : Nat} {z : Value} {inf : TypeInfo} {kd kd' : IntKind} (hu : P.underlying t = some (.slice e)) (hz : zeroOf P e = some z) (hi : P.info? e = some inf) (hb : Nat.ble inf.bytes 4096 = true)
    (hs : Nat.beq z.cells.size inf.size = true) (hsc : z.cells.toList.all scalar = true) (hn : len < 16777216) :
    makeSliceOp P h t (.int kd (Int.ofNat len)) (.int kd' (Int.ofNat len)) = some (.slice (some ⟨h.next, 0, none⟩) len (2 * len), h.new (.cells (zeros z.cells.toList len) e false)) := by
  have h1 : Nat.ble len len = true := Nat.ble_eq_true_of_le (Nat.le_refl _)
  have h2 : Nat.ble len most = true := Nat.ble_eq_true_of_le (by unfold most; omega)
  simp only [makeSliceOp, hu, natOf, hz, hi, h1, h2, hb, hs, hsc]
/-- The cells of states. -/
def stF (S : St) (q : Nat) : Value := if q % 2 = 0 then J (S (q / 2)).1 else I (S (q / 2)).2
theorem stF0 (S : St) (v : Nat) : stF S (v * 2 + 0) = J (S v).1 := by
  unfold stF
  rw [if_pos (by omega), show (v * 2 + 0) / 2 = v by omega]
theorem stF1 (S : St) (v : Nat) : stF S (v * 2 + 1) = I (S v).2 := by
  unfold stF
  rw [if_neg (by omega), show (v * 2 + 1) / 2 = v by omega]
theorem zeros_two : ∀ n, zeros [J 0, I 0] n = cellsF (2 * n) (stF fun _ => (0, 0))
  | 0 => rfl
  | n + 1 => by
    rw [zeros, zeros_two n]
    unfold cellsF
    rw [show 2 * (n + 1) = 2 * n + 1 + 1 by omega, List.range_succ_eq_map, List.range_succ_eq_map]
    simp only [List.map_cons, List.map_map]
    refine congrArg (J 0 :: ·) (congrArg (I 0 :: ·) (List.map_congr_left fun q _ => ?_))
    simp only [Function.comp, stF]
    rw [show (Nat.succ (Nat.succ q)) % 2 = q % 2 by omega]
def updS (S : St) (v : Nat) (x : Nat × Int) : St := fun u => if u = v then x else S u
theorem stF_upd (S : St) (v k : Nat) (d : Int) : updF (updF (stF S) (v * 2 + 0) (J k)) (v * 2 + 1) (I d) = stF (updS S v (k, d)) := by
  funext q
  unfold updF stF updS
  by_cases h1 : q = v * 2 + 1
  · subst h1
    rw [if_pos rfl, if_neg (by omega), if_pos (by omega)]
  · rw [if_neg h1]
    by_cases h0 : q = v * 2 + 0
    · subst h0
      rw [if_pos rfl, if_pos (by omega), if_pos (by omega)]
    · rw [if_neg h0]
      by_cases hq : q % 2 = 0
      · rw [if_pos hq, if_pos hq, if_neg (by omega)]
      · rw [if_neg hq, if_neg hq, if_neg (by omega)]
/-- The states of n vertices lie in block b. -/
structure PS (b n : Nat) (S : St) (h : Hp) : Prop where
  lt : b < h.next
  get : h.get b = some (.cells (cellsF (2 * n) (stF S)) 68 false)
theorem u65 : Tryd.prog.underlying 65 = some (.slice 68) := by kernel_rfl
theorem z68 : sizeT Tryd.prog 68 = some 2 := by kernel_rfl
theorem agg68 : isAggT Tryd.prog 68 = some true := by kernel_rfl
theorem idx65 {b n c v : Nat} (hv : v < n) : indexAddrOp Tryd.prog 65 (.slice (some ⟨b, 0, none⟩) n c) (J v) = some (ptr b (v * 2)) := by
  rw [idxSl u65 z68 hv, Nat.zero_add]
theorem PS.kind {b n : Nat} {S : St} {h : Hp} (H : PS b n S h) {v : Nat} (hv : v < n) : loadT Tryd.prog h 3 (ptr b (v * 2 + 0)) = some (J (S v).1) :=
  load1 aggI H.get (by rw [cellsF_get (by omega), stF0])
theorem PS.dist {b n : Nat} {S : St} {h : Hp} (H : PS b n S h) {v : Nat} (hv : v < n) : loadT Tryd.prog h 3 (ptr b (v * 2 + 1)) = some (I (S v).2) :=
  load1 aggI H.get (by rw [cellsF_get (by omega), stF1])
theorem PS.both {b n : Nat} {S : St} {h : Hp} (H : PS b n S h) {v : Nat} (hv : v < n) : loadT Tryd.prog h 68 (ptr b (v * 2)) = some (.agg #[J (S v).1, I (S v).2]) := by
  have h0 : (cellsF (2 * n) (stF S))[v * 2 + 0]? = some (J (S v).1) := by rw [cellsF_get (by omega), stF0]
  have h1 : (cellsF (2 * n) (stF S))[v * 2 + 1]? = some (I (S v).2) := by rw [cellsF_get (by omega), stF1]
  have hd : (cellsF (2 * n) (stF S)).drop (v * 2) = J (S v).1 :: I (S v).2 :: (cellsF (2 * n) (stF S)).drop (v * 2 + 1 + 1) := by
    obtain ⟨l0, e0⟩ := List.getElem?_eq_some_iff.1 h0
    obtain ⟨l1, e1⟩ := List.getElem?_eq_some_iff.1 h1
    show List.drop (v * 2 + 0) _ = _
    rw [List.drop_eq_getElem_cons l0, e0]
    show _ :: List.drop (v * 2 + 1) _ = _
    rw [List.drop_eq_getElem_cons l1, e1]
  simp only [loadT, agg68, z68, loadN, H.get, hd, takeN]
theorem PS.store {b n : Nat} {S : St} {h : Hp} (H : PS b n S h) {v k : Nat} {d : Int} (hv : v < n) : ∃ h', storeT Tryd.prog h 68 (ptr b (v * 2)) (.agg #[J k, I d]) = some h' ∧ PS b n (updS S v (k, d)) h' ∧ h'.next = h.next ∧ ∀ j, j ≠ b → h'.get j = h.get j := by
  have hlen : (cellsF (2 * n) (stF S)).length = 2 * n := cellsF_len _ _
  have hb : Nat.ble (v * 2 + [J k, I d].length) (cellsF (2 * n) (stF S)).length = true := Nat.ble_eq_true_of_le (by rw [hlen]; simp; omega)
  have hs : splice (cellsF (2 * n) (stF S)) (v * 2) [J k, I d] = cellsF (2 * n) (stF (updS S v (k, d))) := by
    rw [← stF_upd, ← cellsF_set, ← cellsF_set]
    generalize hL : cellsF (2 * n) (stF S) = L at hlen
    refine List.ext_getElem? fun q => ?_
    unfold splice
    rw [List.getElem?_set, List.getElem?_set, List.length_set, hlen]
    by_cases q1 : q < v * 2
    · rw [if_neg (by omega), if_neg (by omega), List.append_assoc, List.getElem?_append_left (by simp; omega), List.getElem?_take, if_pos q1]
    · rw [List.append_assoc, List.getElem?_append_right (by simp; omega)]
      simp only [List.length_take, hlen]
      rw [show q - min (v * 2) (2 * n) = q - v * 2 by omega]
      by_cases q2 : q = v * 2
      · subst q2
        rw [if_neg (by omega), if_pos (by omega), if_pos (by omega)]
        simp
      · by_cases q3 : q = v * 2 + 1
        · subst q3
          rw [if_pos (by omega), if_pos (by omega)]
          simp [show v * 2 + 1 - v * 2 = 1 by omega]
        · rw [if_neg (by omega), if_neg (by omega), List.getElem?_append_right (by simp; omega), List.getElem?_drop]
          simp only [List.length_cons, List.length_nil]
          rw [show v * 2 + 2 + (q - v * 2 - (0 + 1 + 1)) = q by omega]
  refine ⟨h.put b (.cells (cellsF (2 * n) (stF (updS S v (k, d)))) 68 false), ?_, ⟨H.lt, get_put _ _ _⟩, rfl, fun j hj => Hp.get_put_ne hj⟩
  have hall : [J k, I d].all scalar = true := rfl
  have hsz : (Value.agg #[J k, I d]).cells.size = 2 := rfl
  have hcl : (Value.agg #[J k, I d]).cells.toList = [J k, I d] := rfl
  have hbe : Nat.beq 2 2 = true := rfl
  simp only [storeT, ptr, z68, hsz, hcl, hbe, storeN, H.get, hb, hall, hs]
def opEq : Oper := { dst := none, op := .binOp .eql 68 (.tmp 0) (.tmp 1) 68, type := 0, pos := "", after := #[], guard := none }
def rhoEq (x y : Value) : Operand → Value
  | .tmp 0 => x
  | _ => y
theorem eq68 (a b c e : Int) (h : Hp) : (pureOp Tryd.prog (rhoEq (.agg #[I a, I b]) (.agg #[I c, I e])) opEq).map (·, h) = some (.bool (decide (a = c ∧ b = e)), h) := by
  have h5 : pureRun Tryd.prog (Op.equal 68 (.agg #[I a, I b]) (.agg #[I c, I e])) = some (decide (a = c ∧ b = e)) := by
    refine run_equal_agg (P := Tryd.prog) (fs := (match Tryd.prog.underlying 68 with | some (.struct fs) => fs | _ => #[])) (by kernel_rfl) (by kernel_rfl) (by kernel_rfl) (by kernel_rfl) ?_
    simp only [eqRes, if_true]
    by_cases h1 : a = c
    · by_cases h2 : b = e
      · simp [h1, h2]
      · simp [h1, h2]
    · simp [h1]
  have hp : pureOp Tryd.prog (rhoEq (.agg #[I a, I b]) (.agg #[I c, I e])) opEq = some (.bool (decide (a = c ∧ b = e))) := by
    refine pureOp_of (by kernel_rfl) ?_ rfl
    show pureRun Tryd.prog (execOp (rhoEq (.agg #[I a, I b]) (.agg #[I c, I e])) opEq) = _
    simp only [execOp, opEq, rhoEq]
    have h4 : pureRun Tryd.prog (eqGuard .eql 68 (.tmp 0) (.tmp 1) (.agg #[I a, I b]) (.agg #[I c, I e])) = some () := by kernel_rfl
    change pureRun Tryd.prog (((eqGuard .eql 68 (.tmp 0) (.tmp 1) (.agg #[I a, I b]) (.agg #[I c, I e])).bind fun _ => (Op.equal 68 (.agg #[I a, I b]) (.agg #[I c, I e])).bind fun r => Sem.pure (Value.bool r)).bind fun r => Sem.pure (Next.value r)) = _
    rw [pureRun_bnd, pureRun_bnd, h4]
    simp only [Option.bind_some]
    rw [pureRun_bnd, h5]
    rfl
  rw [hp]
  rfl
end Go.Proofs.YtegcmgjldapnmaaDoor
namespace Go.Proofs.YtegcmgjldapnmaaDoor
open Go Go.Eng Nim
set_option maxRecDepth 100000
set_option maxHeartbeats 4000000
/-- A graph of numbers. -/
def gI (G : List (List Nat)) : List (List Int) := G.map (·.map Int.ofNat)
theorem gI_len (G : List (List Nat)) : (gI G).length = G.length := by simp [gI]
theorem Gr.rowN {h : Hp} {v : Value} {G : List (List Nat)} (hg : Gr h v (gI G)) {i : Nat} (hi : i < G.length) : ∃ p rv, indexAddrOp Tryd.prog 31 v (J i) = some p ∧ loadT Tryd.prog h 32 p = some rv ∧ Rds h rv ((grow G i).map J) := by
  obtain ⟨p, rv, e1, e2, e3⟩ := hg.row (i := i) (by rw [gI_len]; exact hi)
  refine ⟨p, rv, e1, e2, ?_⟩
  have : (gI G)[i]'(by rw [gI_len]; exact hi) = (grow G i).map Int.ofNat := by
    simp only [gI, List.getElem_map, grow, List.getD_eq_getElem?_getD, List.getElem?_eq_getElem hi, Option.getD_some]
  rw [this, List.map_map] at e3
  exact e3
theorem rowN_get {h : Hp} {rv : Value} {r : List Nat} (hr : Rds h rv (r.map J)) {k : Nat} (hk : k < r.length) : ∃ p, indexAddrOp Tryd.prog 32 rv (J k) = some p ∧ loadT Tryd.prog h 3 p = some (J r[k]) :=
  hr.read u32 z3 aggI (by rw [List.getElem?_map, List.getElem?_eq_getElem hk]; rfl)
/-- What holds while vertices are found. -/
structure InF (h : Hp) (n : Nat) (S : St) (l : Value) (zs : List Nat) (g : Hp) : Prop where
  ext : h.Ext g
  ps : PS h.next n S g
  sl : OpenSl g 3 l (zs.map J)
  ne : ∀ j, j ≤ h.next → ∀ m c, l ≠ .slice (some ⟨j, 0, none⟩) m c
theorem InF.app {h : Hp} {n : Nat} {S : St} {l : Value} {zs : List Nat} {g : Hp} (H : InF h n S l zs g) (v : Nat) (hn : zs.length < 1000) : ∃ l' g', appendOp Tryd.prog (g.new (.cells [J v] 3 false)) 32 l (.slice (some ⟨g.next, 0, none⟩) 1 2) = some (l', g') ∧ InF h n S l' (zs ++ [v]) g' := by
  obtain ⟨l', g', e1, e2, e3, e4, e5⟩ := append1 slT H.sl (v := J v) rfl (by rw [List.length_map]; omega)
  have hb := H.ps.lt
  refine ⟨l', g', e1, ⟨⟨by have := H.ext.next; omega, fun j hj => by rw [e4 j (by omega) (H.ne j (by omega))]; exact H.ext.get j hj⟩, ⟨by omega, by rw [e4 _ hb (H.ne _ (Nat.le_refl _))]; exact H.ps.get⟩, by rw [List.map_append]; exact e2, fun j hj => e5 j (by omega)⟩⟩
theorem InF.store {h : Hp} {n : Nat} {S : St} {l : Value} {zs : List Nat} {g : Hp} (H : InF h n S l zs g) {v k : Nat} {d : Int} (hv : v < n) : ∃ g', storeT Tryd.prog g 68 (ptr h.next (v * 2)) (.agg #[J k, I d]) = some g' ∧ InF h n (updS S v (k, d)) l zs g' := by
  obtain ⟨g', e1, e2, e3, e4⟩ := H.ps.store (v := v) (k := k) (d := d) hv
  refine ⟨g', e1, ⟨⟨by rw [e3]; exact H.ext.next, fun j hj => (e4 j (by omega)).trans (H.ext.get j hj)⟩, e2, H.sl.ext (by rw [e3]; exact Nat.le_refl _) (fun j _ ⟨m, c, hc⟩ => e4 j (fun hj => H.ne j (by omega) m c hc)), H.ne⟩⟩
theorem PS.congr {b n : Nat} {S S' : St} {h : Hp} (H : PS b n S h) (e : ∀ v, v < n → S v = S' v) : PS b n S' h := by
  refine ⟨H.lt, ?_⟩
  rw [H.get]
  refine congrArg (fun x => some (AObj.cells x 68 false)) (cellsF_congr fun q hq => ?_)
  unfold stF
  rw [e _ (by omega)]
theorem InF.congr {h : Hp} {n : Nat} {S S' : St} {l : Value} {zs : List Nat} {g : Hp} (H : InF h n S l zs g) (e : ∀ v, v < n → S v = S' v) : InF h n S' l zs g := ⟨H.ext, H.ps.congr e, H.sl, H.ne⟩
theorem wd {d : Nat} (h : d < 2 ^ 62) : IntKind.wrap .i64 (Int.ofNat d - 1) = (d : Int) - 1 := by
  cases d with
  | zero => decide
  | succ d => rw [sub1 (by omega)]; simp
theorem wonP_step (S : St) (d : Int) (r : List Nat) {k : Nat} (hk : k < r.length) : wonP S d (r.take (k + 1)) = (wonP S d (r.take k) || ((S r[k]).1 == 0 && (S r[k]).2 == d - 1)) := by
  unfold wonP
  rw [List.take_succ_eq_append_getElem hk, List.any_append]
  simp only [List.any_cons, List.any_nil, Bool.or_false]
/-- What is found among the first i vertices. -/
def foundL (G : List (List Nat)) (S : St) (d : Int) (i : Nat) : List Nat := (List.range i).filter (foundP G S d)
theorem foundL_succ (G : List (List Nat)) (S : St) (d : Int) (i : Nat) : foundL G S d (i + 1) = foundL G S d i ++ (if foundP G S d i = true then [i] else []) := by
  unfold foundL
  rw [List.range_succ, List.filter_append]
  congr 1
  simp only [List.filter_cons, List.filter_nil]
theorem foundL_len (G : List (List Nat)) (S : St) (d : Int) (i : Nat) : (foundL G S d i).length ≤ i := by
  have := List.length_filter_le (foundP G S d) (List.range i)
  simpa [foundL] using this
/-- The states while the found vertices are told. -/
def seqS (G : List (List Nat)) (S : St) (d : Int) (zs : List Nat) (f : Nat) : St := fun v => if v ∈ zs.take f then progAt G S d v else S v
theorem prog_found {G : List (List Nat)} {S : St} {d : Int} {v : Nat} (h : foundP G S d v = true) : (S v).1 = 2 ∧ progAt G S d v = ((if wonP S d (grow G v) = true then 1 else 0), d) := by
  refine ⟨?_, ?_⟩
  · unfold foundP at h
    rw [Bool.and_eq_true] at h
    exact eq_of_beq h.1
  · unfold progAt
    rw [if_pos h]
    split <;> rfl
theorem seq_won {G : List (List Nat)} {S : St} {d : Int} {zs : List Nat} (hz : ∀ v ∈ zs, foundP G S d v = true) (f : Nat) (r : List Nat) : wonP (seqS G S d zs f) d r = wonP S d r := by
  unfold wonP
  congr 1
  funext t
  unfold seqS
  split
  · rename_i hm
    have hp := prog_found (hz t (List.mem_of_mem_take hm))
    rw [hp.2, hp.1]
    have : (d == d - 1) = false := by simp; omega
    simp only [this, Bool.and_false]
    rfl
  · rfl
theorem seq_step {G : List (List Nat)} {S : St} {d : Int} {zs : List Nat} {f : Nat} (hf : f < zs.length) (u : Nat) : updS (seqS G S d zs f) zs[f] (progAt G S d zs[f]) u = seqS G S d zs (f + 1) u := by
  unfold updS seqS
  rw [List.take_succ_eq_append_getElem hf]
  by_cases h1 : u = zs[f]
  · have hm : zs[f] ∈ zs.take f ++ [zs[f]] := List.mem_append_right _ (List.mem_singleton.2 rfl)
    rw [if_pos h1, h1, if_pos hm]
  · rw [if_neg h1]
    simp only [List.mem_append, List.mem_singleton, h1, or_false]
theorem s39 (G : List (List Nat)) (lf n : Nat) (hn : G.length ≤ 200) (hlf : 300 ≤ lf) (hsm : lf < 2 ^ 62) (hrow : ∀ i, (grow G i).length < lf) (hG : ∀ i t, t ∈ grow G i → t < G.length) (v : Value) (h : Hp) (hg : Gr h v (gI G)) :
    ∃ x h', Ev lf (n+1) 39 [v] h = some (x, h') ∧ x = .slice (some ⟨h.next, 0, none⟩) G.length (2 * G.length) ∧ h.Ext h' ∧ PS h.next G.length (refS G (G.length + 1)) h' := by
  obtain ⟨a, c, hsh⟩ := hg.shape
  rw [gI_len] at hsh
  subst hsh
  refine fnS_ok (Q := fun x h' => x = .slice (some ⟨h.next, 0, none⟩) G.length (2 * G.length) ∧ h.Ext h' ∧ PS h.next G.length (refS G (G.length + 1)) h') ?_
  refine ok_go 1 ?_
  refine sy_call 0 (r := makeSliceOp Tryd.prog h 65 (J G.length) (J G.length)) (v := .slice (some ⟨h.next, 0, none⟩) G.length (2 * G.length)) (h' := h.new (.cells (zeros [J 0, I 0] G.length) 68 false)) (by kernel_rfl) (makeSl (z := .agg #[J 0, I 0]) (inf := (Tryd.prog.info? 68).get!) u65 (by kernel_rfl) (by kernel_rfl) (by kernel_rfl) (by kernel_rfl) (by kernel_rfl) (by omega)) ?_
  have P0 : PS h.next G.length (fun _ => (0, 0)) (h.new (.cells (zeros [J 0, I 0] G.length) 68 false)) := ⟨Nat.lt_succ_self _, by rw [zeros_two]; exact get_new _ _⟩
  have X0 : h.Ext (h.new (.cells (zeros [J 0, I 0] G.length) 68 false)) := Hp.Ext.new _ _
  generalize hh0 : h.new (.cells (zeros [J 0, I 0] G.length) 68 false) = h0 at P0 X0
  refine ok_go 1 ?_
  refine sy_loop 0 lf h0 (α := Nat) (fun s => [(0, .slice a G.length c), (3, .slice (some ⟨h.next, 0, none⟩) G.length (2 * G.length)), (24, J G.length), (25, J s)]) (fun s g => s ≤ G.length ∧ InF h G.length (fun v => if v < s then (2, 0) else (0, 0)) (.slice none 0 0) [] g) (fun s _ => G.length - s) 0 (by kernel_rfl) (by kernel_rfl) ⟨by kernel_rfl, by kernel_rfl, by kernel_rfl, by kernel_rfl, trivial⟩ (show G.length - 0 < lf by omega) ⟨Nat.zero_le _, X0, P0, .inl ⟨rfl, rfl⟩, fun j _ m c hc => by cases hc⟩ ?_
  rintro m1 i f1 g1 ⟨hi, H1⟩ ih1
  refine ok_go 1 ?_
  refine sy_test 0 (decide (Int.ofNat i < Int.ofNat G.length)) (by kernel_rfl) ?_ ?_
  · intro hlt
    have hlt := ok_nat hlt
    obtain ⟨g2, e2, H2⟩ := H1.store (v := i) (k := 2) (d := 0) hlt
    refine ok_go 1 ?_
    refine sy_load 0 (r := indexAddrOp Tryd.prog 65 (.slice (some ⟨h.next, 0, none⟩) G.length (2 * G.length)) (J i)) (h' := g1) (by kernel_rfl) (idx65 hlt) ?_
    refine ok_go 0 ?_
    refine sy_store 0 (r := storeT Tryd.prog g1 68 (ptr h.next (i * 2)) (.agg #[J 2, I 0])) (by kernel_rfl) e2 ?_
    refine ok_go 1 ?_
    refine sy_next 0 _ g2 (by kernel_rfl) (by kernel_rfl) (ih1 (i + 1) _ g2 ⟨hlt, H2.congr fun v _ => ?_⟩ (show G.length - (i + 1) < G.length - i by omega) ⟨by kernel_rfl, by kernel_rfl, by kernel_rfl, (by kernel_rfl : _ = Value.int .i64 (IntKind.wrap .i64 (Int.ofNat (i + 1)))).trans (by rw [wrap_nat (by omega)]), trivial⟩)
    show (if v = i then (2, 0) else if v < i then (2, 0) else (0, 0)) = (if v < i + 1 then ((2, 0) : Nat × Int) else (0, 0))
    by_cases h1 : v = i
    · rw [if_pos h1, if_pos (by omega)]
    · rw [if_neg h1]
      by_cases h2 : v < i
      · rw [if_pos h2, if_pos (by omega)]
      · rw [if_neg h2, if_neg (by omega)]
  · intro hlt
    have hlt := no_nat hlt
    have H1 : InF h G.length (refS G 0) (.slice none 0 0) [] g1 := H1.congr fun v hv => if_pos (by omega)
    refine ok_go 0 ?_
    refine sy_loop 0 lf g1 (α := Nat) (fun s => [(0, .slice a G.length c), (3, .slice (some ⟨h.next, 0, none⟩) G.length (2 * G.length)), (5, J s)]) (fun s g => s ≤ G.length + 1 ∧ InF h G.length (refS G s) (.slice none 0 0) [] g) (fun s _ => G.length + 1 - s) 0 (by kernel_rfl) (by kernel_rfl) ⟨by kernel_rfl, by kernel_rfl, by kernel_rfl, trivial⟩ (show G.length + 1 - 0 < lf by omega) ⟨Nat.zero_le _, H1⟩ ?_
    rintro m2 d f2 g2 ⟨hd, H2⟩ ih2
    refine ok_go 2 ?_
    refine sy_test 0 (decide (Int.ofNat d ≤ Int.ofNat G.length)) (by kernel_rfl) ?_ ?_
    · intro hlt
      have hdl : d ≤ G.length := by have := of_decide_eq_true hlt; simpa using this
      clear hlt
      have IV := inv_refS (G := G) d
      generalize hS : refS G d = S at H2 IV
      refine ok_go 1 ?_
      refine sy_loop 0 lf g2 (α := Nat × Value) (fun s => [(0, .slice a G.length c), (3, .slice (some ⟨h.next, 0, none⟩) G.length (2 * G.length)), (5, J d), (6, s.2), (39, .slice a G.length c), (40, J G.length), (41, J s.1)]) (fun s g => s.1 ≤ G.length ∧ InF h G.length S s.2 (foundL G S d s.1) g) (fun s _ => G.length - s.1) (0, .slice none 0 0) (by kernel_rfl) (by kernel_rfl) ⟨by kernel_rfl, by kernel_rfl, by kernel_rfl, by kernel_rfl, by kernel_rfl, by kernel_rfl, by kernel_rfl, trivial⟩ (show G.length - 0 < lf by omega) ⟨Nat.zero_le _, H2⟩ ?_
      rintro m3 ⟨i, fl⟩ f3 g3 ⟨hi, H3⟩ ih3
      dsimp only at hi H3
      refine ok_go 1 ?_
      refine sy_test 0 (decide (Int.ofNat i < Int.ofNat G.length)) (by kernel_rfl) ?_ ?_
      · intro hlt
        have hlt := ok_nat hlt
        obtain ⟨p, rv, e1, e2, hr⟩ := (hg.ext H3.ext).rowN hlt
        obtain ⟨ra, rc, hrs⟩ := hr.shape
        rw [List.length_map] at hrs
        subst hrs
        refine ok_go 0 ?_
        refine sy_load 0 (r := indexAddrOp Tryd.prog 31 (.slice a G.length c) (J i)) (h' := g3) (by kernel_rfl) e1 ?_
        refine ok_go 0 ?_
        refine sy_load 0 (r := loadT Tryd.prog g3 32 p) (h' := g3) (by kernel_rfl) e2 ?_
        refine ok_go 0 ?_
        refine sy_load 0 (r := indexAddrOp Tryd.prog 65 (.slice (some ⟨h.next, 0, none⟩) G.length (2 * G.length)) (J i)) (h' := g3) (by kernel_rfl) (idx65 hlt) ?_
        refine ok_go 1 ?_
        refine sy_load 0 (r := loadT Tryd.prog g3 3 (ptr h.next (i * 2 + 0))) (h' := g3) (by kernel_rfl) (H3.ps.kind hlt) ?_
        refine ok_go 1 ?_
        refine sy_test 0 (Int.ofNat (S i).1 != 2) (by kernel_rfl) ?_ ?_
        · intro hk
          have hk : (S i).1 ≠ 2 := fun hc => by rw [hc] at hk; cases hk
          have hf : foundP G S d i = false := by
            unfold foundP
            rw [show ((S i).1 == 2) = false by simpa using hk]
            rfl
          refine ok_go 1 ?_
          exact sy_next 0 _ g3 (by kernel_rfl) (by kernel_rfl) (ih3 (i + 1, fl) _ g3 ⟨hlt, by rw [foundL_succ, hf]; simpa using H3⟩ (show G.length - (i + 1) < G.length - i by omega) ⟨by kernel_rfl, by kernel_rfl, by kernel_rfl, by kernel_rfl, by kernel_rfl, by kernel_rfl, (by kernel_rfl : _ = Value.int .i64 (IntKind.wrap .i64 (Int.ofNat (i + 1)))).trans (by rw [wrap_nat (by omega)]), trivial⟩)
        · intro hk
          have hk : (S i).1 = 2 := by
            have : ¬ (Int.ofNat (S i).1 ≠ 2) := by simpa using hk
            have := Classical.not_not.1 this
            exact Int.ofNat.inj this
          refine ok_go 1 ?_
          refine sy_loop 0 lf g3 (α := Nat × Bool) (fun s => [(0, .slice a G.length c), (3, .slice (some ⟨h.next, 0, none⟩) G.length (2 * G.length)), (5, J d), (6, fl), (7, J i), (8, .slice ra (grow G i).length rc), (39, .slice a G.length c), (40, J G.length), (41, J i), (9, .bool s.2), (52, .slice ra (grow G i).length rc), (53, J (grow G i).length), (54, J s.1)]) (fun s g => g = g3 ∧ s.1 ≤ (grow G i).length ∧ s.2 = wonP S d ((grow G i).take s.1)) (fun s _ => (grow G i).length - s.1) (0, false) (by kernel_rfl) (by kernel_rfl) ⟨by kernel_rfl, by kernel_rfl, by kernel_rfl, by kernel_rfl, by kernel_rfl, by kernel_rfl, by kernel_rfl, by kernel_rfl, by kernel_rfl, by kernel_rfl, by kernel_rfl, by kernel_rfl, by kernel_rfl, trivial⟩ (show (grow G i).length - 0 < lf by have := hrow i; omega) ⟨rfl, Nat.zero_le _, rfl⟩ ?_
          rintro m4 ⟨k, wb⟩ f4 g4 ⟨rfl, hkl, hwb⟩ ih4
          dsimp only at hkl hwb
          refine ok_go 1 ?_
          refine sy_test 0 (decide (Int.ofNat k < Int.ofNat (grow G i).length)) (by kernel_rfl) ?_ ?_
          · intro hkt
            have hkt := ok_nat hkt
            have hrl := hrow i
            obtain ⟨q, e3, e4⟩ := rowN_get hr hkt
            have htn := hG i (grow G i)[k] (List.getElem_mem hkt)
            have hst := wonP_step S d (grow G i) hkt
            rw [← hwb] at hst
            refine ok_go 0 ?_
            refine sy_load 0 (r := indexAddrOp Tryd.prog 32 (.slice ra (grow G i).length rc) (J k)) (h' := g4) (by kernel_rfl) e3 ?_
            refine ok_go 0 ?_
            refine sy_load 0 (r := loadT Tryd.prog g4 3 q) (h' := g4) (by kernel_rfl) e4 ?_
            cases wb with
            | true =>
              refine ok_go 10 ?_
              exact sy_next 0 _ g4 (by kernel_rfl) (by kernel_rfl) (ih4 (k + 1, true) _ g4 ⟨rfl, hkt, by rw [hst]; rfl⟩ (show (grow G i).length - (k + 1) < (grow G i).length - k by omega) ⟨by kernel_rfl, by kernel_rfl, by kernel_rfl, by kernel_rfl, by kernel_rfl, by kernel_rfl, by kernel_rfl, by kernel_rfl, by kernel_rfl, by kernel_rfl, by kernel_rfl, by kernel_rfl, (by kernel_rfl : _ = Value.int .i64 (IntKind.wrap .i64 (Int.ofNat (k + 1)))).trans (by rw [wrap_nat (by omega)]), trivial⟩)
            | false =>
              refine ok_go 3 ?_
              refine sy_load 0 (r := indexAddrOp Tryd.prog 65 (.slice (some ⟨h.next, 0, none⟩) G.length (2 * G.length)) (J (grow G i)[k])) (h' := g4) (by kernel_rfl) (idx65 htn) ?_
              refine ok_go 3 ?_
              refine sy_load 0 (r := loadT Tryd.prog g4 3 (ptr h.next ((grow G i)[k] * 2 + 0))) (h' := g4) (by kernel_rfl) (H3.ps.kind htn) ?_
              refine ok_go 3 ?_
              refine sy_test 0 (Int.ofNat (S (grow G i)[k]).1 == 0) (by kernel_rfl) ?_ ?_
              · intro hz
                have hz : ((S (grow G i)[k]).1 == 0) = true := by
                  have : Int.ofNat (S (grow G i)[k]).1 = Int.ofNat 0 := eq_of_beq hz
                  rw [Int.ofNat.inj this]; rfl
                refine ok_go 2 ?_
                refine sy_load 0 (r := indexAddrOp Tryd.prog 65 (.slice (some ⟨h.next, 0, none⟩) G.length (2 * G.length)) (J (grow G i)[k])) (h' := g4) (by kernel_rfl) (idx65 htn) ?_
                refine ok_go 3 ?_
                refine sy_load 0 (r := loadT Tryd.prog g4 3 (ptr h.next ((grow G i)[k] * 2 + 1))) (h' := g4) (by kernel_rfl) (H3.ps.dist htn) ?_
                refine ok_go 9 ?_
                exact sy_next 0 _ g4 (by kernel_rfl) (by kernel_rfl) (ih4 (k + 1, (S (grow G i)[k]).2 == (d : Int) - 1) _ g4 ⟨rfl, hkt, by rw [hst, hz]; rfl⟩ (show (grow G i).length - (k + 1) < (grow G i).length - k by omega) ⟨by kernel_rfl, by kernel_rfl, by kernel_rfl, by kernel_rfl, by kernel_rfl, by kernel_rfl, by kernel_rfl, by kernel_rfl, by kernel_rfl, (by kernel_rfl : _ = Value.bool ((S (grow G i)[k]).2 == IntKind.wrap .i64 (Int.ofNat d - 1))).trans (by rw [wd (by omega)]), by kernel_rfl, by kernel_rfl, (by kernel_rfl : _ = Value.int .i64 (IntKind.wrap .i64 (Int.ofNat (k + 1)))).trans (by rw [wrap_nat (by omega)]), trivial⟩)
              · intro hz
                have hz : ((S (grow G i)[k]).1 == 0) = false := by
                  cases hc : (S (grow G i)[k]).1 == 0 with
                  | false => rfl
                  | true => rw [eq_of_beq hc] at hz; cases hz
                refine ok_go 11 ?_
                exact sy_next 0 _ g4 (by kernel_rfl) (by kernel_rfl) (ih4 (k + 1, false) _ g4 ⟨rfl, hkt, by rw [hst, hz]; rfl⟩ (show (grow G i).length - (k + 1) < (grow G i).length - k by omega) ⟨by kernel_rfl, by kernel_rfl, by kernel_rfl, by kernel_rfl, by kernel_rfl, by kernel_rfl, by kernel_rfl, by kernel_rfl, by kernel_rfl, by kernel_rfl, by kernel_rfl, by kernel_rfl, (by kernel_rfl : _ = Value.int .i64 (IntKind.wrap .i64 (Int.ofNat (k + 1)))).trans (by rw [wrap_nat (by omega)]), trivial⟩)
          · intro hkt
            have hkt := no_nat hkt
            rw [List.take_of_length_le hkt] at hwb
            cases wb with
            | true =>
              have hf : foundP G S d i = true := by
                unfold foundP
                rw [hk, ← hwb]
                rfl
              obtain ⟨l', g5, e5, H5⟩ := H3.app i (by have := foundL_len G S d i; omega)
              refine ok_go 2 ?_
              refine sy_call 0 (r := appendOp Tryd.prog (g4.new (.cells [J i] 3 false)) 32 fl (.slice (some ⟨g4.next, 0, none⟩) 1 2)) (v := l') (h' := g5) (by kernel_rfl) e5 ?_
              refine ok_go 1 ?_
              exact sy_next 0 _ g5 (by kernel_rfl) (by kernel_rfl) (ih3 (i + 1, l') _ g5 ⟨hlt, by rw [foundL_succ, hf]; simpa using H5⟩ (show G.length - (i + 1) < G.length - i by omega) ⟨by kernel_rfl, by kernel_rfl, by kernel_rfl, by kernel_rfl, by kernel_rfl, by kernel_rfl, (by kernel_rfl : _ = Value.int .i64 (IntKind.wrap .i64 (Int.ofNat (i + 1)))).trans (by rw [wrap_nat (by omega)]), trivial⟩)
            | false =>
              refine ok_go 2 ?_
              refine sy_loop 0 lf g4 (α := Nat × Int) (fun s => [(0, .slice a G.length c), (3, .slice (some ⟨h.next, 0, none⟩) G.length (2 * G.length)), (5, J d), (6, fl), (7, J i), (8, .slice ra (grow G i).length rc), (39, .slice a G.length c), (40, J G.length), (41, J i), (12, I s.2), (83, .slice ra (grow G i).length rc), (84, J (grow G i).length), (85, J s.1)]) (fun s g => g = g4 ∧ s.1 ≤ (grow G i).length ∧ s.2 = lastP S ((grow G i).take s.1) ∧ all1 S ((grow G i).take s.1) = true) (fun s _ => (grow G i).length - s.1) (0, -1) (by kernel_rfl) (by kernel_rfl) ⟨by kernel_rfl, by kernel_rfl, by kernel_rfl, by kernel_rfl, by kernel_rfl, by kernel_rfl, by kernel_rfl, by kernel_rfl, by kernel_rfl, by kernel_rfl, by kernel_rfl, by kernel_rfl, by kernel_rfl, trivial⟩ (show (grow G i).length - 0 < lf by have := hrow i; omega) ⟨rfl, Nat.zero_le _, rfl, rfl⟩ ?_
              rintro m5 ⟨k, la⟩ f5 g5 ⟨rfl, hkl, hla, hal⟩ ih5
              dsimp only at hkl hla hal
              refine ok_go 1 ?_
              refine sy_test 0 (decide (Int.ofNat k < Int.ofNat (grow G i).length)) (by kernel_rfl) ?_ ?_
              · intro hkt
                have hkt := ok_nat hkt
                have hrl := hrow i
                obtain ⟨q, e3, e4⟩ := rowN_get hr hkt
                have htn := hG i (grow G i)[k] (List.getElem_mem hkt)
                refine ok_go 0 ?_
                refine sy_load 0 (r := indexAddrOp Tryd.prog 32 (.slice ra (grow G i).length rc) (J k)) (h' := g5) (by kernel_rfl) e3 ?_
                refine ok_go 0 ?_
                refine sy_load 0 (r := loadT Tryd.prog g5 3 q) (h' := g5) (by kernel_rfl) e4 ?_
                refine ok_go 0 ?_
                refine sy_load 0 (r := indexAddrOp Tryd.prog 65 (.slice (some ⟨h.next, 0, none⟩) G.length (2 * G.length)) (J (grow G i)[k])) (h' := g5) (by kernel_rfl) (idx65 htn) ?_
                refine ok_go 1 ?_
                refine sy_load 0 (r := loadT Tryd.prog g5 3 (ptr h.next ((grow G i)[k] * 2 + 0))) (h' := g5) (by kernel_rfl) (H3.ps.kind htn) ?_
                refine ok_go 1 ?_
                refine sy_test 0 (Int.ofNat (S (grow G i)[k]).1 != 1) (by kernel_rfl) ?_ ?_
                · intro h1
                  have hf : foundP G S d i = false := by
                    have h2 : all1 S (grow G i) = false := by
                      cases hc : all1 S (grow G i) with
                      | false => rfl
                      | true => rw [all1_iff.1 hc _ (List.getElem_mem hkt)] at h1; cases h1
                    unfold foundP
                    rw [hk, ← hwb, h2]
                    rfl
                  refine ok_go 1 ?_
                  exact sy_next 0 _ g5 (by kernel_rfl) (by kernel_rfl) (ih3 (i + 1, fl) _ g5 ⟨hlt, by rw [foundL_succ, hf]; simpa using H3⟩ (show G.length - (i + 1) < G.length - i by omega) ⟨by kernel_rfl, by kernel_rfl, by kernel_rfl, by kernel_rfl, by kernel_rfl, by kernel_rfl, (by kernel_rfl : _ = Value.int .i64 (IntKind.wrap .i64 (Int.ofNat (i + 1)))).trans (by rw [wrap_nat (by omega)]), trivial⟩)
                · intro h1
                  refine ok_go 0 ?_
                  refine sy_load 0 (r := indexAddrOp Tryd.prog 65 (.slice (some ⟨h.next, 0, none⟩) G.length (2 * G.length)) (J (grow G i)[k])) (h' := g5) (by kernel_rfl) (idx65 htn) ?_
                  refine ok_go 1 ?_
                  refine sy_load 0 (r := loadT Tryd.prog g5 3 (ptr h.next ((grow G i)[k] * 2 + 1))) (h' := g5) (by kernel_rfl) (H3.ps.dist htn) ?_
                  have h1 : (S (grow G i)[k]).1 = 1 := by
                    have : ¬ (Int.ofNat (S (grow G i)[k]).1 ≠ 1) := by simpa using h1
                    have := Classical.not_not.1 this
                    exact Int.ofNat.inj this
                  have t1 : lastP S ((grow G i).take (k + 1)) = max (lastP S ((grow G i).take k)) (S (grow G i)[k]).2 := by
                    unfold lastP
                    rw [List.take_succ_eq_append_getElem hkt, List.foldl_append]
                    rfl
                  have t2 : all1 S ((grow G i).take (k + 1)) = true := by
                    unfold all1 at hal ⊢
                    rw [List.take_succ_eq_append_getElem hkt, List.all_append, hal]
                    simp [h1]
                  refine ok_go 2 ?_
                  exact sy_next 0 _ g5 (by kernel_rfl) (by kernel_rfl) (ih5 (k + 1, max la (S (grow G i)[k]).2) _ g5 ⟨rfl, hkt, by rw [t1, hla], t2⟩ (show (grow G i).length - (k + 1) < (grow G i).length - k by omega) ⟨by kernel_rfl, by kernel_rfl, by kernel_rfl, by kernel_rfl, by kernel_rfl, by kernel_rfl, by kernel_rfl, by kernel_rfl, by kernel_rfl, (by kernel_rfl : _ = Value.int .i64 (if (S (grow G i)[k]).2 > la then (S (grow G i)[k]).2 else la)).trans (by rw [Int.max_def]; congr 1; split <;> split <;> omega), by kernel_rfl, by kernel_rfl, (by kernel_rfl : _ = Value.int .i64 (IntKind.wrap .i64 (Int.ofNat (k + 1)))).trans (by rw [wrap_nat (by omega)]), trivial⟩)
              · intro hkt
                have hkt := no_nat hkt
                rw [List.take_of_length_le hkt] at hla hal
                refine ok_go 2 ?_
                refine sy_test 0 (la == IntKind.wrap .i64 (Int.ofNat d - 1)) (by kernel_rfl) ?_ ?_
                · intro hc
                  rw [wd (by omega)] at hc
                  have hf : foundP G S d i = true := by
                    unfold foundP
                    rw [hk, ← hwb, hal, ← hla, hc]
                    rfl
                  obtain ⟨l', g6, e5, H5⟩ := H3.app i (by have := foundL_len G S d i; omega)
                  refine ok_go 1 ?_
                  refine sy_call 0 (r := appendOp Tryd.prog (g5.new (.cells [J i] 3 false)) 32 fl (.slice (some ⟨g5.next, 0, none⟩) 1 2)) (v := l') (h' := g6) (by kernel_rfl) e5 ?_
                  refine ok_go 1 ?_
                  exact sy_next 0 _ g6 (by kernel_rfl) (by kernel_rfl) (ih3 (i + 1, l') _ g6 ⟨hlt, by rw [foundL_succ, hf]; simpa using H5⟩ (show G.length - (i + 1) < G.length - i by omega) ⟨by kernel_rfl, by kernel_rfl, by kernel_rfl, by kernel_rfl, by kernel_rfl, by kernel_rfl, (by kernel_rfl : _ = Value.int .i64 (IntKind.wrap .i64 (Int.ofNat (i + 1)))).trans (by rw [wrap_nat (by omega)]), trivial⟩)
                · intro hc
                  rw [wd (by omega)] at hc
                  have hf : foundP G S d i = false := by
                    unfold foundP
                    rw [hk, ← hwb, hal, ← hla, hc]
                    rfl
                  refine ok_go 1 ?_
                  exact sy_next 0 _ g5 (by kernel_rfl) (by kernel_rfl) (ih3 (i + 1, fl) _ g5 ⟨hlt, by rw [foundL_succ, hf]; simpa using H3⟩ (show G.length - (i + 1) < G.length - i by omega) ⟨by kernel_rfl, by kernel_rfl, by kernel_rfl, by kernel_rfl, by kernel_rfl, by kernel_rfl, (by kernel_rfl : _ = Value.int .i64 (IntKind.wrap .i64 (Int.ofNat (i + 1)))).trans (by rw [wrap_nat (by omega)]), trivial⟩)
      · intro hlt
        have hlt := no_nat hlt
        have hil : i = G.length := by omega
        subst hil
        have hzl := foundL_len G S d G.length
        have hzm : ∀ v, v ∈ foundL G S d G.length ↔ v < G.length ∧ foundP G S d v = true := fun v => by simp [foundL]
        generalize hzs : foundL G S d G.length = zs at H3 hzl hzm
        obtain ⟨fa, fc, hfl⟩ := H3.sl.shape
        rw [List.length_map] at hfl
        subst hfl
        have hzf : ∀ v ∈ zs, foundP G S d v = true := fun v hv => ((hzm v).1 hv).2
        have H4 : InF h G.length (seqS G S d zs 0) (.slice fa zs.length fc) zs g3 := H3.congr fun v _ => by simp [seqS]
        clear H3
        refine ok_go 1 ?_
        refine sy_loop 0 lf g3 (α := Nat) (fun s => [(0, .slice a G.length c), (3, .slice (some ⟨h.next, 0, none⟩) G.length (2 * G.length)), (5, J d), (112, .slice fa zs.length fc), (113, J zs.length), (114, J s)]) (fun s g => s ≤ zs.length ∧ InF h G.length (seqS G S d zs s) (.slice fa zs.length fc) zs g) (fun s _ => zs.length - s) 0 (by kernel_rfl) (by kernel_rfl) ⟨by kernel_rfl, by kernel_rfl, by kernel_rfl, by kernel_rfl, by kernel_rfl, by kernel_rfl, trivial⟩ (show zs.length - 0 < lf by omega) ⟨Nat.zero_le _, H4⟩ ?_
        rintro m6 f f6 g6 ⟨hfl, H6⟩ ih6
        refine ok_go 1 ?_
        refine sy_test 0 (decide (Int.ofNat f < Int.ofNat zs.length)) (by kernel_rfl) ?_ ?_
        · intro hlt
          have hlt := ok_nat hlt
          obtain ⟨q, e3, e4⟩ := rowN_get H6.sl.rd hlt
          have hzv := (hzm zs[f]).1 (List.getElem_mem hlt)
          obtain ⟨p, rv, e1, e2, hr⟩ := (hg.ext H6.ext).rowN hzv.1
          obtain ⟨ra, rc, hrs⟩ := hr.shape
          rw [List.length_map] at hrs
          subst hrs
          have hrl := hrow zs[f]
          refine ok_go 0 ?_
          refine sy_load 0 (r := indexAddrOp Tryd.prog 32 (.slice fa zs.length fc) (J f)) (h' := g6) (by kernel_rfl) e3 ?_
          refine ok_go 0 ?_
          refine sy_load 0 (r := loadT Tryd.prog g6 3 q) (h' := g6) (by kernel_rfl) e4 ?_
          refine ok_go 0 ?_
          refine sy_load 0 (r := indexAddrOp Tryd.prog 31 (.slice a G.length c) (J zs[f])) (h' := g6) (by kernel_rfl) e1 ?_
          refine ok_go 0 ?_
          refine sy_load 0 (r := loadT Tryd.prog g6 32 p) (h' := g6) (by kernel_rfl) e2 ?_
          refine ok_go 1 ?_
          refine sy_loop 0 lf g6 (α := Nat × Nat) (fun s => [(0, .slice a G.length c), (3, .slice (some ⟨h.next, 0, none⟩) G.length (2 * G.length)), (5, J d), (112, .slice fa zs.length fc), (113, J zs.length), (114, J f), (16, J zs[f]), (17, J s.2), (121, .slice ra (grow G zs[f]).length rc), (122, J (grow G zs[f]).length), (123, J s.1)]) (fun s g => g = g6 ∧ s.1 ≤ (grow G zs[f]).length ∧ s.2 = (if wonP (seqS G S d zs f) d ((grow G zs[f]).take s.1) = true then 1 else 0)) (fun s _ => (grow G zs[f]).length - s.1) (0, 0) (by kernel_rfl) (by kernel_rfl) ⟨by kernel_rfl, by kernel_rfl, by kernel_rfl, by kernel_rfl, by kernel_rfl, by kernel_rfl, by kernel_rfl, by kernel_rfl, by kernel_rfl, by kernel_rfl, by kernel_rfl, trivial⟩ (show (grow G zs[f]).length - 0 < lf by omega) ⟨rfl, Nat.zero_le _, rfl⟩ ?_
          rintro m7 ⟨k, kd⟩ f7 g7 ⟨rfl, hkl, hkd⟩ ih7
          dsimp only at hkl hkd
          refine ok_go 1 ?_
          refine sy_test 0 (decide (Int.ofNat k < Int.ofNat (grow G zs[f]).length)) (by kernel_rfl) ?_ ?_
          · intro hkt
            have hkt := ok_nat hkt
            obtain ⟨q', e5, e6⟩ := rowN_get hr hkt
            have htn := hG zs[f] (grow G zs[f])[k] (List.getElem_mem hkt)
            have hst := wonP_step (seqS G S d zs f) d (grow G zs[f]) hkt
            refine ok_go 0 ?_
            refine sy_load 0 (r := indexAddrOp Tryd.prog 32 (.slice ra (grow G zs[f]).length rc) (J k)) (h' := g7) (by kernel_rfl) e5 ?_
            refine ok_go 0 ?_
            refine sy_load 0 (r := loadT Tryd.prog g7 3 q') (h' := g7) (by kernel_rfl) e6 ?_
            refine ok_go 0 ?_
            refine sy_load 0 (r := indexAddrOp Tryd.prog 65 (.slice (some ⟨h.next, 0, none⟩) G.length (2 * G.length)) (J (grow G zs[f])[k])) (h' := g7) (by kernel_rfl) (idx65 htn) ?_
            refine ok_go 0 ?_
            refine sy_load 0 (r := loadT Tryd.prog g7 68 (ptr h.next ((grow G zs[f])[k] * 2))) (h' := g7) (by kernel_rfl) (H6.ps.both htn) ?_
            refine ok_go 2 ?_
            refine sy_call 0 (r := (pureOp Tryd.prog (rhoEq (.agg #[J (seqS G S d zs f (grow G zs[f])[k]).1, I (seqS G S d zs f (grow G zs[f])[k]).2]) (.agg #[J 0, I (IntKind.wrap .i64 (Int.ofNat d - 1))])) opEq).map (·, g7)) (by kernel_rfl) (eq68 _ _ _ _ _) ?_
            refine ok_go 0 ?_
            refine sy_test 0 (decide (Int.ofNat (seqS G S d zs f (grow G zs[f])[k]).1 = Int.ofNat 0 ∧ (seqS G S d zs f (grow G zs[f])[k]).2 = IntKind.wrap .i64 (Int.ofNat d - 1))) (by kernel_rfl) ?_ ?_
            · intro hc
              have hc := of_decide_eq_true hc
              rw [wd (by omega)] at hc
              have hcc : ((seqS G S d zs f (grow G zs[f])[k]).1 == 0 && (seqS G S d zs f (grow G zs[f])[k]).2 == (d : Int) - 1) = true := by
                rw [Int.ofNat.inj hc.1, hc.2]
                simp
              refine ok_go 1 ?_
              exact sy_next 0 _ g7 (by kernel_rfl) (by kernel_rfl) (ih7 (k + 1, 1) _ g7 ⟨rfl, hkt, by rw [hst, hcc, Bool.or_true]; rfl⟩ (show (grow G zs[f]).length - (k + 1) < (grow G zs[f]).length - k by omega) ⟨by kernel_rfl, by kernel_rfl, by kernel_rfl, by kernel_rfl, by kernel_rfl, by kernel_rfl, by kernel_rfl, by kernel_rfl, by kernel_rfl, by kernel_rfl, (by kernel_rfl : _ = Value.int .i64 (IntKind.wrap .i64 (Int.ofNat (k + 1)))).trans (by rw [wrap_nat (by omega)]), trivial⟩)
            · intro hc
              have hc := of_decide_eq_false hc
              rw [wd (by omega)] at hc
              have hcc : ((seqS G S d zs f (grow G zs[f])[k]).1 == 0 && (seqS G S d zs f (grow G zs[f])[k]).2 == (d : Int) - 1) = false := by
                cases hx : ((seqS G S d zs f (grow G zs[f])[k]).1 == 0 && (seqS G S d zs f (grow G zs[f])[k]).2 == (d : Int) - 1) with
                | false => rfl
                | true =>
                  rw [Bool.and_eq_true] at hx
                  exact absurd ⟨congrArg Int.ofNat (eq_of_beq hx.1), eq_of_beq hx.2⟩ hc
              refine ok_go 1 ?_
              exact sy_next 0 _ g7 (by kernel_rfl) (by kernel_rfl) (ih7 (k + 1, kd) _ g7 ⟨rfl, hkt, by rw [hst, hcc, Bool.or_false]; exact hkd⟩ (show (grow G zs[f]).length - (k + 1) < (grow G zs[f]).length - k by omega) ⟨by kernel_rfl, by kernel_rfl, by kernel_rfl, by kernel_rfl, by kernel_rfl, by kernel_rfl, by kernel_rfl, by kernel_rfl, by kernel_rfl, by kernel_rfl, (by kernel_rfl : _ = Value.int .i64 (IntKind.wrap .i64 (Int.ofNat (k + 1)))).trans (by rw [wrap_nat (by omega)]), trivial⟩)
          · intro hkt
            have hkt := no_nat hkt
            rw [List.take_of_length_le hkt, seq_won hzf] at hkd
            obtain ⟨g8, e8, H8⟩ := H6.store (v := zs[f]) (k := kd) (d := d) hzv.1
            have hpf := (prog_found hzv.2).2
            rw [← hkd] at hpf
            refine ok_go 1 ?_
            refine sy_load 0 (r := indexAddrOp Tryd.prog 65 (.slice (some ⟨h.next, 0, none⟩) G.length (2 * G.length)) (J zs[f])) (h' := g7) (by kernel_rfl) (idx65 hzv.1) ?_
            refine ok_go 0 ?_
            refine sy_store 0 (r := storeT Tryd.prog g7 68 (ptr h.next (zs[f] * 2)) (.agg #[J kd, I d])) (by kernel_rfl) e8 ?_
            refine ok_go 1 ?_
            exact sy_next 0 _ g8 (by kernel_rfl) (by kernel_rfl) (ih6 (f + 1) _ g8 ⟨hlt, H8.congr fun u _ => by rw [← hpf]; exact seq_step hlt u⟩ (show zs.length - (f + 1) < zs.length - f by omega) ⟨by kernel_rfl, by kernel_rfl, by kernel_rfl, by kernel_rfl, by kernel_rfl, (by kernel_rfl : _ = Value.int .i64 (IntKind.wrap .i64 (Int.ofNat (f + 1)))).trans (by rw [wrap_nat (by omega)]), trivial⟩)
        · intro hlt
          have hlt := no_nat hlt
          have hps : PS h.next G.length (refS G (d + 1)) g6 := H6.ps.congr fun u hu => by
            show _ = refAt G (refS G d) d u
            rw [hS, ← prog_ref IV u]
            unfold seqS
            rw [List.take_of_length_le hlt]
            by_cases hm : u ∈ zs
            · rw [if_pos hm]
            · rw [if_neg hm]
              unfold progAt
              rw [if_neg (fun hc => hm ((hzm u).2 ⟨hu, hc⟩))]
          refine ok_go 1 ?_
          exact sy_next 0 _ g6 (by kernel_rfl) (by kernel_rfl) (ih2 (d + 1) _ g6 ⟨by omega, H6.ext, hps, .inl ⟨rfl, rfl⟩, fun j _ m c hc => (by cases hc)⟩ (show G.length + 1 - (d + 1) < G.length + 1 - d by omega) ⟨by kernel_rfl, by kernel_rfl, (by kernel_rfl : _ = Value.int .i64 (IntKind.wrap .i64 (Int.ofNat (d + 1)))).trans (by rw [wrap_nat (by omega)]), trivial⟩)
    · intro hlt
      have hdl : d = G.length + 1 := by have := of_decide_eq_false hlt; simp at this; omega
      subst hdl
      refine ok_go 0 ?_
      exact sy_done 0 (v := .slice (some ⟨h.next, 0, none⟩) G.length (2 * G.length)) (h := g2) (by kernel_rfl) ⟨rfl, H2.ext, H2.ps⟩
end Go.Proofs.YtegcmgjldapnmaaDoor
namespace Go.Proofs.YtegcmgjldapnmaaDoor
open Go Go.Eng Nim
set_option maxRecDepth 100000
set_option maxHeartbeats 4000000
/-- Two slices do not lie in one block. -/
def Sep (a b : Value) : Prop := ∀ j m c m' c', a = .slice (some ⟨j, 0, none⟩) m c → b ≠ .slice (some ⟨j, 0, none⟩) m' c'
theorem Sep.symm {a b : Value} (h : Sep a b) : Sep b a := fun j m c m' c' hb ha => h j m' c' m c ha hb
theorem OpenSl.blk {h : Hp} {e : TypeId} {l : Value} {vs : List Value} (hl : OpenSl h e l vs) {j m c : Nat} (hj : l = .slice (some ⟨j, 0, none⟩) m c) : j < h.next := by
  rcases hl with ⟨rfl, _⟩ | ⟨i, rfl, _, h1, _⟩
  · cases hj
  · injection hj with h2
    injection h2 with h2
    injection h2 with h2
    omega
theorem two_app {X : Hp} {a b : Value} {xs ys : List Value} (ha : OpenSl X 3 a xs) (hb : OpenSl X 3 b ys) (ab : Sep a b) (z : Int) (hn : xs.length < 1000) :
    ∃ l' X', appendOp Tryd.prog (X.new (.cells [I z] 3 false)) 32 a (.slice (some ⟨X.next, 0, none⟩) 1 2) = some (l', X') ∧ OpenSl X' 3 l' (xs ++ [I z]) ∧ OpenSl X' 3 b ys ∧ Sep l' b ∧ X.next ≤ X'.next ∧
      (∀ j, j < X.next → (∀ m c, a ≠ .slice (some ⟨j, 0, none⟩) m c) → X'.get j = X.get j) ∧ (∀ j, j < X.next → ∀ m c, l' ≠ .slice (some ⟨j, 0, none⟩) m c) := by
  obtain ⟨l', X', e1, e2, e3, e4, e5⟩ := append1 slT ha (v := I z) rfl (by omega)
  refine ⟨l', X', e1, e2, hb.ext e3 (fun j hj ⟨m, c, hc⟩ => e4 j hj (fun m' c' ha' => ab j m' c' m c ha' hc)), fun j m c m' c' h1 h2 => ?_, e3, e4, e5⟩
  exact e5 j (OpenSl.blk hb h2) m c h1
theorem storeAll {P : Program} {h : Hp} {t : TypeId} {i : Nat} {cs vs : List Value} {e : TypeId} {opn : Bool} (hs : sizeT P t = some vs.length) (hg : h.get i = some (.cells cs e opn)) (hl : cs.length = vs.length) (hv : vs.all scalar = true) :
    storeT P h t (ptr i 0) (.agg vs.toArray) = some (h.put i (.cells vs e opn)) := by
  have hsz : Nat.beq (Value.agg vs.toArray).cells.size vs.length = true := by simp [Value.cells]
  have hcl : (Value.agg vs.toArray).cells.toList = vs := by simp [Value.cells]
  have hb : Nat.ble (0 + vs.length) cs.length = true := Nat.ble_eq_true_of_le (by omega)
  have hsp : splice cs 0 vs = vs := by
    unfold splice
    rw [List.take_zero, List.nil_append, Nat.zero_add, List.drop_of_length_le (by omega), List.append_nil]
  simp only [storeT, ptr, hs, hsz, hcl, storeN, hg, hb, hv, hsp]
/-- While the outcomes are put into two lists. -/
structure InO (h : Hp) (n : Nat) (S : St) (bk : Nat) (ka kb : Value) (k : Nat) (g : Hp) : Prop where
  ext : h.Ext g
  ps : PS bk n S g
  hb : h.next ≤ bk
  oa : OpenSl g 3 ka ((List.range k).map fun v => J (S v).1)
  ob : OpenSl g 3 kb ((List.range k).map fun v => I (S v).2)
  na : ∀ j, j ≤ bk → ∀ m c, ka ≠ .slice (some ⟨j, 0, none⟩) m c
  nb : ∀ j, j ≤ bk → ∀ m c, kb ≠ .slice (some ⟨j, 0, none⟩) m c
  ab : Sep ka kb
theorem s21_bad (lf n : Nat) (v : Value) (h : Hp) (d : Ev lf n 20 [v] h = some (J 61, h)) : Ev lf (n+1) 21 [v] h = some (.tuple #[.slice none 0 0, .slice none 0 0, J 61], h) := by
  refine fn_eq ?_
  refine ok_go 0 ?_
  refine sy_call 0 (by kernel_rfl) d ?_
  refine ok_go 2 ?_
  exact sy_done 0 (v := .tuple #[.slice none 0 0, .slice none 0 0, J 61]) (h := h) (by kernel_rfl) ⟨rfl, rfl⟩
theorem s21 (N : Nat) (S : St) (lf n : Nat) (hN : N ≤ 200) (hlf : 300 ≤ lf) (v : Value) (h h' : Hp) (d : Ev lf n 20 [v] h = some (J 0, h)) (e : Ev lf n 39 [v] h = some (.slice (some ⟨h.next, 0, none⟩) N (2 * N), h')) (hx : h.Ext h') (ps : PS h.next N S h') :
    ∃ x H, Ev lf (n+1) 21 [v] h = some (x, H) ∧ ∃ ka kb, x = .tuple #[ka, kb, J 0] ∧ h.Ext H ∧ Rds H ka ((List.range N).map fun v => J (S v).1) ∧ Rds H kb ((List.range N).map fun v => I (S v).2) := by
  refine fnS_ok (Q := fun x H => ∃ ka kb, x = .tuple #[ka, kb, J 0] ∧ h.Ext H ∧ Rds H ka ((List.range N).map fun v => J (S v).1) ∧ Rds H kb ((List.range N).map fun v => I (S v).2)) ?_
  refine ok_go 0 ?_
  refine sy_call 0 (by kernel_rfl) d ?_
  refine ok_go 2 ?_
  refine sy_call 0 (by kernel_rfl) e ?_
  refine ok_go 1 ?_
  refine sy_loop 0 lf h' (α := Nat × Value × Value) (fun s => [(6, s.2.1), (7, s.2.2), (16, .slice (some ⟨h.next, 0, none⟩) N (2 * N)), (17, J N), (18, J s.1)]) (fun s g => s.1 ≤ N ∧ InO h N S h.next s.2.1 s.2.2 s.1 g) (fun s _ => N - s.1) (0, .slice none 0 0, .slice none 0 0) (by kernel_rfl) (by kernel_rfl) ⟨by kernel_rfl, by kernel_rfl, by kernel_rfl, by kernel_rfl, by kernel_rfl, trivial⟩ (show N - 0 < lf by omega) ⟨Nat.zero_le _, hx, ps, Nat.le_refl _, .inl ⟨rfl, rfl⟩, .inl ⟨rfl, rfl⟩, fun j _ m c hc => (by cases hc), fun j _ m c hc => (by cases hc), fun j m c m' c' hc => (by cases hc)⟩ ?_
  rintro m1 ⟨k, ka, kb⟩ f g ⟨hk, H⟩ ih
  dsimp only at hk H
  refine ok_go 1 ?_
  refine sy_test 0 (decide (Int.ofNat k < Int.ofNat N)) (by kernel_rfl) ?_ ?_
  · intro hlt
    have hlt := ok_nat hlt
    refine ok_go 0 ?_
    refine sy_load 0 (r := indexAddrOp Tryd.prog 65 (.slice (some ⟨h.next, 0, none⟩) N (2 * N)) (J k)) (h' := g) (by kernel_rfl) (idx65 hlt) ?_
    refine ok_go 0 ?_
    refine sy_load 0 (r := loadT Tryd.prog g 68 (ptr h.next (k * 2))) (h' := g) (by kernel_rfl) (H.ps.both hlt) ?_
    refine ok_go 1 ?_
    refine sy_store 0 (r := storeT Tryd.prog (g.new (.cells [J 0, I 0] 68 false)) 68 (ptr g.next 0) (.agg #[J (S k).1, I (S k).2])) (by kernel_rfl) (storeAll (vs := [J (S k).1, I (S k).2]) z68 (get_new _ _) rfl rfl) ?_
    have gx := get_put (g.new (.cells [J 0, I 0] 68 false)) g.next (.cells [J (S k).1, I (S k).2] 68 false)
    have X1 : g.Ext ((g.new (.cells [J 0, I 0] 68 false)).put g.next (.cells [J (S k).1, I (S k).2] 68 false)) := (Hp.Ext.new _ _).put (Nat.le_refl _) _
    have X2 : ((g.new (.cells [J 0, I 0] 68 false)).put g.next (.cells [J (S k).1, I (S k).2] 68 false)).next = g.next + 1 := rfl
    generalize hX : (g.new (.cells [J 0, I 0] 68 false)).put g.next (.cells [J (S k).1, I (S k).2] 68 false) = X at gx X1 X2
    have oa : OpenSl X 3 ka ((List.range k).map fun v => J (S v).1) := H.oa.ext X1.next (fun j hj _ => X1.get j hj)
    have ob : OpenSl X 3 kb ((List.range k).map fun v => I (S v).2) := H.ob.ext X1.next (fun j hj _ => X1.get j hj)
    have hbl := H.ps.lt
    have hxn := H.ext.next
    obtain ⟨ka', Y, e1, a1, b1, ab1, y1, y2, y3⟩ := two_app oa ob H.ab (Int.ofNat (S k).1) (by simp; omega)
    refine ok_go 1 ?_
    refine sy_load 0 (r := loadT Tryd.prog X 3 (ptr g.next 0)) (h' := X) (by kernel_rfl) (load1 aggI gx rfl) ?_
    refine ok_go 1 ?_
    refine sy_call 0 (r := appendOp Tryd.prog (X.new (.cells [J (S k).1] 3 false)) 32 ka (.slice (some ⟨X.next, 0, none⟩) 1 2)) (v := ka') (h' := Y) (by kernel_rfl) e1 ?_
    have gy : Y.get g.next = some (.cells [J (S k).1, I (S k).2] 68 false) := by
      rw [y2 _ (by omega) (fun m c hc => absurd (OpenSl.blk H.oa hc) (Nat.lt_irrefl _))]
      exact gx
    obtain ⟨kb', Z, e2, b2, a2, ba2, w1, w2, w3⟩ := two_app b1 a1 ab1.symm (S k).2 (by simp; omega)
    refine ok_go 1 ?_
    refine sy_load 0 (r := loadT Tryd.prog Y 3 (ptr g.next 1)) (h' := Y) (by kernel_rfl) (load1 aggI gy rfl) ?_
    refine ok_go 1 ?_
    refine sy_call 0 (r := appendOp Tryd.prog (Y.new (.cells [I (S k).2] 3 false)) 32 kb (.slice (some ⟨Y.next, 0, none⟩) 1 2)) (v := kb') (h' := Z) (by kernel_rfl) e2 ?_
    refine ok_go 1 ?_
    have keep : ∀ j, j ≤ h.next → Z.get j = g.get j := fun j hj => by
      rw [w2 j (by omega) (H.nb j hj), y2 j (by omega) (H.na j hj), X1.get j (by omega)]
    exact sy_next 0 _ Z (by kernel_rfl) (by kernel_rfl) (ih (k + 1, ka', kb') _ Z ⟨hlt, ⟨by omega, fun j hj => by rw [keep j (by omega)]; exact H.ext.get j hj⟩, ⟨by omega, by rw [keep _ (Nat.le_refl _)]; exact H.ps.get⟩, Nat.le_refl _, by rw [List.range_succ, List.map_append]; exact a2, by rw [List.range_succ, List.map_append]; exact b2, fun j hj => y3 j (by omega), fun j hj => w3 j (by omega), ba2.symm⟩ (show N - (k + 1) < N - k by omega) ⟨by kernel_rfl, by kernel_rfl, by kernel_rfl, by kernel_rfl, (by kernel_rfl : _ = Value.int .i64 (IntKind.wrap .i64 (Int.ofNat (k + 1)))).trans (by rw [wrap_nat (by omega)]), trivial⟩)
  · intro hlt
    have hlt := no_nat hlt
    have hkN : k = N := by omega
    subst hkN
    refine ok_go 0 ?_
    exact sy_done 0 (v := .tuple #[ka, kb, J 0]) (h := g) (by kernel_rfl) ⟨ka, kb, rfl, H.ext, H.oa.rd, H.ob.rd⟩
end Go.Proofs.YtegcmgjldapnmaaDoor
namespace Go.Proofs.YtegcmgjldapnmaaDoor
open Go Go.Eng Nim
set_option maxRecDepth 100000
set_option maxHeartbeats 4000000
def wantP (S : St) (i : Nat) : Nat × Int := if (S i).1 = 2 then (2, 0) else (1 - (S i).1, (S i).2 - 1)
def bestP (G : List (List Nat)) (S : St) (i : Nat) : Option Nat := (grow G i).find? fun t => decide (S t = wantP S i)
theorem s22_bad (lf n : Nat) (v : Value) (z : Int) (h : Hp) (d : Ev lf n 20 [v] h = some (J 61, h)) : Ev lf (n+1) 22 [v, I z] h = some (.tuple #[J 0, J 61], h) := by
  refine fn_eq ?_
  refine ok_go 0 ?_
  refine sy_call 0 (by kernel_rfl) d ?_
  refine ok_go 2 ?_
  exact sy_done 0 (v := .tuple #[J 0, J 61]) (h := h) (by kernel_rfl) ⟨rfl, rfl⟩
theorem s22_arg (N : Nat) (lf n : Nat) (a : Option Addr) (c : Nat) (z : Int) (hz : ¬ (0 ≤ z ∧ z < N)) (h : Hp) (d : Ev lf n 20 [.slice a N c] h = some (J 0, h)) : Ev lf (n+1) 22 [.slice a N c, I z] h = some (.tuple #[J 0, J 1], h) := by
  refine fn_eq ?_
  refine ok_go 0 ?_
  refine sy_call 0 (by kernel_rfl) d ?_
  refine ok_go 3 ?_
  refine sy_test 0 (decide (z < 0)) (by kernel_rfl) ?_ ?_
  · intro _
    refine ok_go 5 ?_
    exact sy_done 0 (v := .tuple #[J 0, J 1]) (h := h) (by kernel_rfl) ⟨rfl, rfl⟩
  · intro h1
    have h1 := of_decide_eq_false h1
    refine ok_go 6 ?_
    refine sy_yes 0 (b := decide (z ≥ Int.ofNat N)) (by kernel_rfl) (decide_eq_true (by have : Int.ofNat N = (N : Int) := rfl; omega)) ?_
    refine ok_go 0 ?_
    exact sy_done 0 (v := .tuple #[J 0, J 1]) (h := h) (by kernel_rfl) ⟨rfl, rfl⟩
theorem Gr.rowE {h : Hp} {v : Value} {G : List (List Nat)} (hg : Gr h v (gI G)) {i : Nat} (hi : i < G.length) : ∃ p rv, indexAddrOp Tryd.prog 31 v (J i) = some p ∧ (∀ g, h.Ext g → loadT Tryd.prog g 32 p = some rv) ∧ Rds h rv ((grow G i).map J) := by
  obtain ⟨vs, h1, h2, h3⟩ := hg
  have hil : i < (gI G).length := by rw [gI_len]; exact hi
  obtain ⟨rv, h4, h5⟩ := h3 i (gI G)[i] (List.getElem?_eq_getElem hil)
  obtain ⟨p, h6, h7⟩ := h1.read (kd := .i64) u31 z32 agg32 h4
  refine ⟨p, rv, h6, fun g k => ?_, ?_⟩
  · obtain ⟨p', h8, h9⟩ := (h1.ext k).read (kd := .i64) u31 z32 agg32 h4
    rw [h6] at h8
    cases h8
    exact h9
  · have : (gI G)[i] = (grow G i).map Int.ofNat := by
      simp only [gI, List.getElem_map, grow, List.getD_eq_getElem?_getD, List.getElem?_eq_getElem hi, Option.getD_some]
    rw [this, List.map_map] at h5
    exact h5
theorem PS.ext {b n : Nat} {S : St} {h g : Hp} (H : PS b n S h) (k : h.Ext g) : PS b n S g := ⟨Nat.lt_of_lt_of_le H.lt k.next, k.at_ H.lt H.get⟩
theorem load2 {h : Hp} {i : Nat} {x y : Value} {e : TypeId} {opn : Bool} (hg : h.get i = some (.cells [x, y] e opn)) : loadT Tryd.prog h 68 (ptr i 0) = some (.agg #[x, y]) := by
  simp only [loadT, agg68, z68, loadN, hg, List.drop_zero, takeN]
theorem find_at {G : List (List Nat)} {S : St} {i k : Nat} (hk : k < (grow G i).length) (h : S (grow G i)[k] = wantP S i) (hno : ∀ j (hj : j < (grow G i).length), j < k → S (grow G i)[j] ≠ wantP S i) : bestP G S i = some (grow G i)[k] := by
  unfold bestP
  rw [List.find?_eq_some_iff_getElem]
  exact ⟨decide_eq_true h, k, hk, rfl, fun j hj => by simpa using hno j (by omega) hj⟩
theorem find_no {G : List (List Nat)} {S : St} {i : Nat} (hno : ∀ j (hj : j < (grow G i).length), S (grow G i)[j] ≠ wantP S i) : bestP G S i = none := by
  unfold bestP
  rw [List.find?_eq_none]
  intro x hx
  obtain ⟨j, hj, rfl⟩ := List.getElem_of_mem hx
  simpa using hno j hj
theorem s22 (G : List (List Nat)) (S : St) (i : Nat) (lf n : Nat) (hi : i < G.length) (hk : ∀ t, (S t).1 ≤ 2) (hd : ∀ t, 0 ≤ (S t).2 ∧ (S t).2 < 1000) (hN : G.length ≤ 200) (hrow : ∀ i, (grow G i).length < lf) (hsm : lf < 2 ^ 62) (hG : ∀ i t, t ∈ grow G i → t < G.length) (v : Value) (h h' : Hp) (hg : Gr h v (gI G))
    (d : Ev lf n 20 [v] h = some (J 0, h)) (e : Ev lf n 39 [v] h = some (.slice (some ⟨h.next, 0, none⟩) G.length (2 * G.length), h')) (hx : h.Ext h') (ps : PS h.next G.length S h') :
    ∃ x H, Ev lf (n+1) 22 [v, J i] h = some (x, H) ∧ h.Ext H ∧ x = (match bestP G S i with | some t => .tuple #[J t, J 0] | none => .tuple #[J 0, J 4]) := by
  obtain ⟨a, c, hsh⟩ := hg.shape
  rw [gI_len] at hsh
  subst hsh
  obtain ⟨p, rv, e1, e2e, hr⟩ := hg.rowE hi
  have e2 := e2e h (Hp.Ext.refl h)
  obtain ⟨ra, rc, hrs⟩ := hr.shape
  rw [List.length_map] at hrs
  subst hrs
  refine fnS_ok (Q := fun x H => h.Ext H ∧ x = (match bestP G S i with | some t => .tuple #[J t, J 0] | none => .tuple #[J 0, J 4])) ?_
  refine ok_go 0 ?_
  refine sy_call 0 (by kernel_rfl) d ?_
  refine ok_go 10 ?_
  refine sy_no 0 (b := decide (Int.ofNat i ≥ Int.ofNat G.length)) (by kernel_rfl) (decide_eq_false (by simp; omega)) ?_
  refine ok_go 0 ?_
  refine sy_load 0 (r := indexAddrOp Tryd.prog 31 (.slice a G.length c) (J i)) (h' := h) (by kernel_rfl) e1 ?_
  refine ok_go 0 ?_
  refine sy_load 0 (r := loadT Tryd.prog h 32 p) (h' := h) (by kernel_rfl) e2 ?_
  refine ok_go 2 ?_
  refine sy_test 0 (Int.ofNat (grow G i).length == 0) (by kernel_rfl) ?_ ?_
  · intro h0
    have h0 : grow G i = [] := List.eq_nil_of_length_eq_zero (Int.ofNat.inj (eq_of_beq h0))
    refine ok_go 0 ?_
    refine sy_done 0 (v := .tuple #[J 0, J 4]) (h := h) (by kernel_rfl) ⟨Hp.Ext.refl _, ?_⟩
    unfold bestP
    rw [h0]
    rfl
  · intro _
    refine ok_go 0 ?_
    refine sy_call 0 (by kernel_rfl) e ?_
    refine ok_go 2 ?_
    refine sy_store 0 (r := storeT Tryd.prog (h'.new (.cells [J 0, I 0] 68 false)) 68 (ptr h'.next 0) (.agg #[J 2, I 0])) (by kernel_rfl) (storeAll (vs := [J 2, I 0]) z68 (get_new _ _) rfl rfl) ?_
    have gx := get_put (h'.new (.cells [J 0, I 0] 68 false)) h'.next (.cells [J 2, I 0] 68 false)
    have X1 : h'.Ext ((h'.new (.cells [J 0, I 0] 68 false)).put h'.next (.cells [J 2, I 0] 68 false)) := (Hp.Ext.new _ _).put (Nat.le_refl _) _
    have X2 : ((h'.new (.cells [J 0, I 0] 68 false)).put h'.next (.cells [J 2, I 0] 68 false)).next = h'.next + 1 := rfl
    generalize hX : (h'.new (.cells [J 0, I 0] 68 false)).put h'.next (.cells [J 2, I 0] 68 false) = X at gx X1 X2
    clear hX
    have psx := ps.ext X1
    refine ok_go 0 ?_
    refine sy_load 0 (r := indexAddrOp Tryd.prog 65 (.slice (some ⟨h.next, 0, none⟩) G.length (2 * G.length)) (J i)) (h' := X) (by kernel_rfl) (idx65 hi) ?_
    refine ok_go 0 ?_
    refine sy_load 0 (r := loadT Tryd.prog X 68 (ptr h.next (i * 2))) (h' := X) (by kernel_rfl) (psx.both hi) ?_
    refine ok_go 1 ?_
    refine sy_store 0 (r := storeT Tryd.prog (X.new (.cells [J 0, I 0] 68 false)) 68 (ptr X.next 0) (.agg #[J (S i).1, I (S i).2])) (by kernel_rfl) (storeAll (vs := [J (S i).1, I (S i).2]) z68 (get_new _ _) rfl rfl) ?_
    have gy := get_put (X.new (.cells [J 0, I 0] 68 false)) X.next (.cells [J (S i).1, I (S i).2] 68 false)
    have Y1 : X.Ext ((X.new (.cells [J 0, I 0] 68 false)).put X.next (.cells [J (S i).1, I (S i).2] 68 false)) := (Hp.Ext.new _ _).put (Nat.le_refl _) _
    generalize hY : (X.new (.cells [J 0, I 0] 68 false)).put X.next (.cells [J (S i).1, I (S i).2] 68 false) = Y at gy Y1
    clear hY
    have gxy : Y.get h'.next = some (.cells [J 2, I 0] 68 false) := Y1.at_ (by omega) gx
    have psy := psx.ext Y1
    refine ok_go 1 ?_
    refine sy_load 0 (r := loadT Tryd.prog Y 3 (ptr X.next 0)) (h' := Y) (by kernel_rfl) (load1 aggI gy rfl) ?_
    refine ok_go 1 ?_
    refine sy_test 0 (Int.ofNat (S i).1 != 2) (by kernel_rfl) ?_ ?_
    · intro hk2
      have hk2 : (S i).1 ≠ 2 := fun hc => by rw [hc] at hk2; cases hk2
      have hw : wantP S i = (1 - (S i).1, (S i).2 - 1) := if_neg hk2
      have hk1 := hk i
      have hd1 := hd i
      have w1 : IntKind.wrap .i64 (1 - Int.ofNat (S i).1) = Int.ofNat (wantP S i).1 := by
        rw [hw]
        rcases (by omega : (S i).1 = 0 ∨ (S i).1 = 1) with h0 | h0 <;> rw [h0] <;> rfl
      have w2 : IntKind.wrap .i64 ((S i).2 - 1) = (wantP S i).2 := by
        rw [hw]
        obtain ⟨m, hm⟩ := Int.eq_ofNat_of_zero_le hd1.1
        have := wd (d := m) (by omega)
        rw [hm]
        exact this
      refine ok_go 1 ?_
      refine sy_load 0 (r := loadT Tryd.prog Y 3 (ptr X.next 0)) (h' := Y) (by kernel_rfl) (load1 aggI gy rfl) ?_
      refine ok_go 2 ?_
      refine sy_load 0 (r := loadT Tryd.prog Y 3 (ptr X.next 1)) (h' := Y) (by kernel_rfl) (load1 aggI gy rfl) ?_
      refine ok_go 2 ?_
      refine sy_store 0 (r := storeT Tryd.prog Y 68 (ptr h'.next 0) (.agg #[I (IntKind.wrap .i64 (1 - Int.ofNat (S i).1)), I (IntKind.wrap .i64 ((S i).2 - 1))])) (h' := Y.put h'.next (.cells [J (wantP S i).1, I (wantP S i).2] 68 false)) (by kernel_rfl) (by rw [w1, w2]; exact storeAll (vs := [J (wantP S i).1, I (wantP S i).2]) z68 gxy rfl rfl) ?_
      have gz := get_put Y h'.next (.cells [J (wantP S i).1, I (wantP S i).2] 68 false)
      have Z1 : h'.Ext (Y.put h'.next (.cells [J (wantP S i).1, I (wantP S i).2] 68 false)) := (X1.trans Y1).put (Nat.le_refl _) _
      generalize hZ : Y.put h'.next (.cells [J (wantP S i).1, I (wantP S i).2] 68 false) = Z at gz Z1
      clear hZ
      have psz := ps.ext Z1
      have xz := hx.trans Z1
      have hrz := hr.ext xz
      have e2z : loadT Tryd.prog Z 32 p = some (.slice ra (grow G i).length rc) := e2e _ xz
      refine ok_go 0 ?_
      refine sy_load 0 (r := indexAddrOp Tryd.prog 31 (.slice a G.length c) (J i)) (h' := Z) (by kernel_rfl) e1 ?_
      refine ok_go 0 ?_
      refine sy_load 0 (r := loadT Tryd.prog Z 32 p) (h' := Z) (by kernel_rfl) e2z ?_
      refine ok_go 1 ?_
      refine sy_loop 0 lf Z (α := Nat) (fun s => [(7, .slice (some ⟨h.next, 0, none⟩) G.length (2 * G.length)), (8, ptr h'.next 0), (51, .slice ra (grow G i).length rc), (52, J (grow G i).length), (53, J s)]) (fun s g => g = Z ∧ s ≤ (grow G i).length ∧ ∀ j (hj : j < (grow G i).length), j < s → S (grow G i)[j] ≠ wantP S i) (fun s _ => (grow G i).length - s) 0 (by kernel_rfl) (by kernel_rfl) ⟨by kernel_rfl, by kernel_rfl, by kernel_rfl, by kernel_rfl, by kernel_rfl, trivial⟩ (show (grow G i).length - 0 < lf by have := hrow i; omega) ⟨rfl, Nat.zero_le _, fun j _ hj => absurd hj (Nat.not_lt_zero _)⟩ ?_
      rintro m1 k f1 g1 ⟨rfl, hkl, hno⟩ ih
      refine ok_go 1 ?_
      refine sy_test 0 (decide (Int.ofNat k < Int.ofNat (grow G i).length)) (by kernel_rfl) ?_ ?_
      · intro hlt
        have hlt := ok_nat hlt
        have hrl := hrow i
        obtain ⟨q, e3, e4⟩ := rowN_get hrz hlt
        have htn := hG i (grow G i)[k] (List.getElem_mem hlt)
        refine ok_go 0 ?_
        refine sy_load 0 (r := indexAddrOp Tryd.prog 32 (.slice ra (grow G i).length rc) (J k)) (h' := g1) (by kernel_rfl) e3 ?_
        refine ok_go 0 ?_
        refine sy_load 0 (r := loadT Tryd.prog g1 3 q) (h' := g1) (by kernel_rfl) e4 ?_
        refine ok_go 0 ?_
        refine sy_load 0 (r := indexAddrOp Tryd.prog 65 (.slice (some ⟨h.next, 0, none⟩) G.length (2 * G.length)) (J (grow G i)[k])) (h' := g1) (by kernel_rfl) (idx65 htn) ?_
        refine ok_go 0 ?_
        refine sy_load 0 (r := loadT Tryd.prog g1 68 (ptr h.next ((grow G i)[k] * 2))) (h' := g1) (by kernel_rfl) (psz.both htn) ?_
        refine ok_go 0 ?_
        refine sy_load 0 (r := loadT Tryd.prog g1 68 (ptr h'.next 0)) (h' := g1) (by kernel_rfl) (load2 gz) ?_
        refine ok_go 0 ?_
        refine sy_call 0 (r := (pureOp Tryd.prog (rhoEq (.agg #[J (S (grow G i)[k]).1, I (S (grow G i)[k]).2]) (.agg #[J (wantP S i).1, I (wantP S i).2])) opEq).map (·, g1)) (by kernel_rfl) (eq68 _ _ _ _ _) ?_
        refine ok_go 0 ?_
        refine sy_test 0 (decide (Int.ofNat (S (grow G i)[k]).1 = Int.ofNat (wantP S i).1 ∧ (S (grow G i)[k]).2 = (wantP S i).2)) (by kernel_rfl) ?_ ?_
        · intro hc
          have hc := of_decide_eq_true hc
          have hc : S (grow G i)[k] = wantP S i := Prod.ext (Int.ofNat.inj hc.1) hc.2
          refine ok_go 0 ?_
          refine sy_done 0 (v := .tuple #[J (grow G i)[k], J 0]) (h := g1) (by kernel_rfl) ⟨xz, ?_⟩
          rw [find_at hlt hc hno]
        · intro hc
          have hc := of_decide_eq_false hc
          refine ok_go 1 ?_
          refine sy_next 0 _ g1 (by kernel_rfl) (by kernel_rfl) (ih (k + 1) _ g1 ⟨rfl, hlt, fun j hj hjk => ?_⟩ (show (grow G i).length - (k + 1) < (grow G i).length - k by omega) ⟨by kernel_rfl, by kernel_rfl, by kernel_rfl, by kernel_rfl, (by kernel_rfl : _ = Value.int .i64 (IntKind.wrap .i64 (Int.ofNat (k + 1)))).trans (by rw [wrap_nat (by omega)]), trivial⟩)
          rcases Nat.lt_succ_iff_lt_or_eq.1 hjk with h7 | h7
          · exact hno j hj h7
          · subst h7
            exact fun hw => hc ⟨by rw [hw], by rw [hw]⟩
      · intro hlt
        have hlt := no_nat hlt
        refine ok_go 0 ?_
        refine sy_done 0 (v := .tuple #[J 0, J 4]) (h := g1) (by kernel_rfl) ⟨xz, ?_⟩
        rw [find_no (fun j hj => hno j hj (by omega))]
    · intro hk2
      have hk2 : (S i).1 = 2 := by
        have : ¬ (Int.ofNat (S i).1 ≠ 2) := by simpa using hk2
        exact Int.ofNat.inj (Classical.not_not.1 this)
      have hw : wantP S i = (2, 0) := if_pos hk2
      have gz : Y.get h'.next = some (.cells [J (wantP S i).1, I (wantP S i).2] 68 false) := by rw [hw]; exact gxy
      have Z1 := X1.trans Y1
      have psz := ps.ext Z1
      have xz := hx.trans Z1
      have hrz := hr.ext xz
      have e2z : loadT Tryd.prog Y 32 p = some (.slice ra (grow G i).length rc) := e2e _ xz
      refine ok_go 0 ?_
      refine sy_load 0 (r := indexAddrOp Tryd.prog 31 (.slice a G.length c) (J i)) (h' := Y) (by kernel_rfl) e1 ?_
      refine ok_go 0 ?_
      refine sy_load 0 (r := loadT Tryd.prog Y 32 p) (h' := Y) (by kernel_rfl) e2z ?_
      refine ok_go 1 ?_
      refine sy_loop 0 lf Y (α := Nat) (fun s => [(7, .slice (some ⟨h.next, 0, none⟩) G.length (2 * G.length)), (8, ptr h'.next 0), (51, .slice ra (grow G i).length rc), (52, J (grow G i).length), (53, J s)]) (fun s g => g = Y ∧ s ≤ (grow G i).length ∧ ∀ j (hj : j < (grow G i).length), j < s → S (grow G i)[j] ≠ wantP S i) (fun s _ => (grow G i).length - s) 0 (by kernel_rfl) (by kernel_rfl) ⟨by kernel_rfl, by kernel_rfl, by kernel_rfl, by kernel_rfl, by kernel_rfl, trivial⟩ (show (grow G i).length - 0 < lf by have := hrow i; omega) ⟨rfl, Nat.zero_le _, fun j _ hj => absurd hj (Nat.not_lt_zero _)⟩ ?_
      rintro m1 k f1 g1 ⟨rfl, hkl, hno⟩ ih
      refine ok_go 1 ?_
      refine sy_test 0 (decide (Int.ofNat k < Int.ofNat (grow G i).length)) (by kernel_rfl) ?_ ?_
      · intro hlt
        have hlt := ok_nat hlt
        have hrl := hrow i
        obtain ⟨q, e3, e4⟩ := rowN_get hrz hlt
        have htn := hG i (grow G i)[k] (List.getElem_mem hlt)
        refine ok_go 0 ?_
        refine sy_load 0 (r := indexAddrOp Tryd.prog 32 (.slice ra (grow G i).length rc) (J k)) (h' := g1) (by kernel_rfl) e3 ?_
        refine ok_go 0 ?_
        refine sy_load 0 (r := loadT Tryd.prog g1 3 q) (h' := g1) (by kernel_rfl) e4 ?_
        refine ok_go 0 ?_
        refine sy_load 0 (r := indexAddrOp Tryd.prog 65 (.slice (some ⟨h.next, 0, none⟩) G.length (2 * G.length)) (J (grow G i)[k])) (h' := g1) (by kernel_rfl) (idx65 htn) ?_
        refine ok_go 0 ?_
        refine sy_load 0 (r := loadT Tryd.prog g1 68 (ptr h.next ((grow G i)[k] * 2))) (h' := g1) (by kernel_rfl) (psz.both htn) ?_
        refine ok_go 0 ?_
        refine sy_load 0 (r := loadT Tryd.prog g1 68 (ptr h'.next 0)) (h' := g1) (by kernel_rfl) (load2 gz) ?_
        refine ok_go 0 ?_
        refine sy_call 0 (r := (pureOp Tryd.prog (rhoEq (.agg #[J (S (grow G i)[k]).1, I (S (grow G i)[k]).2]) (.agg #[J (wantP S i).1, I (wantP S i).2])) opEq).map (·, g1)) (by kernel_rfl) (eq68 _ _ _ _ _) ?_
        refine ok_go 0 ?_
        refine sy_test 0 (decide (Int.ofNat (S (grow G i)[k]).1 = Int.ofNat (wantP S i).1 ∧ (S (grow G i)[k]).2 = (wantP S i).2)) (by kernel_rfl) ?_ ?_
        · intro hc
          have hc := of_decide_eq_true hc
          have hc : S (grow G i)[k] = wantP S i := Prod.ext (Int.ofNat.inj hc.1) hc.2
          refine ok_go 0 ?_
          refine sy_done 0 (v := .tuple #[J (grow G i)[k], J 0]) (h := g1) (by kernel_rfl) ⟨xz, ?_⟩
          rw [find_at hlt hc hno]
        · intro hc
          have hc := of_decide_eq_false hc
          refine ok_go 1 ?_
          refine sy_next 0 _ g1 (by kernel_rfl) (by kernel_rfl) (ih (k + 1) _ g1 ⟨rfl, hlt, fun j hj hjk => ?_⟩ (show (grow G i).length - (k + 1) < (grow G i).length - k by omega) ⟨by kernel_rfl, by kernel_rfl, by kernel_rfl, by kernel_rfl, (by kernel_rfl : _ = Value.int .i64 (IntKind.wrap .i64 (Int.ofNat (k + 1)))).trans (by rw [wrap_nat (by omega)]), trivial⟩)
          rcases Nat.lt_succ_iff_lt_or_eq.1 hjk with h7 | h7
          · exact hno j hj h7
          · subst h7
            exact fun hw => hc ⟨by rw [hw], by rw [hw]⟩
      · intro hlt
        have hlt := no_nat hlt
        refine ok_go 0 ?_
        refine sy_done 0 (v := .tuple #[J 0, J 4]) (h := g1) (by kernel_rfl) ⟨xz, ?_⟩
        rw [find_no (fun j hj => hno j hj (by omega))]
def kF (S : St) (v : Nat) : Value := J (S v).1
def dF (S : St) (v : Nat) : Value := I (S v).2
theorem beq_nat (a b : Nat) : (Int.ofNat a == Int.ofNat b) = (a == b) := by
  rw [Bool.eq_iff_iff, beq_iff_eq, beq_iff_eq]
  exact ⟨Int.ofNat.inj, congrArg _⟩
end Go.Proofs.YtegcmgjldapnmaaDoor
