/- Octal games: the options of a heap, their values, and the bound on them. -/
import GoSem.Core.View
namespace Go.Proofs.YtegcmgjldapnmaaDoor.Oct
/-- The moves from a heap of n by one digit (of the place i): two heaps, any of which may be empty. -/
def op1 (g i n : Nat) : List (Nat × Nat) :=
  if n < i + 1 then [] else if n = i + 1 then (if g % 2 = 1 then [(0, 0)] else [])
  else (if g / 2 % 2 = 1 then [(n - (i + 1), 0)] else []) ++ (if g / 4 % 2 = 1 then (List.range ((n - (i + 1)) / 2)).map fun a => (a + 1, n - (i + 1) - (a + 1)) else [])
/-- All moves, by the digits from the place i on. -/
def ops : List Nat → Nat → Nat → List (Nat × Nat)
  | [], _, _ => []
  | g :: d, i, n => op1 g i n ++ ops d (i + 1) n
/-- The least number that is not in a list. -/
def mexF (l : List Nat) : Nat → Nat → Nat
  | 0, v => v
  | k + 1, v => if l.contains v then mexF l k (v + 1) else v
def mex (l : List Nat) : Nat := mexF l l.length 0
theorem mexF_in (l : List Nat) : ∀ k v, ∀ j, v ≤ j → j < mexF l k v → l.contains j = true
  | 0, v, j, h1, h2 => by rw [mexF] at h2; omega
  | k + 1, v, j, h1, h2 => by
    rw [mexF] at h2
    split at h2
    · rename_i h
      rcases Nat.eq_or_lt_of_le h1 with rfl | h3
      · exact h
      · exact mexF_in l k (v + 1) j h3 h2
    · omega
theorem mexF_le (l : List Nat) : ∀ k v, v ≤ mexF l k v ∧ mexF l k v ≤ v + k
  | 0, v => by rw [mexF]; omega
  | k + 1, v => by
    rw [mexF]
    split
    · have := mexF_le l k (v + 1)
      omega
    · omega
theorem mexF_out (l : List Nat) : ∀ k v, mexF l k v < v + k → l.contains (mexF l k v) = false
  | 0, v, h => by rw [mexF] at h; omega
  | k + 1, v, h => by
    rw [mexF] at h ⊢
    split at h
    · rename_i hc
      rw [if_pos hc]
      exact mexF_out l k (v + 1) (by omega)
    · rename_i hc
      rw [if_neg hc]
      simpa using hc
theorem nodup_le : ∀ (n : Nat) (l : List Nat), (∀ j, j < n → j ∈ l) → n ≤ l.length
  | 0, _, _ => Nat.zero_le _
  | n + 1, l, h => by
    have hn := h n (Nat.lt_succ_self n)
    have := nodup_le n (l.filter fun x => decide (x ≠ n)) fun j hj => List.mem_filter.2 ⟨h j (by omega), by simp; omega⟩
    have h2 : (l.filter fun x => decide (x ≠ n)).length < l.length := by
      rw [← List.countP_eq_length_filter]
      have h3 := List.countP_le_length (p := fun x => decide (x ≠ n)) (l := l)
      rcases Nat.lt_or_eq_of_le h3 with h4 | h4
      · exact h4
      · rw [List.countP_eq_length] at h4
        have := h4 n hn
        simp at this
    omega
theorem mex_spec (l : List Nat) : (∀ j, j < mex l → j ∈ l) ∧ mex l ∉ l := by
  have h1 : ∀ j, j < mex l → j ∈ l := fun j hj => by
    have := mexF_in l l.length 0 j (Nat.zero_le _) hj
    simpa using this
  refine ⟨h1, ?_⟩
  have h2 := mexF_le l l.length 0
  rcases Nat.lt_or_ge (mexF l l.length 0) (0 + l.length) with h3 | h3
  · have := mexF_out l l.length 0 h3
    show mexF l l.length 0 ∉ l
    simpa using this
  · intro hm
    have h4 := nodup_le (mex l + 1) l fun j hj => by
      rcases Nat.lt_or_ge j (mex l) with h5 | h5
      · exact h1 j h5
      · obtain rfl : j = mex l := by omega
        exact hm
    have : mex l = mexF l l.length 0 := rfl
    omega
theorem mex_le {l : List Nat} {b : Nat} (h : ∀ v ∈ l, v < b) : mex l ≤ b := by
  rcases Nat.lt_or_ge b (mex l) with h1 | h1
  · have := h b ((mex_spec l).1 b h1)
    omega
  · exact h1
/-- The values of the heaps of 0 to n. -/
def vals (d : List Nat) : Nat → List Nat
  | 0 => [0]
  | n + 1 => vals d n ++ [mex ((ops d 0 (n + 1)).map fun p => (vals d n).getD p.1 0 ^^^ (vals d n).getD p.2 0)]
def gv (d : List Nat) (n : Nat) : Nat := (vals d n).getD n 0
theorem vals_len (d : List Nat) : ∀ n, (vals d n).length = n + 1
  | 0 => rfl
  | n + 1 => by rw [vals, List.length_append, vals_len d n]; rfl
theorem vals_get (d : List Nat) : ∀ n k, k ≤ n → (vals d n).getD k 0 = gv d k
  | 0, k, h => by obtain rfl : k = 0 := (by omega); rfl
  | n + 1, k, h => by
    rcases Nat.lt_or_ge k (n + 1) with h1 | h1
    · rw [vals, List.getD_eq_getElem?_getD, List.getElem?_append_left (by rw [vals_len]; omega), ← List.getD_eq_getElem?_getD]
      exact vals_get d n k (by omega)
    · obtain rfl : k = n + 1 := by omega
      rfl
theorem op1_lt {g i n : Nat} {p : Nat × Nat} (h : p ∈ op1 g i n) : p.1 + p.2 < n := by
  unfold op1 at h
  split at h
  · cases h
  · split at h
    · split at h
      · obtain rfl := List.mem_singleton.1 h
        omega
      · cases h
    · rcases List.mem_append.1 h with h | h
      · split at h
        · obtain rfl := List.mem_singleton.1 h
          show n - (i + 1) + 0 < n
          omega
        · cases h
      · split at h
        · obtain ⟨a, ha, rfl⟩ := List.mem_map.1 h
          have := List.mem_range.1 ha
          show a + 1 + (n - (i + 1) - (a + 1)) < n
          omega
        · cases h
theorem ops_lt {n : Nat} {p : Nat × Nat} : ∀ {d : List Nat} {i : Nat}, p ∈ ops d i n → p.1 + p.2 < n
  | [], _, h => by cases h
  | g :: d, i, h => by
    rcases List.mem_append.1 h with h | h
    · exact op1_lt h
    · exact ops_lt h
theorem xor_le : ∀ (n a b : Nat), a ≤ n → a ^^^ b ≤ a + b
  | 0, a, b, h => by obtain rfl : a = 0 := (by omega); simp
  | n + 1, a, b, h => by
    rcases Nat.eq_zero_or_pos a with rfl | ha
    · simp
    · have ih := xor_le n (a / 2) (b / 2) (by omega)
      have h1 : (a ^^^ b) / 2 = a / 2 ^^^ b / 2 := Nat.xor_div_two
      have h2 : (a ^^^ b) % 2 ≤ a % 2 + b % 2 := by
        have := Nat.xor_mod_two_pow (a := a) (b := b) (n := 1)
        simp only [Nat.pow_one] at this
        rw [this]
        rcases Nat.mod_two_eq_zero_or_one a with h | h <;> rcases Nat.mod_two_eq_zero_or_one b with h' | h' <;> rw [h, h'] <;> decide
      omega
theorem gv_succ (d : List Nat) (n : Nat) : gv d (n + 1) = mex ((ops d 0 (n + 1)).map fun p => gv d p.1 ^^^ gv d p.2) := by
  unfold gv
  rw [vals, List.getD_eq_getElem?_getD, List.getElem?_append_right (by rw [vals_len]; omega), vals_len, Nat.sub_self]
  show mex _ = mex _
  congr 1
  refine List.map_congr_left fun p hp => ?_
  have := ops_lt hp
  rw [vals_get d n p.1 (by omega), vals_get d n p.2 (by omega)]
  rfl
theorem gv_le (d : List Nat) : ∀ n k, k ≤ n → gv d k ≤ k
  | 0, k, h => by obtain rfl : k = 0 := (by omega); exact Nat.le_refl 0
  | n + 1, k, h => by
    rcases Nat.lt_or_ge k (n + 1) with h1 | h1
    · exact gv_le d n k (by omega)
    · obtain rfl : k = n + 1 := by omega
      rw [gv_succ]
      refine mex_le fun v hv => ?_
      obtain ⟨p, hp, rfl⟩ := List.mem_map.1 hv
      have h2 := ops_lt hp
      have h3 := gv_le d n p.1 (by omega)
      have h4 := gv_le d n p.2 (by omega)
      have h5 := xor_le _ (gv d p.1) (gv d p.2) (Nat.le_refl _)
      omega
theorem gv_self (d : List Nat) (n : Nat) : gv d n ≤ n := gv_le d n n (Nat.le_refl n)
theorem opt_le (d : List Nat) (n : Nat) {p : Nat × Nat} (hp : p ∈ ops d 0 n) : gv d p.1 ^^^ gv d p.2 < n := by
  have h2 := ops_lt hp
  have h3 := gv_self d p.1
  have h4 := gv_self d p.2
  have h5 := xor_le _ (gv d p.1) (gv d p.2) (Nat.le_refl _)
  omega
end Go.Proofs.YtegcmgjldapnmaaDoor.Oct
namespace Go.Proofs.YtegcmgjldapnmaaDoor.Oct
/-- Values repeat as a period asks for. -/
def goes (v : Nat → Nat) (d pre p : Nat) : Prop := ∀ n, pre ≤ n → n ≤ 2 * pre + 2 * p + d → v n = v (n + p)
/-- The first period within a limit, or none. -/
def First (v : Nat → Nat) (d limit : Nat) (pre p : Nat) : Bool → Prop
  | true => 1 ≤ p ∧ 2 * pre + 3 * p + d ≤ limit ∧ goes v d pre p ∧ (∀ q k, 1 ≤ q → q < p → 2 * k + 3 * q + d ≤ limit → ¬ goes v d k q) ∧ ∀ k, k < pre → ¬ goes v d k p
  | false => pre = 0 ∧ p = 0 ∧ ∀ q k, 1 ≤ q → 2 * k + 3 * q + d ≤ limit → ¬ goes v d k q
end Go.Proofs.YtegcmgjldapnmaaDoor.Oct
namespace Go.Proofs.YtegcmgjldapnmaaDoor.Nim

abbrev andI (x y : Int) : Int := IntKind.wrap .i64 ((BitVec.ofInt 64 x &&& BitVec.ofInt 64 y).toNat : Int)
abbrev xorI (x y : Int) : Int := IntKind.wrap .i64 ((BitVec.ofInt 64 x ^^^ BitVec.ofInt 64 y).toNat : Int)
theorem wrap_nat {n : Nat} (h : n < 2 ^ 63) : IntKind.wrap .i64 (Int.ofNat n) = Int.ofNat n := by
  unfold IntKind.wrap
  have h1 : (Int.ofNat n) % (2 ^ IntKind.i64.bits : Int) = Int.ofNat n := Int.emod_eq_of_lt (by simp) (by
    show (n : Int) < 2 ^ 64
    have : (n : Int) < ((2 ^ 63 : Nat) : Int) := by exact_mod_cast h
    simp at this
    omega)
  simp only [h1]
  have h2 : ¬ ((Int.ofNat n : Int) ≥ (2 ^ (IntKind.i64.bits - 1) : Int)) := by
    show ¬ ((n : Int) ≥ 2 ^ 63)
    have : (n : Int) < ((2 ^ 63 : Nat) : Int) := by exact_mod_cast h
    simp at this
    omega
  have h3 : decide ((Int.ofNat n : Int) ≥ (2 ^ (IntKind.i64.bits - 1) : Int)) = false := decide_eq_false h2
  simp only [h3, Bool.and_false]
  rfl

theorem ofInt_nat (n : Nat) : BitVec.ofInt 64 (Int.ofNat n) = BitVec.ofNat 64 n := by
  simp [BitVec.ofInt_natCast]

theorem xor_nat {a b : Nat} (ha : a < 2 ^ 63) (hb : b < 2 ^ 63) : xorI (Int.ofNat a) (Int.ofNat b) = Int.ofNat (a ^^^ b) := by
  unfold xorI
  rw [ofInt_nat, ofInt_nat, BitVec.toNat_xor, BitVec.toNat_ofNat, BitVec.toNat_ofNat]
  rw [Nat.mod_eq_of_lt (show a < 2 ^ 64 by omega), Nat.mod_eq_of_lt (show b < 2 ^ 64 by omega)]
  exact wrap_nat (Nat.xor_lt_two_pow ha hb)

theorem wrap_int {x : Int} (h0 : -(2 ^ 63) ≤ x) (h1 : x < 2 ^ 63) : IntKind.wrap .i64 x = x := by
  cases x with
  | ofNat n => exact wrap_nat (by simp at h1; omega)
  | negSucc n =>
    have hn : n < 2 ^ 63 := by omega
    unfold IntKind.wrap
    have e1 : (Int.negSucc n) % (2 ^ IntKind.i64.bits : Int) = Int.ofNat (2 ^ 64 - 1 - n) := by
      show (Int.negSucc n) % (2 ^ 64 : Int) = _
      simp only [Int.ofNat_eq_natCast]
      omega
    simp only [e1]
    have h3 : decide ((Int.ofNat (2 ^ 64 - 1 - n) : Int) ≥ (2 ^ (IntKind.i64.bits - 1) : Int)) = true := by
      refine decide_eq_true ?_
      show ((2 ^ 64 - 1 - n : Nat) : Int) ≥ 2 ^ 63
      omega
    simp only [h3, Bool.and_true, show IntKind.i64.signed = true from rfl, if_true]
    show ((2 ^ 64 - 1 - n : Nat) : Int) - 2 ^ 64 = _
    omega
end Go.Proofs.YtegcmgjldapnmaaDoor.Nim
