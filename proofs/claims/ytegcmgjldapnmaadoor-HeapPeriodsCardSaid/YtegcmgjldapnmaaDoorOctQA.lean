/- Octal games: the options of a heap, their values, and the bound on them. -/
import GoSem.Core.View
namespace Go.Proofs.YtegcmgjldapnmaaDoor.Oct
/-- The moves from a heap of n by one digit (of the place i): two heaps, any of which may be empty. -/
def op1 (g i n : Nat) : List (Nat × Nat) :=
  if n < i + 1 then [] else if n = i + 1 then (if g % 2 = 1 then [(0, 0)] else [])
  else (if g / 2 % 2 = 1 then [(n - (i + 1), 0)] else []) ++ (if g / 4 % 2 = 1 then (List.range ((n - (i + 1)) / 2)).map fun a => (a + 1, n - (i + 1) - (a + 1)) else [])
/-- All moves, by the digits from the place i on. -/
def ops : List Nat → Nat → Nat → List (Nat × Nat)
  | [], _, _ => []
  | g :: d, i, n => op1 g i n ++ ops d (i + 1) n
/-- The least number that is not in a list. -/
def mexF (l : List Nat) : Nat → Nat → Nat
  | 0, v => v
  | k + 1, v => if l.contains v then mexF l k (v + 1) else v
def mex (l : List Nat) : Nat := mexF l l.length 0
theorem mexF_in (l : List Nat) : ∀ k v, ∀ j, v ≤ j → j < mexF l k v → l.contains j = true
  | 0, v, j, h1, h2 => by rw [mexF] at h2; omega
  | k + 1, v, j, h1, h2 => by
    rw [mexF] at h2
    split at h2
    · rename_i h
      rcases Nat.eq_or_lt_of_le h1 with rfl | h3
      · exact h
      · exact mexF_in l k (v + 1) j h3 h2
    · omega
theorem mexF_le (l : List Nat) : ∀ k v, v ≤ mexF l k v ∧ mexF l k v ≤ v + k
  | 0, v => by rw [mexF]; omega
  | k + 1, v => by
    rw [mexF]
    split
    · have := mexF_le l k (v + 1)
      omega
    · omega
theorem mexF_out (l : List Nat) : ∀ k v, mexF l k v < v + k → l.contains (mexF l k v) = false
  | 0, v, h => by rw [mexF] at h; omega
  | k + 1, v, h => by
    rw [mexF] at h ⊢
    split at h
    · rename_i hc
      rw [if_pos hc]
      exact mexF_out l k (v + 1) (by omega)
    · rename_i hc
      rw [if_neg hc]
      simpa using hc
theorem nodup_le : ∀ (n : Nat) (l : List Nat), (∀ j, j < n → j ∈ l) → n ≤ l.length
  | 0, _, _ => Nat.zero_le _
  | n + 1, l, h => by
    have hn := h n (Nat.lt_succ_self n)
    have := nodup_le n (l.filter fun x => decide (x ≠ n)) fun j hj => List.mem_filter.2 ⟨h j (by omega), by simp; omega⟩
    have h2 : (l.filter fun x => decide (x ≠ n)).length < l.length := by
      rw [← List.countP_eq_length_filter]
      have h3 := List.countP_le_length (p := fun x => decide (x ≠ n)) (l := l)
      rcases Nat.lt_or_eq_of_le h3 with h4 | h4
      · exact h4
      · rw [List.countP_eq_length] at h4
        have := h4 n hn
        simp at this
    omega
theorem mex_spec (l : List Nat) : (∀ j, j < mex l → j ∈ l) ∧ mex l ∉ l := by
  have h1 : ∀ j, j < mex l → j ∈ l := fun j hj => by
    have := mexF_in l l.length 0 j (Nat.zero_le _) hj
    simpa using this
  refine ⟨h1, ?_⟩
  have h2 := mexF_le l l.length 0
  rcases Nat.lt_or_ge (mexF l l.length 0) (0 + l.length) with h3 | h3
  · have := mexF_out l l.length 0 h3
    show mexF l l.length 0 ∉ l
    simpa using this
  · intro hm
    have h4 := nodup_le (mex l + 1) l fun j hj => by
      rcases Nat.lt_or_ge j (mex l) with h5 | h5
      · exact h1 j h5
      · obtain rfl : j = mex l := by omega
        exact hm
    have : mex l = mexF l l.length 0 := rfl
    omega
theorem mex_eq {l : List Nat} {m : Nat} (h1 : ∀ j, j < m → j ∈ l) (h2 : m ∉ l) : m = mex l := by
  obtain ⟨k1, k2⟩ := mex_spec l
  rcases Nat.lt_trichotomy m (mex l) with h | h | h
  · exact absurd (k1 m h) h2
  · exact h
  · exact absurd (h1 _ h) k2
theorem mex_le {l : List Nat} {b : Nat} (h : ∀ v ∈ l, v < b) : mex l ≤ b := by
  rcases Nat.lt_or_ge b (mex l) with h1 | h1
  · have := h b ((mex_spec l).1 b h1)
    omega
  · exact h1
/-- The values of the heaps of 0 to n. -/
def vals (d : List Nat) : Nat → List Nat
  | 0 => [0]
  | n + 1 => vals d n ++ [mex ((ops d 0 (n + 1)).map fun p => (vals d n).getD p.1 0 ^^^ (vals d n).getD p.2 0)]
def gv (d : List Nat) (n : Nat) : Nat := (vals d n).getD n 0
theorem vals_len (d : List Nat) : ∀ n, (vals d n).length = n + 1
  | 0 => rfl
  | n + 1 => by rw [vals, List.length_append, vals_len d n]; rfl
theorem vals_get (d : List Nat) : ∀ n k, k ≤ n → (vals d n).getD k 0 = gv d k
  | 0, k, h => by obtain rfl : k = 0 := (by omega); rfl
  | n + 1, k, h => by
    rcases Nat.lt_or_ge k (n + 1) with h1 | h1
    · rw [vals, List.getD_eq_getElem?_getD, List.getElem?_append_left (by rw [vals_len]; omega), ← List.getD_eq_getElem?_getD]
      exact vals_get d n k (by omega)
    · obtain rfl : k = n + 1 := by omega
      rfl
theorem op1_lt {g i n : Nat} {p : Nat × Nat} (h : p ∈ op1 g i n) : p.1 + p.2 < n := by
  unfold op1 at h
  split at h
  · cases h
  · split at h
    · split at h
      · obtain rfl := List.mem_singleton.1 h
        omega
      · cases h
    · rcases List.mem_append.1 h with h | h
      · split at h
        · obtain rfl := List.mem_singleton.1 h
          show n - (i + 1) + 0 < n
          omega
        · cases h
      · split at h
        · obtain ⟨a, ha, rfl⟩ := List.mem_map.1 h
          have := List.mem_range.1 ha
          show a + 1 + (n - (i + 1) - (a + 1)) < n
          omega
        · cases h
theorem ops_lt {n : Nat} {p : Nat × Nat} : ∀ {d : List Nat} {i : Nat}, p ∈ ops d i n → p.1 + p.2 < n
  | [], _, h => by cases h
  | g :: d, i, h => by
    rcases List.mem_append.1 h with h | h
    · exact op1_lt h
    · exact ops_lt h
theorem xor_le : ∀ (n a b : Nat), a ≤ n → a ^^^ b ≤ a + b
  | 0, a, b, h => by obtain rfl : a = 0 := (by omega); simp
  | n + 1, a, b, h => by
    rcases Nat.eq_zero_or_pos a with rfl | ha
    · simp
    · have ih := xor_le n (a / 2) (b / 2) (by omega)
      have h1 : (a ^^^ b) / 2 = a / 2 ^^^ b / 2 := Nat.xor_div_two
      have h2 : (a ^^^ b) % 2 ≤ a % 2 + b % 2 := by
        have := Nat.xor_mod_two_pow (a := a) (b := b) (n := 1)
        simp only [Nat.pow_one] at this
        rw [this]
        rcases Nat.mod_two_eq_zero_or_one a with h | h <;> rcases Nat.mod_two_eq_zero_or_one b with h' | h' <;> rw [h, h'] <;> decide
      omega
theorem gv_succ (d : List Nat) (n : Nat) : gv d (n + 1) = mex ((ops d 0 (n + 1)).map fun p => gv d p.1 ^^^ gv d p.2) := by
  unfold gv
  rw [vals, List.getD_eq_getElem?_getD, List.getElem?_append_right (by rw [vals_len]; omega), vals_len, Nat.sub_self]
  show mex _ = mex _
  congr 1
  refine List.map_congr_left fun p hp => ?_
  have := ops_lt hp
  rw [vals_get d n p.1 (by omega), vals_get d n p.2 (by omega)]
  rfl
theorem gv_le (d : List Nat) : ∀ n k, k ≤ n → gv d k ≤ k
  | 0, k, h => by obtain rfl : k = 0 := (by omega); exact Nat.le_refl 0
  | n + 1, k, h => by
    rcases Nat.lt_or_ge k (n + 1) with h1 | h1
    · exact gv_le d n k (by omega)
    · obtain rfl : k = n + 1 := by omega
      rw [gv_succ]
      refine mex_le fun v hv => ?_
      obtain ⟨p, hp, rfl⟩ := List.mem_map.1 hv
      have h2 := ops_lt hp
      have h3 := gv_le d n p.1 (by omega)
      have h4 := gv_le d n p.2 (by omega)
      have h5 := xor_le _ (gv d p.1) (gv d p.2) (Nat.le_refl _)
      omega
theorem gv_self (d : List Nat) (n : Nat) : gv d n ≤ n := gv_le d n n (Nat.le_refl n)
theorem opt_le (d : List Nat) (n : Nat) {p : Nat × Nat} (hp : p ∈ ops d 0 n) : gv d p.1 ^^^ gv d p.2 < n := by
  have h2 := ops_lt hp
  have h3 := gv_self d p.1
  have h4 := gv_self d p.2
  have h5 := xor_le _ (gv d p.1) (gv d p.2) (Nat.le_refl _)
  omega
end Go.Proofs.YtegcmgjldapnmaaDoor.Oct
namespace Go.Proofs.YtegcmgjldapnmaaDoor.Oct
/-- Values repeat as a period asks for. -/
def goes (v : Nat → Nat) (d pre p : Nat) : Prop := ∀ n, pre ≤ n → n ≤ 2 * pre + 2 * p + d → v n = v (n + p)
/-- The first period within a limit, or none. -/
def First (v : Nat → Nat) (d limit : Nat) (pre p : Nat) : Bool → Prop
  | true => 1 ≤ p ∧ 2 * pre + 3 * p + d ≤ limit ∧ goes v d pre p ∧ (∀ q k, 1 ≤ q → q < p → 2 * k + 3 * q + d ≤ limit → ¬ goes v d k q) ∧ ∀ k, k < pre → ¬ goes v d k p
  | false => pre = 0 ∧ p = 0 ∧ ∀ q k, 1 ≤ q → 2 * k + 3 * q + d ≤ limit → ¬ goes v d k q
theorem First.uniq {v : Nat → Nat} {d limit a p b q : Nat} : ∀ {s t : Bool}, First v d limit a p s → First v d limit b q t → a = b ∧ p = q ∧ s = t
  | true, true, ⟨h1, h2, h3, h4, h5⟩, ⟨k1, k2, k3, k4, k5⟩ => by
    have hp : p = q := by
      rcases Nat.lt_trichotomy p q with h | h | h
      · exact absurd h3 (k4 p a h1 h h2)
      · exact h
      · exact absurd k3 (h4 q b k1 h k2)
    subst hp
    refine ⟨?_, rfl, rfl⟩
    rcases Nat.lt_trichotomy a b with h | h | h
    · exact absurd h3 (k5 a h)
    · exact h
    · exact absurd k3 (h5 b h)
  | true, false, ⟨h1, h2, h3, h4, h5⟩, ⟨k1, k2, k3⟩ => absurd h3 (k3 p a h1 h2)
  | false, true, ⟨h1, h2, h3⟩, ⟨k1, k2, k3, _, _⟩ => absurd k3 (h3 q b k1 k2)
  | false, false, ⟨h1, h2, _⟩, ⟨k1, k2, _⟩ => ⟨by omega, by omega, rfl⟩
/-- The moves from a heap by one digit, told. -/
theorem op1_iff {g i n : Nat} (a b : Nat) : (a, b) ∈ op1 g i n ↔ a + b + (i + 1) = n ∧ ((a = 0 ∧ b = 0 ∧ g % 2 = 1) ∨ (0 < a ∧ b = 0 ∧ g / 2 % 2 = 1) ∨ (0 < a ∧ a ≤ b ∧ g / 4 % 2 = 1)) := by
  unfold op1
  split
  · exact ⟨fun h => (by cases h), fun h => (by omega)⟩
  · split
    · split
      · rw [List.mem_singleton, Prod.mk.injEq]; omega
      · exact ⟨fun h => (by cases h), fun h => (by omega)⟩
    · rw [List.mem_append]
      have e1 : (a, b) ∈ (if g / 2 % 2 = 1 then [(n - (i + 1), 0)] else []) ↔ g / 2 % 2 = 1 ∧ a = n - (i + 1) ∧ b = 0 := by
        split
        · rename_i h; rw [List.mem_singleton, Prod.mk.injEq]; exact ⟨fun k => ⟨h, k⟩, fun k => k.2⟩
        · rename_i h; exact ⟨fun k => (by cases k), fun k => absurd k.1 h⟩
      have e2 : (a, b) ∈ (if g / 4 % 2 = 1 then (List.range ((n - (i + 1)) / 2)).map fun a => (a + 1, n - (i + 1) - (a + 1)) else []) ↔ g / 4 % 2 = 1 ∧ 0 < a ∧ a + b = n - (i + 1) ∧ a ≤ b := by
        split
        · rename_i h
          rw [List.mem_map]
          constructor
          · rintro ⟨x, hx, e⟩
            have := List.mem_range.1 hx
            rw [Prod.mk.injEq] at e
            omega
          · rintro ⟨_, k1, k2, k3⟩
            exact ⟨a - 1, List.mem_range.2 (by omega), by rw [Prod.mk.injEq]; omega⟩
        · rename_i h; exact ⟨fun k => (by cases k), fun k => absurd k.1 h⟩
      rw [e1, e2]
      omega
theorem ops_iff {n a b : Nat} : ∀ {d : List Nat} {i : Nat}, (a, b) ∈ ops d i n ↔ ∃ k g, d[k]? = some g ∧ (a, b) ∈ op1 g (i + k) n
  | [], i => ⟨fun h => (by cases h), fun ⟨k, g, h, _⟩ => (by simp at h)⟩
  | g :: d, i => by
    rw [ops, List.mem_append, ops_iff (d := d) (i := i + 1)]
    constructor
    · rintro (h | ⟨k, g', h1, h2⟩)
      · exact ⟨0, g, rfl, h⟩
      · exact ⟨k + 1, g', h1, by rw [show i + (k + 1) = i + 1 + k by omega]; exact h2⟩
    · rintro ⟨k, g', h1, h2⟩
      cases k with
      | zero => cases h1; exact .inl h2
      | succ k => exact .inr ⟨k, g', h1, by rw [show i + 1 + k = i + (k + 1) by omega]; exact h2⟩
/-- A value is the value of a move. -/
def isOpt (d : List Nat) (n v : Nat) : Prop := ∃ a b, (a, b) ∈ ops d 0 n ∧ v = gv d a ^^^ gv d b
theorem gv_congr {d : List Nat} {n m : Nat} (hn : 0 < n) (hm : 0 < m) (h : ∀ v, isOpt d n v ↔ isOpt d m v) : gv d n = gv d m := by
  obtain ⟨n, rfl⟩ : ∃ k, n = k + 1 := ⟨n - 1, by omega⟩
  obtain ⟨m, rfl⟩ : ∃ k, m = k + 1 := ⟨m - 1, by omega⟩
  rw [gv_succ, gv_succ]
  obtain ⟨h1, h2⟩ := mex_spec ((ops d 0 (n + 1)).map fun p => gv d p.1 ^^^ gv d p.2)
  have e : ∀ k v, v ∈ ((ops d 0 (k + 1)).map fun p => gv d p.1 ^^^ gv d p.2) ↔ isOpt d (k + 1) v := fun k v => by
    rw [List.mem_map]
    exact ⟨fun ⟨⟨a, b⟩, hp, hv⟩ => ⟨a, b, hp, hv.symm⟩, fun ⟨a, b, hp, hv⟩ => ⟨(a, b), hp, hv.symm⟩⟩
  exact mex_eq (fun j hj => (e m j).2 ((h j).1 ((e n j).1 (h1 j hj)))) (fun hm => h2 ((e n _).2 ((h _).2 ((e m _).1 hm))))
/-- The theorem of Guy and Smith: what repeats so far, repeats. -/
theorem guy_smith (d : List Nat) (pre p : Nat) (hp : 1 ≤ p) (H : goes (gv d) d.length pre p) : ∀ N n, n ≤ N → pre ≤ n → gv d n = gv d (n + p)
  | N, n, hN, hn => by
    rcases Nat.lt_or_ge (2 * pre + 2 * p + d.length) n with h | h
    · have ih : ∀ m, pre ≤ m → m < n → gv d m = gv d (m + p) := fun m h1 h2 => guy_smith d pre p hp H (N - 1) m (by omega) h1
      refine gv_congr (by omega) (by omega) fun v => ?_
      have key : ∀ k g, d[k]? = some g → k < d.length := fun k g hk => (List.getElem?_eq_some_iff.1 hk).1
      constructor
      · rintro ⟨a, b, hab, rfl⟩
        obtain ⟨k, g, hk, ho⟩ := ops_iff.1 hab
        have hkd := key k g hk
        rw [op1_iff] at ho
        obtain ⟨h1, h2⟩ := ho
        rcases h2 with ⟨rfl, rfl, _⟩ | ⟨ha, rfl, h3⟩ | ⟨ha, hab2, h3⟩
        · omega
        · exact ⟨a + p, 0, ops_iff.2 ⟨k, g, hk, (op1_iff _ _).2 ⟨by omega, .inr (.inl ⟨by omega, rfl, h3⟩)⟩⟩, by rw [ih a (by omega) (by omega)]⟩
        · exact ⟨a, b + p, ops_iff.2 ⟨k, g, hk, (op1_iff _ _).2 ⟨by omega, .inr (.inr ⟨ha, by omega, h3⟩)⟩⟩, by rw [ih b (by omega) (by omega)]⟩
      · rintro ⟨a, b, hab, rfl⟩
        obtain ⟨k, g, hk, ho⟩ := ops_iff.1 hab
        have hkd := key k g hk
        rw [op1_iff] at ho
        obtain ⟨h1, h2⟩ := ho
        rcases h2 with ⟨rfl, rfl, _⟩ | ⟨ha, rfl, h3⟩ | ⟨ha, hab2, h3⟩
        · omega
        · refine ⟨a - p, 0, ops_iff.2 ⟨k, g, hk, (op1_iff _ _).2 ⟨by omega, .inr (.inl ⟨by omega, rfl, h3⟩)⟩⟩, ?_⟩
          rw [ih (a - p) (by omega) (by omega), show a - p + p = a by omega]
        · have e : gv d (b - p) = gv d b := by rw [ih (b - p) (by omega) (by omega), show b - p + p = b by omega]
          rcases Nat.lt_or_ge (b - p) a with h4 | h4
          · exact ⟨b - p, a, ops_iff.2 ⟨k, g, hk, (op1_iff _ _).2 ⟨by omega, .inr (.inr ⟨by omega, by omega, h3⟩)⟩⟩, by rw [e, Nat.xor_comm]⟩
          · exact ⟨a, b - p, ops_iff.2 ⟨k, g, hk, (op1_iff _ _).2 ⟨by omega, .inr (.inr ⟨by omega, by omega, h3⟩)⟩⟩, by rw [e]⟩
    · exact H n hn h
termination_by N => N
decreasing_by omega
end Go.Proofs.YtegcmgjldapnmaaDoor.Oct
namespace Go.Proofs.YtegcmgjldapnmaaDoor.Nim

abbrev andI (x y : Int) : Int := IntKind.wrap .i64 ((BitVec.ofInt 64 x &&& BitVec.ofInt 64 y).toNat : Int)
abbrev orI (x y : Int) : Int := IntKind.wrap .i64 ((BitVec.ofInt 64 x ||| BitVec.ofInt 64 y).toNat : Int)
abbrev xorI (x y : Int) : Int := IntKind.wrap .i64 ((BitVec.ofInt 64 x ^^^ BitVec.ofInt 64 y).toNat : Int)
abbrev shlI (x : Int) (n : Nat) : Int := IntKind.wrap .i64 (x * 2 ^ n)
abbrev shrI (x : Int) (n : Nat) : Int := x.fdiv (2 ^ n)

theorem wrap_nat {n : Nat} (h : n < 2 ^ 63) : IntKind.wrap .i64 (Int.ofNat n) = Int.ofNat n := by
  unfold IntKind.wrap
  have h1 : (Int.ofNat n) % (2 ^ IntKind.i64.bits : Int) = Int.ofNat n := Int.emod_eq_of_lt (by simp) (by
    show (n : Int) < 2 ^ 64
    have : (n : Int) < ((2 ^ 63 : Nat) : Int) := by exact_mod_cast h
    simp at this
    omega)
  simp only [h1]
  have h2 : ¬ ((Int.ofNat n : Int) ≥ (2 ^ (IntKind.i64.bits - 1) : Int)) := by
    show ¬ ((n : Int) ≥ 2 ^ 63)
    have : (n : Int) < ((2 ^ 63 : Nat) : Int) := by exact_mod_cast h
    simp at this
    omega
  have h3 : decide ((Int.ofNat n : Int) ≥ (2 ^ (IntKind.i64.bits - 1) : Int)) = false := decide_eq_false h2
  simp only [h3, Bool.and_false]
  rfl

theorem ofInt_nat (n : Nat) : BitVec.ofInt 64 (Int.ofNat n) = BitVec.ofNat 64 n := by
  simp [BitVec.ofInt_natCast]

theorem and_nat {a b : Nat} (ha : a < 2 ^ 63) : andI (Int.ofNat a) (Int.ofNat b) = Int.ofNat (a &&& b) := by
  unfold andI
  rw [ofInt_nat, ofInt_nat, BitVec.toNat_and, BitVec.toNat_ofNat, BitVec.toNat_ofNat]
  have h1 : a % 2 ^ 64 = a := Nat.mod_eq_of_lt (by omega)
  have h2 : a &&& b % 2 ^ 64 = a &&& b := by
    apply Nat.eq_of_testBit_eq
    intro i
    simp only [Nat.testBit_and, Nat.testBit_mod_two_pow]
    by_cases hi : i < 64
    · simp [hi]
    · have : a.testBit i = false := Nat.testBit_lt_two_pow (Nat.lt_of_lt_of_le (show a < 2 ^ 64 by omega) (Nat.pow_le_pow_right (by omega) (by omega)))
      simp [this]
  rw [h1, h2]
  exact wrap_nat (Nat.lt_of_le_of_lt Nat.and_le_left ha)

theorem xor_nat {a b : Nat} (ha : a < 2 ^ 63) (hb : b < 2 ^ 63) : xorI (Int.ofNat a) (Int.ofNat b) = Int.ofNat (a ^^^ b) := by
  unfold xorI
  rw [ofInt_nat, ofInt_nat, BitVec.toNat_xor, BitVec.toNat_ofNat, BitVec.toNat_ofNat]
  rw [Nat.mod_eq_of_lt (show a < 2 ^ 64 by omega), Nat.mod_eq_of_lt (show b < 2 ^ 64 by omega)]
  exact wrap_nat (Nat.xor_lt_two_pow ha hb)

theorem shr_nat (a n : Nat) : shrI (Int.ofNat a) n = Int.ofNat (a / 2 ^ n) := by
  show Int.fdiv (a : Int) (2 ^ n) = _
  have : (2 : Int) ^ n = ((2 ^ n : Nat) : Int) := by simp
  rw [this, Int.fdiv_eq_ediv_of_nonneg _ (Int.natCast_nonneg _)]
  exact (Int.natCast_ediv a (2 ^ n)).symm

theorem shl_nat {a n : Nat} (h : a * 2 ^ n < 2 ^ 63) : shlI (Int.ofNat a) n = Int.ofNat (a * 2 ^ n) := by
  unfold shlI
  have : (Int.ofNat a) * (2 : Int) ^ n = Int.ofNat (a * 2 ^ n) := by simp
  rw [this, wrap_nat h]

theorem or_nat {a b : Nat} (ha : a < 2 ^ 63) (hb : b < 2 ^ 63) : orI (Int.ofNat a) (Int.ofNat b) = Int.ofNat (a ||| b) := by
  unfold orI
  rw [ofInt_nat, ofInt_nat, BitVec.toNat_or, BitVec.toNat_ofNat, BitVec.toNat_ofNat]
  rw [Nat.mod_eq_of_lt (show a < 2 ^ 64 by omega), Nat.mod_eq_of_lt (show b < 2 ^ 64 by omega)]
  exact wrap_nat (Nat.or_lt_two_pow ha hb)
theorem wrap_int {x : Int} (h0 : -(2 ^ 63) ≤ x) (h1 : x < 2 ^ 63) : IntKind.wrap .i64 x = x := by
  cases x with
  | ofNat n => exact wrap_nat (by simp at h1; omega)
  | negSucc n =>
    have hn : n < 2 ^ 63 := by omega
    unfold IntKind.wrap
    have e1 : (Int.negSucc n) % (2 ^ IntKind.i64.bits : Int) = Int.ofNat (2 ^ 64 - 1 - n) := by
      show (Int.negSucc n) % (2 ^ 64 : Int) = _
      simp only [Int.ofNat_eq_natCast]
      omega
    simp only [e1]
    have h3 : decide ((Int.ofNat (2 ^ 64 - 1 - n) : Int) ≥ (2 ^ (IntKind.i64.bits - 1) : Int)) = true := by
      refine decide_eq_true ?_
      show ((2 ^ 64 - 1 - n : Nat) : Int) ≥ 2 ^ 63
      omega
    simp only [h3, Bool.and_true, show IntKind.i64.signed = true from rfl, if_true]
    show ((2 ^ 64 - 1 - n : Nat) : Int) - 2 ^ 64 = _
    omega
/-- One bit of a number. -/
theorem and_bit (x i : Nat) : (x &&& 2 ^ i = 0) ↔ x.testBit i = false := by
  constructor
  · intro h
    have : (x &&& 2 ^ i).testBit i = x.testBit i := by simp [Nat.testBit_and, Nat.testBit_two_pow]
    rw [← this, h, Nat.zero_testBit]
  · intro h
    apply Nat.eq_of_testBit_eq
    intro j
    rw [Nat.testBit_and, Nat.testBit_two_pow, Nat.zero_testBit]
    by_cases hij : i = j
    · subst hij; simp [h]
    · simp [hij]
theorem or_bit {x i : Nat} (h : x.testBit i = false) : x ||| 2 ^ i = x ^^^ 2 ^ i := by
  apply Nat.eq_of_testBit_eq
  intro j
  rw [Nat.testBit_or, Nat.testBit_xor, Nat.testBit_two_pow]
  by_cases hij : i = j
  · subst hij; simp [h]
  · simp [hij]
end Go.Proofs.YtegcmgjldapnmaaDoor.Nim
