/- Octal games: the options of a heap, their values, and the bound on them. -/
import GoSem.Core.View
import Derived.Test.YtegcmgjldapnmaaGreatDoorProg
import Derived.KernelRfl
import Derived.Test.YtegcmgjldapnmaaGreatDoorSyF
import Derived.ChangeKeysEq
import Derived.Test.YtegcmgjldapnmaaGreatDoorAwake
namespace Go.Proofs.YtegcmgjldapnmaaGreatDoor.Oct
def op1 (g i n : Nat) : List (Nat × Nat) :=
  if n < i + 1 then [] else if n = i + 1 then (if g % 2 = 1 then [(0, 0)] else [])
  else (if g / 2 % 2 = 1 then [(n - (i + 1), 0)] else []) ++ (if g / 4 % 2 = 1 then (List.range ((n - (i + 1)) / 2)).map fun a => (a + 1, n - (i + 1) - (a + 1)) else [])
def ops : List Nat → Nat → Nat → List (Nat × Nat)
  | [], _, _ => []
  | g :: d, i, n => op1 g i n ++ ops d (i + 1) n
def mexF (l : List Nat) : Nat → Nat → Nat
  | 0, v => v
  | k + 1, v => if l.contains v then mexF l k (v + 1) else v
def mex (l : List Nat) : Nat := mexF l l.length 0
theorem mexF_in (l : List Nat) : ∀ k v, ∀ j, v ≤ j → j < mexF l k v → l.contains j = true
  | 0, v, j, h1, h2 => by rw [mexF] at h2; omega
  | k + 1, v, j, h1, h2 => by
    rw [mexF] at h2
    split at h2
    · rename_i h
      rcases Nat.eq_or_lt_of_le h1 with rfl | h3
      · exact h
      · exact mexF_in l k (v + 1) j h3 h2
    · omega
theorem mexF_le (l : List Nat) : ∀ k v, v ≤ mexF l k v ∧ mexF l k v ≤ v + k
  | 0, v => by rw [mexF]; omega
  | k + 1, v => by
    rw [mexF]
    split
    · have := mexF_le l k (v + 1)
      omega
    · omega
theorem mexF_out (l : List Nat) : ∀ k v, mexF l k v < v + k → l.contains (mexF l k v) = false
  | 0, v, h => by rw [mexF] at h; omega
  | k + 1, v, h => by
    rw [mexF] at h ⊢
    split at h
    · rename_i hc
      rw [if_pos hc]
      exact mexF_out l k (v + 1) (by omega)
    · rename_i hc
      rw [if_neg hc]
      simpa using hc
theorem nodup_le : ∀ (n : Nat) (l : List Nat), (∀ j, j < n → j ∈ l) → n ≤ l.length
  | 0, _, _ => Nat.zero_le _
  | n + 1, l, h => by
    have hn := h n (Nat.lt_succ_self n)
    have := nodup_le n (l.filter fun x => decide (x ≠ n)) fun j hj => List.mem_filter.2 ⟨h j (by omega), by simp; omega⟩
    have h2 : (l.filter fun x => decide (x ≠ n)).length < l.length := by
      rw [← List.countP_eq_length_filter]
      have h3 := List.countP_le_length (p := fun x => decide (x ≠ n)) (l := l)
      rcases Nat.lt_or_eq_of_le h3 with h4 | h4
      · exact h4
      · rw [List.countP_eq_length] at h4
        have := h4 n hn
        simp at this
    omega
theorem mex_spec (l : List Nat) : (∀ j, j < mex l → j ∈ l) ∧ mex l ∉ l := by
  have h1 : ∀ j, j < mex l → j ∈ l := fun j hj => by
    have := mexF_in l l.length 0 j (Nat.zero_le _) hj
    simpa using this
  refine ⟨h1, ?_⟩
  have h2 := mexF_le l l.length 0
  rcases Nat.lt_or_ge (mexF l l.length 0) (0 + l.length) with h3 | h3
  · have := mexF_out l l.length 0 h3
    show mexF l l.length 0 ∉ l
    simpa using this
  · intro hm
    have h4 := nodup_le (mex l + 1) l fun j hj => by
      rcases Nat.lt_or_ge j (mex l) with h5 | h5
      · exact h1 j h5
      · obtain rfl : j = mex l := by omega
        exact hm
    have : mex l = mexF l l.length 0 := rfl
    omega
theorem mex_le {l : List Nat} {b : Nat} (h : ∀ v ∈ l, v < b) : mex l ≤ b := by
  rcases Nat.lt_or_ge b (mex l) with h1 | h1
  · have := h b ((mex_spec l).1 b h1)
    omega
  · exact h1
def vals (d : List Nat) : Nat → List Nat
  | 0 => [0]
  | n + 1 => vals d n ++ [mex ((ops d 0 (n + 1)).map fun p => (vals d n).getD p.1 0 ^^^ (vals d n).getD p.2 0)]
def gv (d : List Nat) (n : Nat) : Nat := (vals d n).getD n 0
theorem vals_len (d : List Nat) : ∀ n, (vals d n).length = n + 1
  | 0 => rfl
  | n + 1 => by rw [vals, List.length_append, vals_len d n]; rfl
theorem vals_get (d : List Nat) : ∀ n k, k ≤ n → (vals d n).getD k 0 = gv d k
  | 0, k, h => by obtain rfl : k = 0 := (by omega); rfl
  | n + 1, k, h => by
    rcases Nat.lt_or_ge k (n + 1) with h1 | h1
    · rw [vals, List.getD_eq_getElem?_getD, List.getElem?_append_left (by rw [vals_len]; omega), ← List.getD_eq_getElem?_getD]
      exact vals_get d n k (by omega)
    · obtain rfl : k = n + 1 := by omega
      rfl
theorem op1_lt {g i n : Nat} {p : Nat × Nat} (h : p ∈ op1 g i n) : p.1 + p.2 < n := by
  unfold op1 at h
  split at h
  · cases h
  · split at h
    · split at h
      · obtain rfl := List.mem_singleton.1 h
        omega
      · cases h
    · rcases List.mem_append.1 h with h | h
      · split at h
        · obtain rfl := List.mem_singleton.1 h
          show n - (i + 1) + 0 < n
          omega
        · cases h
      · split at h
        · obtain ⟨a, ha, rfl⟩ := List.mem_map.1 h
          have := List.mem_range.1 ha
          show a + 1 + (n - (i + 1) - (a + 1)) < n
          omega
        · cases h
theorem ops_lt {n : Nat} {p : Nat × Nat} : ∀ {d : List Nat} {i : Nat}, p ∈ ops d i n → p.1 + p.2 < n
  | [], _, h => by cases h
  | g :: d, i, h => by
    rcases List.mem_append.1 h with h | h
    · exact op1_lt h
    · exact ops_lt h
theorem xor_le : ∀ (n a b : Nat), a ≤ n → a ^^^ b ≤ a + b
  | 0, a, b, h => by obtain rfl : a = 0 := (by omega); simp
  | n + 1, a, b, h => by
    rcases Nat.eq_zero_or_pos a with rfl | ha
    · simp
    · have ih := xor_le n (a / 2) (b / 2) (by omega)
      have h1 : (a ^^^ b) / 2 = a / 2 ^^^ b / 2 := Nat.xor_div_two
      have h2 : (a ^^^ b) % 2 ≤ a % 2 + b % 2 := by
        have := Nat.xor_mod_two_pow (a := a) (b := b) (n := 1)
        simp only [Nat.pow_one] at this
        rw [this]
        rcases Nat.mod_two_eq_zero_or_one a with h | h <;> rcases Nat.mod_two_eq_zero_or_one b with h' | h' <;> rw [h, h'] <;> decide
      omega
theorem gv_succ (d : List Nat) (n : Nat) : gv d (n + 1) = mex ((ops d 0 (n + 1)).map fun p => gv d p.1 ^^^ gv d p.2) := by
  unfold gv
  rw [vals, List.getD_eq_getElem?_getD, List.getElem?_append_right (by rw [vals_len]; omega), vals_len, Nat.sub_self]
  show mex _ = mex _
  congr 1
  refine List.map_congr_left fun p hp => ?_
  have := ops_lt hp
  rw [vals_get d n p.1 (by omega), vals_get d n p.2 (by omega)]
  rfl
theorem gv_le (d : List Nat) : ∀ n k, k ≤ n → gv d k ≤ k
  | 0, k, h => by obtain rfl : k = 0 := (by omega); exact Nat.le_refl 0
  | n + 1, k, h => by
    rcases Nat.lt_or_ge k (n + 1) with h1 | h1
    · exact gv_le d n k (by omega)
    · obtain rfl : k = n + 1 := by omega
      rw [gv_succ]
      refine mex_le fun v hv => ?_
      obtain ⟨p, hp, rfl⟩ := List.mem_map.1 hv
      have h2 := ops_lt hp
      have h3 := gv_le d n p.1 (by omega)
      have h4 := gv_le d n p.2 (by omega)
      have h5 := xor_le _ (gv d p.1) (gv d p.2) (Nat.le_refl _)
      omega
theorem gv_self (d : List Nat) (n : Nat) : gv d n ≤ n := gv_le d n n (Nat.le_refl n)
theorem opt_le (d : List Nat) (n : Nat) {p : Nat × Nat} (hp : p ∈ ops d 0 n) : gv d p.1 ^^^ gv d p.2 < n := by
  have h2 := ops_lt hp
  have h3 := gv_self d p.1
  have h4 := gv_self d p.2
  have h5 := xor_le _ (gv d p.1) (gv d p.2) (Nat.le_refl _)
  omega
end Go.Proofs.YtegcmgjldapnmaaGreatDoor.Oct
namespace Go.Proofs.YtegcmgjldapnmaaGreatDoor.Oct
theorem op1_iff {g i n : Nat} (a b : Nat) : (a, b) ∈ op1 g i n ↔ a + b + (i + 1) = n ∧ ((a = 0 ∧ b = 0 ∧ g % 2 = 1) ∨ (0 < a ∧ b = 0 ∧ g / 2 % 2 = 1) ∨ (0 < a ∧ a ≤ b ∧ g / 4 % 2 = 1)) := by
  unfold op1
  split
  · exact ⟨fun h => (by cases h), fun h => (by omega)⟩
  · split
    · split
      · rw [List.mem_singleton, Prod.mk.injEq]; omega
      · exact ⟨fun h => (by cases h), fun h => (by omega)⟩
    · rw [List.mem_append]
      have e1 : (a, b) ∈ (if g / 2 % 2 = 1 then [(n - (i + 1), 0)] else []) ↔ g / 2 % 2 = 1 ∧ a = n - (i + 1) ∧ b = 0 := by
        split
        · rename_i h; rw [List.mem_singleton, Prod.mk.injEq]; exact ⟨fun k => ⟨h, k⟩, fun k => k.2⟩
        · rename_i h; exact ⟨fun k => (by cases k), fun k => absurd k.1 h⟩
      have e2 : (a, b) ∈ (if g / 4 % 2 = 1 then (List.range ((n - (i + 1)) / 2)).map fun a => (a + 1, n - (i + 1) - (a + 1)) else []) ↔ g / 4 % 2 = 1 ∧ 0 < a ∧ a + b = n - (i + 1) ∧ a ≤ b := by
        split
        · rename_i h
          rw [List.mem_map]
          constructor
          · rintro ⟨x, hx, e⟩
            have := List.mem_range.1 hx
            rw [Prod.mk.injEq] at e
            omega
          · rintro ⟨_, k1, k2, k3⟩
            exact ⟨a - 1, List.mem_range.2 (by omega), by rw [Prod.mk.injEq]; omega⟩
        · rename_i h; exact ⟨fun k => (by cases k), fun k => absurd k.1 h⟩
      rw [e1, e2]
      omega
theorem ops_iff {n a b : Nat} : ∀ {d : List Nat} {i : Nat}, (a, b) ∈ ops d i n ↔ ∃ k g, d[k]? = some g ∧ (a, b) ∈ op1 g (i + k) n
  | [], i => ⟨fun h => (by cases h), fun ⟨k, g, h, _⟩ => (by simp at h)⟩
  | g :: d, i => by
    rw [ops, List.mem_append, ops_iff (d := d) (i := i + 1)]
    constructor
    · rintro (h | ⟨k, g', h1, h2⟩)
      · exact ⟨0, g, rfl, h⟩
      · exact ⟨k + 1, g', h1, by rw [show i + (k + 1) = i + 1 + k by omega]; exact h2⟩
    · rintro ⟨k, g', h1, h2⟩
      cases k with
      | zero => cases h1; exact .inl h2
      | succ k => exact .inr ⟨k, g', h1, by rw [show i + 1 + k = i + (k + 1) by omega]; exact h2⟩
end Go.Proofs.YtegcmgjldapnmaaGreatDoor.Oct
namespace Go.Proofs.YtegcmgjldapnmaaGreatDoor.Nim

abbrev andI (x y : Int) : Int := IntKind.wrap .i64 ((BitVec.ofInt 64 x &&& BitVec.ofInt 64 y).toNat : Int)
abbrev xorI (x y : Int) : Int := IntKind.wrap .i64 ((BitVec.ofInt 64 x ^^^ BitVec.ofInt 64 y).toNat : Int)
theorem wrap_nat {n : Nat} (h : n < 2 ^ 63) : IntKind.wrap .i64 (Int.ofNat n) = Int.ofNat n := by
  unfold IntKind.wrap
  have h1 : (Int.ofNat n) % (2 ^ IntKind.i64.bits : Int) = Int.ofNat n := Int.emod_eq_of_lt (by simp) (by
    show (n : Int) < 2 ^ 64
    have : (n : Int) < ((2 ^ 63 : Nat) : Int) := by exact_mod_cast h
    simp at this
    omega)
  simp only [h1]
  have h2 : ¬ ((Int.ofNat n : Int) ≥ (2 ^ (IntKind.i64.bits - 1) : Int)) := by
    show ¬ ((n : Int) ≥ 2 ^ 63)
    have : (n : Int) < ((2 ^ 63 : Nat) : Int) := by exact_mod_cast h
    simp at this
    omega
  have h3 : decide ((Int.ofNat n : Int) ≥ (2 ^ (IntKind.i64.bits - 1) : Int)) = false := decide_eq_false h2
  simp only [h3, Bool.and_false]
  rfl

theorem ofInt_nat (n : Nat) : BitVec.ofInt 64 (Int.ofNat n) = BitVec.ofNat 64 n := by
  simp [BitVec.ofInt_natCast]

theorem xor_nat {a b : Nat} (ha : a < 2 ^ 63) (hb : b < 2 ^ 63) : xorI (Int.ofNat a) (Int.ofNat b) = Int.ofNat (a ^^^ b) := by
  unfold xorI
  rw [ofInt_nat, ofInt_nat, BitVec.toNat_xor, BitVec.toNat_ofNat, BitVec.toNat_ofNat]
  rw [Nat.mod_eq_of_lt (show a < 2 ^ 64 by omega), Nat.mod_eq_of_lt (show b < 2 ^ 64 by omega)]
  exact wrap_nat (Nat.xor_lt_two_pow ha hb)

theorem wrap_int {x : Int} (h0 : -(2 ^ 63) ≤ x) (h1 : x < 2 ^ 63) : IntKind.wrap .i64 x = x := by
  cases x with
  | ofNat n => exact wrap_nat (by simp at h1; omega)
  | negSucc n =>
    have hn : n < 2 ^ 63 := by omega
    unfold IntKind.wrap
    have e1 : (Int.negSucc n) % (2 ^ IntKind.i64.bits : Int) = Int.ofNat (2 ^ 64 - 1 - n) := by
      show (Int.negSucc n) % (2 ^ 64 : Int) = _
      simp only [Int.ofNat_eq_natCast]
      omega
    simp only [e1]
    have h3 : decide ((Int.ofNat (2 ^ 64 - 1 - n) : Int) ≥ (2 ^ (IntKind.i64.bits - 1) : Int)) = true := by
      refine decide_eq_true ?_
      show ((2 ^ 64 - 1 - n : Nat) : Int) ≥ 2 ^ 63
      omega
    simp only [h3, Bool.and_true, show IntKind.i64.signed = true from rfl, if_true]
    show ((2 ^ 64 - 1 - n : Nat) : Int) - 2 ^ 64 = _
    omega
end Go.Proofs.YtegcmgjldapnmaaGreatDoor.Nim
namespace Go.Proofs.YtegcmgjldapnmaaGreatDoor
open Go Go.Eng Nim Oct
set_option maxRecDepth 100000
set_option maxHeartbeats 4000000
abbrev J (a : Nat) : Value := .int .i64 (Int.ofNat a)
abbrev I (a : Int) : Value := .int .i64 a
noncomputable abbrev Ev (lf n f : Nat) (l : List Value) (h : Hp) := evInv Tryz.prog orc lf n (.fn f l) h
theorem ok_nat {a b : Nat} (h : decide (Int.ofNat a < Int.ofNat b) = true) : a < b := by have := of_decide_eq_true h; simpa using this
theorem no_nat {a b : Nat} (h : decide (Int.ofNat a < Int.ofNat b) = false) : b ≤ a := by have := of_decide_eq_false h; simp at this; omega
theorem wrap_add {a b : Nat} (h : a + b < 2 ^ 62) : IntKind.wrap .i64 (Int.ofNat a + Int.ofNat b) = Int.ofNat (a + b) := wrap_nat (by omega)
theorem wrap_sub {a b : Nat} (h : b ≤ a) (h2 : a < 2 ^ 62) : IntKind.wrap .i64 (Int.ofNat a - Int.ofNat b) = Int.ofNat (a - b) := by
  have : (Int.ofNat a - Int.ofNat b) = Int.ofNat (a - b) := by
    show (a : Int) - (b : Int) = ((a - b : Nat) : Int)
    omega
  rw [this]
  exact wrap_nat (by omega)
theorem slz32 : SlTz Tryz.prog 22 3 1 := ⟨by kernel_rfl, by kernel_rfl, ⟨_, rfl, by kernel_rfl⟩, ⟨_, rfl, by kernel_rfl⟩, by decide⟩
theorem agI : isAggT Tryz.prog 3 = some false := by kernel_rfl
theorem agB : isAggT Tryz.prog 4 = some false := by kernel_rfl
def strL (l : List Nat) : ByteArray := ⟨(l.map fun n => n.toUInt8).toArray⟩
theorem strL_size (l : List Nat) : (strL l).size = l.length := by
  show ((l.map fun n => n.toUInt8).toArray).size = _
  simp
theorem strL_app (a b : List Nat) : strL a ++ strL b = strL (a ++ b) := by
  apply ByteArray.ext
  rw [ByteArray.data_append]
  show (a.map fun n => n.toUInt8).toArray ++ (b.map fun n => n.toUInt8).toArray = _
  simp [strL]
theorem strL_of (s : ByteArray) : ∃ l : List Nat, s = strL l ∧ ∀ n ∈ l, n < 256 := by
  refine ⟨s.data.toList.map UInt8.toNat, ?_, fun n hn => ?_⟩
  · apply ByteArray.ext
    show _ = ((s.data.toList.map UInt8.toNat).map fun n => n.toUInt8).toArray
    rw [List.map_map, show ((fun n : Nat => n.toUInt8) ∘ UInt8.toNat) = id from funext fun x => by simp, List.map_id]
  · obtain ⟨u, _, rfl⟩ := List.mem_map.1 hn
    exact u.toNat_lt
noncomputable def pureX (c : Sem Value) : Option Value := match pureRun Tryz.prog (do pure (Next.value (← c)) : Sem Next) with
  | some (.value v) => match flat v with
    | true => some v
    | false => none
  | _ => none
theorem pureX_of {c : Sem Value} {v : Value} (h : pureRun Tryz.prog c = some v) (hf : flat v = true) : pureX c = some v := by
  unfold pureX
  have : pureRun Tryz.prog (do pure (Next.value (← c)) : Sem Next) = some (.value v) := by
    rw [pureRun_bind, h]; rfl
  rw [this]
  simp only [hf]
theorem u9 : Tryz.prog.underlying 9 = some .string := by kernel_rfl
theorem hu9 : pureRun Tryz.prog (underlying 9) = some .string := by kernel_rfl
theorem u70 : Tryz.prog.underlying 43 = some (.slice 5) := by kernel_rfl
theorem u5 : Tryz.prog.underlying 5 = some (.int .u8) := by kernel_rfl
theorem strL_get {l : List Nat} {i n : Nat} (h : l[i]? = some n) : (strL l)[i]? = some n.toUInt8 := by
  have hi : i < l.length := (List.getElem?_eq_some_iff.1 h).1
  have hs : i < (strL l).size := by rw [strL_size]; exact hi
  rw [getElem?_pos (strL l) i hs]
  congr 1
  show ((l.map fun n => n.toUInt8).toArray)[i]'_ = _
  have := (List.getElem?_eq_some_iff.1 h).2
  simp [this]
theorem x_index {l : List Nat} {i n : Nat} (h : l[i]? = some n) (hn : n < 256) : pureX (Instr.index 9 (.string (strL l)) (J i)) = some (.int .u8 (Int.ofNat n)) := by
  refine pureX_of ?_ rfl
  have e : (strL l)[(Int.ofNat i).toNat]? = some n.toUInt8 := strL_get h
  have h0 : (0 : Int) ≤ Int.ofNat i := Int.natCast_nonneg i
  have hm : n.toUInt8.toNat = n := by simp; omega
  unfold Instr.index
  simp only [asIntOf, pureRun_bind, hu9, pure, pureRun, Option.bind_some, if_pos h0, e]
  rw [hm]
  rfl
theorem x_add {a b : List Nat} (h : a.length + b.length < 2 ^ 62) : pureX (binOp .add 9 (.string (strL a)) (.string (strL b))) = some (.string (strL (a ++ b))) := by
  refine pureX_of ?_ rfl
  rw [← strL_app]
  have hs : ¬ ((((strL a).size + (strL b).size : Nat) : Int) > IntKind.i64.max) := by
    rw [strL_size, strL_size]
    show ¬ ((9223372036854775807 : Int) < ((a.length + b.length : Nat) : Int))
    omega
  simp only [binOp, Op.stringOp, hs, if_false]
  rfl
theorem x_byte {g : Hp} {q k c : Nat} {z : Int} {e : TypeId} {o : Bool} (hz : z = Int.ofNat k) (hg : g.get q = some (.cells [.int .u8 z] e o)) : bytesStr Tryz.prog g 43 9 (.slice (some ⟨q, 0, none⟩) 1 c) = some (.string (strL [k])) := by
  subst hz
  have hl : elems g 1 1 (.slice (some ⟨q, 0, none⟩) 1 c) = some [.int .u8 (Int.ofNat k)] := by
    simp only [elems, loadN, hg]; rfl
  simp only [bytesStr, u70, u9, u5, hl]
  rfl
theorem strL_list (l : List Nat) : (strL l).toList = l.map fun n => n.toUInt8 := by
  rw [ByteArray.toList_eq]
  show ((l.map fun n => n.toUInt8).toArray).toList = _
  simp
theorem strL_inj {a b : List Nat} (ha : ∀ n ∈ a, n < 256) (hb : ∀ n ∈ b, n < 256) : ((strL a).toList == (strL b).toList) = decide (a = b) := by
  rw [strL_list, strL_list]
  have key : ∀ (a b : List Nat), (∀ n ∈ a, n < 256) → (∀ n ∈ b, n < 256) → (a.map fun n => n.toUInt8) = (b.map fun n => n.toUInt8) → a = b := by
    intro a
    induction a with
    | nil => intro b _ _ h; cases b with
      | nil => rfl
      | cons y q => simp at h
    | cons x r ih =>
      intro b h1 h2 h
      cases b with
      | nil => simp at h
      | cons y q =>
        simp only [List.map_cons, List.cons.injEq] at h
        have hx := h1 x (by simp)
        have hy := h2 y (by simp)
        have : x.toUInt8.toNat = y.toUInt8.toNat := by rw [h.1]
        have hxy : x = y := by simp at this; omega
        rw [hxy, ih q (fun n hn => h1 n (by simp [hn])) (fun n hn => h2 n (by simp [hn])) h.2]
  by_cases h : a = b
  · subst h; simp
  · rw [decide_eq_false h]
    exact beq_eq_false_iff_ne.2 fun h2 => h (key a b ha hb h2)
theorem strL_cut (l : List Nat) (a b : Nat) : (strL l).extract a b = strL ((l.take b).drop a) := by
  apply ByteArray.ext
  rw [ByteArray.data_extract]
  show ((l.map fun n => n.toUInt8).toArray).extract a b = (((l.take b).drop a).map fun n => n.toUInt8).toArray
  rw [List.extract_toArray, List.extract_eq_take_drop, List.map_drop, List.map_take, List.drop_take]
theorem x_drop {l : List Nat} {k : Nat} (h : k ≤ l.length) : pureX (Instr.sliceAt 9 (.string (strL l)) (some (J k)) none none) = some (.string (strL (l.drop k))) := by
  refine pureX_of ?_ rfl
  have h0 : (0 : Int) ≤ Int.ofNat k ∧ Int.ofNat k ≤ ((strL l).size : Int) := ⟨Int.natCast_nonneg k, by rw [strL_size]; show (k : Int) ≤ _; omega⟩
  unfold Instr.sliceAt Instr.slice Instr.sliceBounds Instr.sliceBound
  simp only [pureRun_bind, hu9, pureRun, pure, asIntOf, Option.bind_some, if_pos h0, Option.isSome_none, Bool.false_eq_true, if_false]
  rw [strL_size, strL_cut, List.take_length]
  rfl
theorem x_take {l : List Nat} {k : Nat} (h : k ≤ l.length) : pureX (Instr.sliceAt 9 (.string (strL l)) none (some (J k)) none) = some (.string (strL (l.take k))) := by
  refine pureX_of ?_ rfl
  have h0 : (0 : Int) ≤ Int.ofNat k ∧ Int.ofNat k ≤ ((strL l).size : Int) := ⟨Int.natCast_nonneg k, by rw [strL_size]; show (k : Int) ≤ _; omega⟩
  unfold Instr.sliceAt Instr.slice Instr.sliceBounds Instr.sliceBound
  simp only [pureRun_bind, hu9, pureRun, pure, asIntOf, Option.bind_some, if_pos h0, Option.isSome_none, Bool.false_eq_true, if_false]
  rw [strL_cut, List.drop_zero]
  rfl
def codeD (l : List Nat) : List Nat := if l = [] then [7] else (l.take 8).map (· % 8)
def codeS (d : List Nat) : List Nat := [48, 46] ++ d.map (48 + ·)
theorem u8_nat {a : Nat} (h : a < 256) : IntKind.wrap .u8 (Int.ofNat a) = Int.ofNat a := Int.emod_eq_of_lt (Int.natCast_nonneg _) (by show ((a : Nat) : Int) < 2 ^ 8; omega)
theorem code_len {l : List Nat} {i : Nat} (h1 : 0 < l.length) (h2 : 0 < i) : (Int.ofNat (strL ([48, 46] ++ (l.take i).map (fun n => 48 + n % 8))).size == Int.ofNat 2) = false := by
  rw [strL_size, List.length_append, List.length_map, List.length_take]
  refine beq_eq_false_iff_ne.2 fun h => ?_
  have : [48, 46].length + min i l.length = 2 := Int.ofNat.inj h
  simp only [List.length_cons, List.length_nil] at this
  omega
theorem code_of (l : List Nat) (hl : ∀ n ∈ l, n < 256) (lf m : Nat) (hlf : 300 ≤ lf) (h : Hp) : ∃ v h', Ev lf (m + 1) 5 [.string (strL l)] h = some (v, h') ∧ v = .string (strL (codeS (codeD l))) ∧ h.Ext h' := by
  refine fnS_ok (Q := fun v h' => v = .string (strL (codeS (codeD l))) ∧ h.Ext h') ?_
  have W := Sto.start h
  refine sy_loop 0 lf h (α := Nat) (fun x => [(0, .string (strL l)), (3, .string (strL ([48, 46] ++ (l.take x).map (fun n => 48 + n % 8)))), (4, J x)]) (fun x g => x ≤ 8 ∧ x ≤ l.length ∧ h.Ext g) (fun x _ => 8 - x) 0 (by kernel_rfl) (by kernel_rfl)
    ⟨by kernel_rfl, by kernel_rfl, by kernel_rfl, trivial⟩ (show 8 - 0 < lf by omega) ⟨Nat.zero_le _, Nat.zero_le _, Hp.Ext.refl h⟩ ?_
  rintro m1 i f1 g ⟨hi, hil, X⟩ ih
  have W := Sto.start g
  refine ok_go 2 ?_
  refine sy_test 0 (decide (Int.ofNat i < Int.ofNat (strL l).size)) (by kernel_rfl) ?_ ?_
  · intro ht
    have ht : i < l.length := by have := ok_nat ht; rwa [strL_size] at this
    refine sy_test 3 (decide (Int.ofNat i < 8)) (by kernel_rfl) ?_ ?_
    · intro ht2
      have hi8 : i < 8 := ok_nat ht2
      have hn : l[i]? = some l[i] := List.getElem?_eq_getElem ht
      have hn2 : l[i] < 256 := hl _ (List.getElem_mem ht)
      refine sy_load 0 (r := pureX (Instr.index 9 (.string (strL l)) (J i))) (h' := g) (by kernel_rfl) (x_index hn hn2) ?_
      refine ow_new 2 W (AObj.cells [Value.int IntKind.u8 (IntKind.wrap IntKind.u8 (48 + Int.tmod (Int.ofNat l[i]) 8))] 5 false) (fun q => Value.slice (some { block := q, off := 0 }) 1 2) (by kernel_rfl) fun k1 nk1 Wk1 => ?_
      have W := Wk1
      have hz : IntKind.wrap .u8 (48 + (Int.ofNat l[i]).tmod 8) = Int.ofNat (48 + l[i] % 8) := by
        show IntKind.wrap .u8 (Int.ofNat (48 + l[i] % 8)) = _
        exact u8_nat (by omega)
      refine sy_load 0 (r := bytesStr Tryz.prog k1 43 9 (.slice (some ⟨g.next, 0, none⟩) 1 2)) (h' := k1) (by kernel_rfl) (x_byte hz (W.get 0 rfl)) ?_
      refine ok_go 0 ?_
      refine sy_load 0 (r := pureX (binOp .add 9 (.string (strL ([48, 46] ++ (l.take i).map (fun n => 48 + n % 8)))) (.string (strL [48 + l[i] % 8])))) (h' := k1) (by kernel_rfl) (x_add (by simp; omega)) ?_
      refine ok_go 1 ?_
      have hwi : IntKind.wrap .i64 (Int.ofNat (i + 1)) = Int.ofNat (i + 1) := wrap_nat (by omega)
      have ha : [48, 46] ++ (l.take i).map (fun n => 48 + n % 8) ++ [48 + l[i] % 8] = [48, 46] ++ (l.take (i + 1)).map (fun n => 48 + n % 8) := by
        rw [List.take_succ_eq_append_getElem ht, List.map_append, List.append_assoc]; rfl
      exact sy_next 0 _ k1 (by kernel_rfl) (by kernel_rfl) (ih (i + 1) _ k1 ⟨by omega, by omega, X.trans W.ext⟩ (show 8 - (i + 1) < 8 - i by omega) ⟨by kernel_rfl, (by kernel_rfl : _ = Value.string (strL ([48, 46] ++ (l.take i).map (fun n => 48 + n % 8) ++ [48 + l[i] % 8]))).trans (by rw [ha]), (by kernel_rfl : _ = Value.int .i64 (IntKind.wrap .i64 (Int.ofNat (i + 1)))).trans (by rw [hwi]), trivial⟩)
    · intro ht2
      have hi8 : 8 ≤ i := no_nat (b := 8) ht2
      refine ok_go 2 ?_
      by_cases hl0 : l = []
      · subst hl0
        obtain rfl : i = 0 := by simpa using hil
        refine sy_done 2 (v := Value.string (strL ([48, 46] ++ List.map (fun n => 48 + n % 8) (List.take 0 [])) ++ { data := #[55] })) (h := g) (by kernel_rfl) ?_
        exact ⟨rfl, X⟩
      · have hlp : 0 < l.length := List.length_pos_iff.2 hl0
        refine sy_no 0 (b := Int.ofNat (strL ([48, 46] ++ (l.take i).map (fun n => 48 + n % 8))).size == Int.ofNat 2) (by kernel_rfl) (code_len hlp (by omega)) ?_
        refine sy_done 0 (v := Value.string (strL ([48, 46] ++ List.map (fun n => 48 + n % 8) (List.take i l)))) (h := g) (by kernel_rfl) ?_
        refine ⟨?_, X⟩
        have ht8 : l.take i = l.take 8 := by
          rcases Nat.lt_or_ge i l.length with h1 | h1
          · rw [show i = 8 by omega]
          · rw [List.take_of_length_le h1, List.take_of_length_le (by omega)]
        simp only [codeS, codeD]
        rw [if_neg hl0, List.map_map, ht8]
        rfl
  · intro ht
    have ht : l.length ≤ i := by have := no_nat ht; rw [strL_size] at this; omega
    refine ok_go 5 ?_
    by_cases hl0 : l = []
    · subst hl0
      obtain rfl : i = 0 := by simpa using hil
      refine sy_done 2 (v := Value.string (strL ([48, 46] ++ List.map (fun n => 48 + n % 8) (List.take 0 [])) ++ { data := #[55] })) (h := g) (by kernel_rfl) ?_
      exact ⟨rfl, X⟩
    · have hlp : 0 < l.length := List.length_pos_iff.2 hl0
      refine sy_no 0 (b := Int.ofNat (strL ([48, 46] ++ (l.take i).map (fun n => 48 + n % 8))).size == Int.ofNat 2) (by kernel_rfl) (code_len hlp (by omega)) ?_
      refine sy_done 0 (v := Value.string (strL ([48, 46] ++ List.map (fun n => 48 + n % 8) (List.take i l)))) (h := g) (by kernel_rfl) ?_
      refine ⟨?_, X⟩
      have ht8 : l.take i = l.take 8 := by
        rcases Nat.lt_or_ge i l.length with h1 | h1
        · rw [show i = 8 by omega]
        · rw [List.take_of_length_le h1, List.take_of_length_le (by omega)]
      simp only [codeS, codeD]
      rw [if_neg hl0, List.map_map, ht8]
      rfl
theorem has_of (l : List Nat) (lf m : Nat) (hl : ∀ n ∈ l, n < 256) (h : Hp) : Ev lf (m + 1) 87 [.string (strL l), .string (strL [48, 46])] h = some (.bool (decide (l.take 2 = [48, 46])), h) := by
  refine fn_eq ?_
  refine sy_test 3 (decide (Int.ofNat (ByteArray.size (strL l)) ≥ Int.ofNat (ByteArray.size (strL [48, 46])))) (by kernel_rfl) ?_ ?_
  · intro ht
    have h2 : 2 ≤ l.length := by
      have := of_decide_eq_true ht
      rw [strL_size] at this
      exact Int.ofNat_le.1 this
    refine ok_go 4 ?_
    refine sy_load 0 (r := pureX (Instr.sliceAt 9 (.string (strL l)) none (some (J 2)) none)) (h' := h) (by kernel_rfl) (x_take h2) ?_
    refine sy_done 4 (v := Value.bool (ByteArray.toList (strL (List.take 2 l)) == ByteArray.toList (strL [48, 46]))) (h := h) (by kernel_rfl) ?_
    exact ⟨congrArg Value.bool (strL_inj (fun n hn => hl n (List.mem_of_mem_take hn)) (by decide)), rfl⟩
  · intro ht
    have h2 : l.length < 2 := by
      have := of_decide_eq_false ht
      rw [strL_size] at this
      have := Int.ofNat_lt.1 (Int.not_le.1 this)
      exact this
    refine sy_done 6 (v := Value.bool false) (h := h) (by kernel_rfl) ?_
    refine ⟨?_, rfl⟩
    rw [decide_eq_false]
    intro h3
    have := congrArg List.length h3
    rw [List.length_take] at this
    simp at this
    omega
def SetB (q : Nat) (f : Nat → Bool) (h : Hp) : Prop := ∃ e o, h.get q = some (.cells (cellsF 256 fun c => .bool (f c)) e o)
theorem contains_of (f : Nat → Bool) (q lf m c : Nat) (hc : c < 256) (h : Hp) (A : SetB q f h) : Ev lf (m + 1) 88 [ptr q 0, .int .u8 (Int.ofNat c)] h = some (.bool (f c), h) := by
  refine fn_eq ?_
  have W := Sto.start h
  obtain ⟨e, o, A⟩ := A
  refine sy_load 1 (r := indexAddrOp Tryz.prog 86 (ptr (q) (0)) (Value.int IntKind.u8 (Int.ofNat c))) (h' := h) (by kernel_rfl) (idxA0 (e := 4) (n := 256) (by kernel_rfl) (by kernel_rfl) (by omega)) ?_
  refine sy_load 0 (r := loadT Tryz.prog h 4 (ptr q c)) (h' := h) (v := .bool (f c)) (by kernel_rfl) (load1 agB A (cellsF_get hc)) ?_
  refine sy_done 0 (v := Value.bool (f c)) (h := h) (by kernel_rfl) ?_
  exact ⟨rfl, rfl⟩
theorem cutp_of (l : List Nat) (lf m : Nat) (h : Hp) (hp : ∀ h, Ev lf m 87 [.string (strL l), .string (strL [48, 46])] h = some (.bool (decide (l.take 2 = [48, 46])), h)) :
    Ev lf (m + 1) 56 [.string (strL l), .string (strL [48, 46])] h = some (.tuple #[.string (strL (if l.take 2 = [48, 46] then l.drop 2 else l)), .bool (decide (l.take 2 = [48, 46]))], h) := by
  refine fn_eq ?_
  have W := Sto.start h
  refine sy_call 0 (by kernel_rfl) (hp (h)) ?_
  by_cases hd : l.take 2 = [48, 46]
  · rw [decide_eq_true hd, if_pos hd]
    have h2 : 2 ≤ l.length := by
      have := congrArg List.length hd
      rw [List.length_take] at this
      simp at this
      omega
    refine ok_go 3 ?_
    refine sy_load 0 (r := pureX (Instr.sliceAt 9 (.string (strL l)) (some (J 2)) none none)) (h' := h) (by kernel_rfl) (x_drop h2) ?_
    refine sy_done 0 (v := Value.tuple { toList := [Value.string (strL (List.drop 2 l)), Value.bool true] }) (h := h) (by kernel_rfl) ?_
    exact ⟨rfl, rfl⟩
  · rw [decide_eq_false hd, if_neg hd]
    refine sy_done 2 (v := Value.tuple { toList := [Value.string (strL l), Value.bool false] }) (h := h) (by kernel_rfl) ?_
    exact ⟨rfl, rfl⟩
theorem cut_of (l : List Nat) (lf m : Nat) (h : Hp) (hp : ∀ h, Ev lf m 56 [.string (strL l), .string (strL [48, 46])] h = some (.tuple #[.string (strL (if l.take 2 = [48, 46] then l.drop 2 else l)), .bool (decide (l.take 2 = [48, 46]))], h)) :
    Ev lf (m + 1) 41 [.string (strL l), .string (strL [48, 46])] h = some (.tuple #[.string (strL (if l.take 2 = [48, 46] then l.drop 2 else l)), .bool (decide (l.take 2 = [48, 46]))], h) := by
  refine fn_eq ?_
  refine sy_call 0 (by kernel_rfl) (hp (h)) ?_
  refine sy_done 2 (v := Value.tuple { toList := [Value.string (strL (if List.take 2 l = [48, 46] then List.drop 2 l else l)), Value.bool (decide (List.take 2 l = [48, 46]))] }) (h := h) (by kernel_rfl) ?_
  exact ⟨rfl, rfl⟩
theorem upd_take {l : List Nat} {i : Nat} (ht : i < l.length) : cellsF 256 (updF (fun c => Value.bool ((l.take i).contains c)) l[i] (.bool true)) = cellsF 256 (fun c => Value.bool ((l.take (i + 1)).contains c)) := by
  refine cellsF_congr fun c _ => ?_
  rw [List.take_succ_eq_append_getElem ht]
  unfold updF
  by_cases hc : c = l[i]
  · rw [if_pos hc]
    exact congrArg Value.bool (List.contains_iff_mem.2 (List.mem_append_right _ (List.mem_singleton.2 hc))).symm
  · rw [if_neg hc]
    show Value.bool ((l.take i).contains c) = _
    have : (l.take i).contains c = (l.take i ++ [l[i]]).contains c := by
      rw [Bool.eq_iff_iff, List.contains_iff_mem, List.contains_iff_mem, List.mem_append, List.mem_singleton]
      exact ⟨.inl, fun h => h.resolve_right hc⟩
    rw [this]
theorem cellsF_all {N : Nat} {f : Nat → Value} (h : ∀ c, scalar (f c) = true) : (cellsF N f).all scalar = true := by
  rw [List.all_eq_true]
  intro v hv
  obtain ⟨c, _, rfl⟩ := List.mem_map.1 hv
  exact h c
theorem ow_storeAF {P : Program} {h H : Hp} {l : List (Nat × AObj)} {Q : Value → Hp → Prop} (n k : Nat) {t : SA} (W : Sto h H l) {i N : Nat} {T : TypeId} {f : Nat → Value} {cs : List Value} {e : TypeId} {opn : Bool} (hk : l[k]? = some (i, .cells cs e opn)) (hl : N = cs.length) (hs : sizeT P T = some N) (hf : ∀ c, scalar (f c) = true)
    (he : askR (goS n t) = (storeT P H T (ptr i 0) (.agg (cellsF N f).toArray)).map (undef, ·)) (hq : ∀ H', H'.next = H.next → Sto h H' (l.set k (i, .cells (cellsF N f) e opn)) → Ok Q (askK (goS n t) undef H')) : Ok Q t :=
  ow_storeA n k W (cellsF N f) hk rfl (by rw [cellsF_len]; exact hl) (by rw [cellsF_len]; exact hs) (cellsF_all hf) he hq
theorem set_of (l : List Nat) (hl : ∀ n ∈ l, n < 128) (hll : l.length ≤ 100) (lf m : Nat) (hlf : 300 ≤ lf) (h : Hp) : ∃ v h', Ev lf (m + 1) 59 [.string (strL l)] h = some (v, h') ∧ v = .tuple #[.agg (cellsF 256 fun c => .bool (l.contains c)).toArray, .bool true] ∧ h.Ext h' := by
  refine fnS_ok (Q := fun v h' => v = .tuple #[.agg (cellsF 256 fun c => .bool (l.contains c)).toArray, .bool true] ∧ h.Ext h') ?_
  have W := Sto.start h
  refine ow_new 0 W (.cells (cellsF 256 fun _ => .bool false) 86 false) (fun q => ptr q 0) (by kernel_rfl) fun g1 ng1 W => ?_
  refine sy_loop 0 lf g1 (α := Nat) (fun x => [(0, .string (strL l)), (2, ptr h.next 0), (3, .bool false), (4, J x)]) (fun x g => x ≤ l.length ∧ Sto h g [(h.next, .cells (cellsF 256 fun c => .bool ((l.take x).contains c)) 86 false)]) (fun x _ => l.length - x) 0 (by kernel_rfl) (by kernel_rfl)
    ⟨by kernel_rfl, by kernel_rfl, by kernel_rfl, by kernel_rfl, trivial⟩ (show l.length - 0 < lf by omega) ⟨Nat.zero_le _, W⟩ ?_
  rintro m1 i f1 g ⟨hi, W⟩ ih
  refine ok_go 2 ?_
  refine sy_test 0 (decide (Int.ofNat i < Int.ofNat (strL l).size)) (by kernel_rfl) ?_ ?_
  · intro ht
    have ht : i < l.length := by have := ok_nat ht; rwa [strL_size] at this
    have hn : l[i]? = some l[i] := List.getElem?_eq_getElem ht
    have hn2 : l[i] < 128 := hl _ (List.getElem_mem ht)
    refine ok_go 0 ?_
    refine sy_load 0 (r := pureX (Instr.index 9 (.string (strL l)) (J i))) (h' := g) (by kernel_rfl) (x_index hn (by omega)) ?_
    refine ok_go 1 ?_
    refine sy_no 0 (b := decide (Int.ofNat l[i] ≥ 128)) (by kernel_rfl) ?_ ?_
    · exact decide_eq_false (by show ¬ ((128 : Int) ≤ (l[i] : Int)); omega)
    refine sy_load 0 (r := indexAddrOp Tryz.prog 86 (ptr (Hp.next h) (0)) (Value.int IntKind.u8 (Int.ofNat l[i]))) (h' := g) (by kernel_rfl) (idxA0 (e := 4) (n := 256) (by kernel_rfl) (by kernel_rfl) (by omega)) ?_
    refine ow_storeF (P := Tryz.prog) (T := 4) (off := l[i]) (v := Value.bool true) 0 0 W rfl (by omega) (by kernel_rfl) (by first | rfl | assumption) (by kernel_rfl) fun k1 nk1 Wk1 => ?_
    have W := Wk1
    refine ok_go 1 ?_
    have hw : IntKind.wrap .i64 (Int.ofNat (i + 1)) = Int.ofNat (i + 1) := wrap_nat (by omega)
    rw [List.set_cons_zero, upd_take ht] at W
    exact sy_next 0 _ k1 (by kernel_rfl) (by kernel_rfl) (ih (i + 1) _ k1 ⟨ht, W⟩ (show l.length - (i + 1) < l.length - i by omega) ⟨by kernel_rfl, by kernel_rfl, by kernel_rfl, (by kernel_rfl : _ = Value.int .i64 (IntKind.wrap .i64 (Int.ofNat (i + 1)))).trans (by rw [hw]), trivial⟩)
  · intro ht
    have ht : l.length ≤ i := by have := no_nat ht; rwa [strL_size] at this
    have hti : l.take i = l := List.take_of_length_le ht
    rw [hti] at W
    refine ok_go 0 ?_
    refine ow_loadA (P := Tryz.prog) (T := 86) (z := 256) 0 0 W rfl (by kernel_rfl) (by kernel_rfl) (takeN_all (cellsF 256 fun c => Value.bool (l.contains c))) (by kernel_rfl) ?_
    refine ow_storeAF (P := Tryz.prog) (T := 86) (N := 256) (f := fun c => Value.bool (l.contains c)) 0 0 W rfl (by rw [cellsF_len]) (by kernel_rfl) (fun c => rfl) (by kernel_rfl) fun k1 nk1 W => ?_
    refine ok_go 0 ?_
    refine ow_loadA (P := Tryz.prog) (T := 86) (z := 256) 0 0 W rfl (by kernel_rfl) (by kernel_rfl) (takeN_all (cellsF 256 fun c => Value.bool (l.contains c))) (by kernel_rfl) ?_
    refine sy_done 0 (v := Value.tuple { toList := [Value.agg { toList := cellsF 256 fun c => Value.bool (List.contains l c) }, Value.bool true] }) (h := k1) (by kernel_rfl) ?_
    exact ⟨rfl, W.ext⟩
theorem right_of (f : Nat → Bool) (q : Nat) (l : List Nat) (hl : ∀ n ∈ l, n < 256) (hll : l.length ≤ 100000) (lf m : Nat) (hlf : l.length < lf) (h : Hp) (co : ∀ c, c < 256 → Ev lf m 88 [ptr q 0, .int .u8 (Int.ofNat c)] h = some (.bool (f c), h)) :
    ∃ v h', Ev lf (m + 1) 61 [.string (strL l), ptr q 0] h = some (v, h') ∧ h' = h ∧ ∃ k, v = .string (strL (l.take k)) ∧ k ≤ l.length ∧ (∀ j, k ≤ j → ∀ n, l[j]? = some n → f n = true) ∧ (k = 0 ∨ ∃ n, l[k - 1]? = some n ∧ f n = false) := by
  refine fnS_ok (Q := fun v h' => h' = h ∧ ∃ k, v = .string (strL (l.take k)) ∧ k ≤ l.length ∧ (∀ j, k ≤ j → ∀ n, l[j]? = some n → f n = true) ∧ (k = 0 ∨ ∃ n, l[k - 1]? = some n ∧ f n = false)) ?_
  have W := Sto.start h
  refine sy_loop 0 lf h (α := Nat) (fun d => [(0, .string (strL (l.take (l.length - d)))), (1, ptr q 0)]) (fun d g => d ≤ l.length ∧ g = h ∧ ∀ j, l.length - d ≤ j → ∀ n, l[j]? = some n → f n = true) (fun d _ => l.length - d) 0 (by kernel_rfl) (by kernel_rfl)
    ⟨(by kernel_rfl : _ = Value.string (strL l)).trans (by rw [Nat.sub_zero, List.take_length]), by kernel_rfl, trivial⟩ (show l.length - 0 < lf by omega) ⟨Nat.zero_le _, rfl, fun j hj n hn => by have := (List.getElem?_eq_some_iff.1 hn).1; omega⟩ ?_
  rintro m1 d f1 g ⟨hd, rfl, ha⟩ ih
  have hlen : (strL (l.take (l.length - d))).size = l.length - d := by rw [strL_size, List.length_take]; omega
  have W := Sto.start g
  refine ok_go 2 ?_
  refine sy_test 0 (decide (Int.ofNat (ByteArray.size (strL (List.take (List.length l - d) l))) > 0)) (by kernel_rfl) ?_ ?_
  · intro ht
    have hlt : d < l.length := by
      have : (0 : Int) < ((strL (l.take (l.length - d))).size : Int) := of_decide_eq_true ht
      rw [hlen] at this
      omega
    have hk : l[l.length - d - 1]? = some l[l.length - d - 1] := List.getElem?_eq_getElem (by omega)
    have hk2 : (l.take (l.length - d))[l.length - d - 1]? = some l[l.length - d - 1] := by rw [List.getElem?_take, if_pos (by omega)]; exact hk
    have hn2 : l[l.length - d - 1] < 256 := hl _ (List.getElem_mem _)
    have hw : IntKind.wrap .i64 (Int.ofNat (strL (l.take (l.length - d))).size - 1) = Int.ofNat (l.length - d - 1) := by
      rw [hlen]; exact wrap_sub (b := 1) (by omega) (by omega)
    refine ok_go 2 ?_
    refine sy_load 0 (r := pureX (Instr.index 9 (.string (strL (l.take (l.length - d)))) (I (IntKind.wrap .i64 (Int.ofNat (strL (l.take (l.length - d))).size - 1))))) (h' := g) (by kernel_rfl) (by rw [hw]; exact x_index hk2 hn2) ?_
    have co := co _ hn2
    refine sy_call 0 (by kernel_rfl) (co) ?_
    cases hf : f l[l.length - d - 1] with
    | false =>
      refine sy_done 2 (v := Value.string (strL (List.take (List.length l - d) l))) (h := g) (by kernel_rfl) ?_
      exact ⟨rfl, _, rfl, by omega, ha, .inr ⟨_, hk, hf⟩⟩
    | true =>
      refine ok_go 4 ?_
      refine sy_load 0 (r := pureX (Instr.sliceAt 9 (.string (strL (l.take (l.length - d)))) none (some (I (IntKind.wrap .i64 (Int.ofNat (strL (l.take (l.length - d))).size - 1)))) none)) (h' := g) (by kernel_rfl) (by rw [hw]; exact x_take (by rw [List.length_take]; omega)) ?_
      refine ok_go 0 ?_
      have e : (l.take (l.length - d)).take (l.length - d - 1) = l.take (l.length - (d + 1)) := by rw [List.take_take]; congr 1; omega
      exact sy_next 0 _ g (by kernel_rfl) (by kernel_rfl) (ih (d + 1) _ g ⟨hlt, rfl, fun j hj n hn => by
        rcases Nat.lt_or_ge j (l.length - d) with h1 | h1
        · obtain rfl : j = l.length - d - 1 := by omega
          rw [hk] at hn
          cases hn
          exact hf
        · exact ha j h1 n hn⟩ (show l.length - (d + 1) < l.length - d by omega) ⟨(by kernel_rfl : _ = Value.string (strL ((l.take (l.length - d)).take (l.length - d - 1)))).trans (by rw [e]), by kernel_rfl, trivial⟩)
  · intro ht
    have hlt : d = l.length := by
      have : ¬ (0 : Int) < ((strL (l.take (l.length - d))).size : Int) := of_decide_eq_false ht
      rw [hlen] at this
      omega
    refine sy_done 0 (v := Value.string (strL (List.take (List.length l - d) l))) (h := g) (by kernel_rfl) ?_
    exact ⟨rfl, _, rfl, by omega, ha, .inl (by omega)⟩
theorem left_of (f : Nat → Bool) (q : Nat) (l : List Nat) (hl : ∀ n ∈ l, n < 256) (hll : l.length ≤ 100000) (lf m : Nat) (hlf : l.length < lf) (h : Hp) (co : ∀ c, c < 256 → Ev lf m 88 [ptr q 0, .int .u8 (Int.ofNat c)] h = some (.bool (f c), h)) :
    ∃ v h', Ev lf (m + 1) 60 [.string (strL l), ptr q 0] h = some (v, h') ∧ h' = h ∧ ∃ k, v = .string (strL (l.drop k)) ∧ k ≤ l.length ∧ (∀ j, j < k → ∀ n, l[j]? = some n → f n = true) ∧ (k = l.length ∨ ∃ n, l[k]? = some n ∧ f n = false) := by
  refine fnS_ok (Q := fun v h' => h' = h ∧ ∃ k, v = .string (strL (l.drop k)) ∧ k ≤ l.length ∧ (∀ j, j < k → ∀ n, l[j]? = some n → f n = true) ∧ (k = l.length ∨ ∃ n, l[k]? = some n ∧ f n = false)) ?_
  have W := Sto.start h
  refine sy_loop 0 lf h (α := Nat) (fun d => [(0, .string (strL (l.drop d))), (1, ptr q 0)]) (fun d g => d ≤ l.length ∧ g = h ∧ ∀ j, j < d → ∀ n, l[j]? = some n → f n = true) (fun d _ => l.length - d) 0 (by kernel_rfl) (by kernel_rfl)
    ⟨(by kernel_rfl : _ = Value.string (strL l)).trans (by rw [List.drop_zero]), by kernel_rfl, trivial⟩ (show l.length - 0 < lf by omega) ⟨Nat.zero_le _, rfl, fun j hj => by omega⟩ ?_
  rintro m1 d f1 g ⟨hd, rfl, ha⟩ ih
  have hlen : (strL (l.drop d)).size = l.length - d := by rw [strL_size, List.length_drop]
  have W := Sto.start g
  refine ok_go 2 ?_
  refine sy_test 0 (decide (Int.ofNat (ByteArray.size (strL (List.drop d l))) > 0)) (by kernel_rfl) ?_ ?_
  · intro ht
    have hlt : d < l.length := by
      have : (0 : Int) < ((strL (l.drop d)).size : Int) := of_decide_eq_true ht
      rw [hlen] at this
      omega
    have hk : l[d]? = some l[d] := List.getElem?_eq_getElem hlt
    have hk2 : (l.drop d)[0]? = some l[d] := by rw [List.getElem?_drop]; exact hk
    have hn2 : l[d] < 256 := hl _ (List.getElem_mem _)
    refine sy_load 0 (r := pureX (Instr.index 9 (.string (strL (l.drop d))) (J 0))) (h' := g) (by kernel_rfl) (x_index hk2 hn2) ?_
    have co := co _ hn2
    refine sy_call 0 (by kernel_rfl) (co) ?_
    cases hf : f l[d] with
    | false =>
      refine sy_done 2 (v := Value.string (strL (List.drop d l))) (h := g) (by kernel_rfl) ?_
      exact ⟨rfl, _, rfl, by omega, ha, .inr ⟨_, hk, hf⟩⟩
    | true =>
      refine ok_go 2 ?_
      refine sy_load 0 (r := pureX (Instr.sliceAt 9 (.string (strL (l.drop d))) (some (J 1)) none none)) (h' := g) (by kernel_rfl) (x_drop (by rw [List.length_drop]; omega)) ?_
      refine ok_go 0 ?_
      exact sy_next 0 _ g (by kernel_rfl) (by kernel_rfl) (ih (d + 1) _ g ⟨hlt, rfl, fun j hj n hn => by
        rcases Nat.lt_or_ge j d with h1 | h1
        · exact ha j h1 n hn
        · obtain rfl : j = d := by omega
          rw [hk] at hn
          cases hn
          exact hf⟩ (show l.length - (d + 1) < l.length - d by omega) ⟨(by kernel_rfl : _ = Value.string (strL ((l.drop d).drop 1))).trans (by rw [List.drop_drop]), by kernel_rfl, trivial⟩)
  · intro ht
    have hlt : d = l.length := by
      have : ¬ (0 : Int) < ((strL (l.drop d)).size : Int) := of_decide_eq_false ht
      rw [hlen] at this
      omega
    refine sy_done 0 (v := Value.string (strL (List.drop d l))) (h := g) (by kernel_rfl) ?_
    exact ⟨rfl, _, rfl, by omega, ha, .inl (by omega)⟩
def octs : List Nat := [48, 49, 50, 51, 52, 53, 54, 55]
theorem trim_of (l : List Nat) (hl : ∀ n ∈ l, n < 256) (hll : l.length ≤ 90000) (lf m : Nat) (hlf : 300 ≤ lf) (h : Hp)
    (st : ∀ h, ∃ v h', Ev lf m 59 [.string (strL octs)] h = some (v, h') ∧ v = .tuple #[.agg (cellsF 256 fun c => .bool (octs.contains c)).toArray, .bool true] ∧ h.Ext h')
    (ri : ∀ q h, SetB q (fun c => octs.contains c) h → ∃ v h', Ev lf m 61 [.string (strL l), ptr q 0] h = some (v, h') ∧ h' = h ∧ ∃ k, v = .string (strL (l.take k)) ∧ k ≤ l.length ∧ (∀ j, k ≤ j → ∀ n, l[j]? = some n → octs.contains n = true) ∧ (k = 0 ∨ ∃ n, l[k - 1]? = some n ∧ octs.contains n = false))
    (le : ∀ l q h, (∀ n ∈ l, n < 256) → l.length ≤ 90000 → SetB q (fun c => octs.contains c) h → ∃ v h', Ev lf m 60 [.string (strL l), ptr q 0] h = some (v, h') ∧ h' = h ∧ ∃ k, v = .string (strL (l.drop k)) ∧ k ≤ l.length ∧ (∀ j, j < k → ∀ n, l[j]? = some n → octs.contains n = true) ∧ (k = l.length ∨ ∃ n, l[k]? = some n ∧ octs.contains n = false)) :
    ∃ v h', Ev lf (m + 1) 42 [.string (strL l), .string (strL octs)] h = some (v, h') ∧ h.Ext h' ∧ ∃ r, v = .string (strL r) ∧ (∀ n ∈ r, n < 256) ∧ (r = [] ↔ ∀ n ∈ l, octs.contains n = true) := by
  refine fnS_ok (Q := fun v h' => h.Ext h' ∧ ∃ r, v = .string (strL r) ∧ (∀ n ∈ r, n < 256) ∧ (r = [] ↔ ∀ n ∈ l, octs.contains n = true)) ?_
  have W := Sto.start h
  by_cases h0 : l = []
  · subst h0
    refine sy_done 5 (v := Value.string (strL [])) (h := h) (by kernel_rfl) ?_
    exact ⟨Hp.Ext.refl h, [], rfl, hl, ⟨fun _ n hn => (by cases hn), fun _ => rfl⟩⟩
  · refine ok_go 1 ?_
    refine sy_no 0 (b := ((strL l).toList == (strL []).toList)) (by kernel_rfl) (by rw [strL_inj hl (by simp)]; exact decide_eq_false h0) ?_
    refine ok_go 11 ?_
    obtain ⟨y1, q1, ec1, rc1⟩ := st (h)
    refine sy_call 0 (by kernel_rfl) ec1 ?_
    obtain ⟨rfl, X⟩ := rc1
    have W := W.call X
    refine ok_go 2 ?_
    refine ow_new 0 W (.cells (cellsF 256 fun _ => .bool false) 86 false) (fun q => ptr q 0) (by kernel_rfl) fun g1 ng1 W => ?_
    refine ok_go 0 ?_
    refine ow_storeAF (P := Tryz.prog) (T := 86) (N := 256) (f := fun c => Value.bool (octs.contains c)) 0 0 W rfl (by rw [cellsF_len]) (by kernel_rfl) (fun c => rfl) (by kernel_rfl) fun g2 ng2 W => ?_
    have S : SetB q1.next (fun c => octs.contains c) g2 := ⟨_, _, W.get 0 rfl⟩
    obtain ⟨_, q2, e2, hq2, k, rfl, hk, ha, hb⟩ := ri q1.next g2 S
    subst hq2
    obtain ⟨_, q3, e3, hq3, j, rfl, hj, hc, hd⟩ := le (l.take k) q1.next _ (fun n hn => hl n (List.mem_of_mem_take hn)) (by rw [List.length_take]; omega) S
    subst hq3
    refine ok_go 1 ?_
    refine sy_call 0 (by kernel_rfl) e2 ?_
    refine ok_go 0 ?_
    refine sy_call 0 (by kernel_rfl) e3 ?_
    refine sy_done 0 (v := Value.string (strL (List.drop j (List.take k l)))) (h := q3) (by kernel_rfl) ?_
    refine ⟨W.ext, _, rfl, fun n hn => hl n (List.mem_of_mem_take (List.mem_of_mem_drop hn)), fun h1 n hn => ?_, fun h1 => ?_⟩
    · rcases hb with rfl | ⟨z, hz, hf⟩
      · obtain ⟨i, hi⟩ := List.mem_iff_getElem?.1 hn
        exact ha i (Nat.zero_le i) n hi
      · have h2 : ((l.take k).drop j).length = 0 := by rw [h1]; rfl
        have h3 := (List.getElem?_eq_some_iff.1 hz).1
        have h4 : (l.take k)[k - 1]? = some z := by
          rcases Nat.eq_zero_or_pos k with h0 | h0
          · subst h0
            rw [List.length_drop, List.length_take] at h2
            rcases hd with hd | ⟨y, hy, _⟩
            · exact absurd hf (by
                rw [ha 0 (Nat.le_refl 0) z hz]; simp)
            · simp at hy
          · rw [List.getElem?_take, if_pos (by omega)]; exact hz
        have h5 := (List.getElem?_eq_some_iff.1 h4).1
        rw [List.length_drop] at h2
        have := hc (k - 1) (by omega) z h4
        rw [hf] at this
        cases this
    · have h2 : k = 0 := by
        rcases hb with hb | ⟨z, hz, hf⟩
        · exact hb
        · rw [h1 z (List.mem_of_getElem? hz)] at hf; cases hf
      subst h2
      simp
theorem check_of (l : List Nat) (hl : ∀ n ∈ l, n < 256) (lf m : Nat) (h : Hp)
    (cu : ∀ h, Ev lf m 41 [.string (strL l), .string (strL [48, 46])] h = some (.tuple #[.string (strL (if l.take 2 = [48, 46] then l.drop 2 else l)), .bool (decide (l.take 2 = [48, 46]))], h))
    (tr : ∀ l h, (∀ n ∈ l, n < 256) → l.length ≤ 8 → ∃ v h', Ev lf m 42 [.string (strL l), .string (strL octs)] h = some (v, h') ∧ h.Ext h' ∧ ∃ r, v = .string (strL r) ∧ (∀ n ∈ r, n < 256) ∧ (r = [] ↔ ∀ n ∈ l, octs.contains n = true)) :
    ∃ v h', Ev lf (m + 1) 13 [.string (strL l)] h = some (v, h') ∧ h.Ext h' ∧ ∃ e, v = J e ∧ (e = 0 ∨ e = 60) ∧ (e = 0 ↔ ∃ d : List Nat, l = codeS d ∧ 1 ≤ d.length ∧ d.length ≤ 8 ∧ ∀ n ∈ d, n < 8) := by
  refine fnS_ok (Q := fun v h' => h.Ext h' ∧ ∃ e, v = J e ∧ (e = 0 ∨ e = 60) ∧ (e = 0 ↔ ∃ d : List Nat, l = codeS d ∧ 1 ≤ d.length ∧ d.length ≤ 8 ∧ ∀ n ∈ d, n < 8)) ?_
  have W := Sto.start h
  refine sy_call 0 (by kernel_rfl) (cu (h)) ?_
  by_cases hp : l.take 2 = [48, 46]
  · rw [decide_eq_true hp, if_pos hp]
    have hl2 : l = 48 :: 46 :: l.drop 2 := by
      have := List.take_append_drop 2 l
      rw [hp] at this
      exact this.symm
    have hdl : ∀ n ∈ l.drop 2, n < 256 := fun n hn => hl n (List.mem_of_mem_drop hn)
    generalize l.drop 2 = d at *
    have hcod : (∃ d : List Nat, l = codeS d ∧ 1 ≤ d.length ∧ d.length ≤ 8 ∧ ∀ n ∈ d, n < 8) ↔ 1 ≤ d.length ∧ d.length ≤ 8 ∧ ∀ n ∈ d, octs.contains n = true := by
      constructor
      · rintro ⟨c, rfl, h1, h2, h3⟩
        have : d = c.map (48 + ·) := by
          have := hl2
          simp only [codeS, List.cons_append, List.nil_append, List.cons.injEq, true_and] at this
          exact this.symm
        subst this
        rw [List.length_map]
        refine ⟨h1, h2, fun n hn => ?_⟩
        obtain ⟨x, hx, rfl⟩ := List.mem_map.1 hn
        have := h3 x hx
        rcases (by omega : x = 0 ∨ x = 1 ∨ x = 2 ∨ x = 3 ∨ x = 4 ∨ x = 5 ∨ x = 6 ∨ x = 7) with rfl | rfl | rfl | rfl | rfl | rfl | rfl | rfl <;> rfl
      · rintro ⟨h1, h2, h3⟩
        have h4 : ∀ n ∈ d, 48 ≤ n ∧ n < 56 := fun n hn => by
          have := h3 n hn
          rw [List.contains_iff_mem] at this
          simp only [octs, List.mem_cons, List.not_mem_nil, or_false] at this
          omega
        refine ⟨d.map (· - 48), ?_, by rwa [List.length_map], by rwa [List.length_map], fun n hn => ?_⟩
        · rw [hl2, codeS, List.map_map]
          have : d.map ((48 + ·) ∘ (· - 48)) = d := by
            conv => rhs; rw [← List.map_id d]
            refine List.map_congr_left fun n hn => ?_
            have := h4 n hn
            show 48 + (n - 48) = n
            omega
          rw [this]; rfl
        · obtain ⟨x, hx, rfl⟩ := List.mem_map.1 hn
          have := h4 x hx
          show x - 48 < 8
          omega
    rw [hcod]
    have hsz : (strL d).size = d.length := strL_size d
    refine sy_test 9 (decide (Int.ofNat (ByteArray.size (strL d)) < 1)) (by kernel_rfl) ?_ ?_
    · intro ht
      have ht : d.length < 1 := by have := of_decide_eq_true ht; rw [hsz] at this; exact Int.ofNat_lt.1 this
      refine sy_done 8 (v := Value.int IntKind.i64 (Int.ofNat 60)) (h := h) (by kernel_rfl) ?_
      exact ⟨Hp.Ext.refl _, 60, rfl, .inr rfl, fun h => (by cases h), fun h => (by omega)⟩
    · intro ht
      have ht : 1 ≤ d.length := by have := of_decide_eq_false ht; rw [hsz] at this; exact Nat.le_of_not_lt fun h => this (Int.ofNat_lt.2 h)
      refine ok_go 5 ?_
      refine sy_test 0 (decide (Int.ofNat (ByteArray.size (strL d)) > 8)) (by kernel_rfl) ?_ ?_
      · intro ht8
        have ht8 : 8 < d.length := by have := of_decide_eq_true ht8; rw [hsz] at this; exact Int.ofNat_lt.1 this
        refine sy_done 4 (v := Value.int IntKind.i64 (Int.ofNat 60)) (h := h) (by kernel_rfl) ?_
        exact ⟨Hp.Ext.refl _, 60, rfl, .inr rfl, fun h => (by cases h), fun h => (by omega)⟩
      · intro ht8
        have ht8 : d.length ≤ 8 := by have := of_decide_eq_false ht8; rw [hsz] at this; exact Nat.le_of_not_lt fun h => this (Int.ofNat_lt.2 h)
        obtain ⟨v1, q1, e1, X1, r, rfl, hr, hrr⟩ := tr d h hdl ht8
        refine ok_go 1 ?_
        refine sy_call 0 (by kernel_rfl) e1 ?_
        by_cases hr0 : r = []
        · refine ok_go 3 ?_
          refine sy_no 0 (b := !((strL r).toList == (strL []).toList)) (by kernel_rfl) (by rw [strL_inj hr (by simp), decide_eq_true hr0]; rfl) ?_
          refine sy_done 0 (v := Value.int IntKind.i64 (Int.ofNat 0)) (h := q1) (by kernel_rfl) ?_
          exact ⟨X1, 0, rfl, .inl rfl, fun _ => ⟨ht, ht8, hrr.1 hr0⟩, fun _ => rfl⟩
        · refine ok_go 3 ?_
          refine sy_yes 0 (b := !((strL r).toList == (strL []).toList)) (by kernel_rfl) (by rw [strL_inj hr (by simp), decide_eq_false hr0]; rfl) ?_
          refine sy_done 0 (v := Value.int IntKind.i64 (Int.ofNat 60)) (h := q1) (by kernel_rfl) ?_
          exact ⟨X1, 60, rfl, .inr rfl, fun h => (by cases h), fun h => absurd (hrr.2 h.2.2) hr0⟩
  · rw [decide_eq_false hp, if_neg hp]
    refine sy_done 16 (v := Value.int IntKind.i64 (Int.ofNat 60)) (h := h) (by kernel_rfl) ?_
    refine ⟨Hp.Ext.refl _, 60, rfl, .inr rfl, fun h => (by cases h), fun h => ?_⟩
    obtain ⟨d, rfl, _⟩ := h
    exact absurd rfl hp
noncomputable def nextR (i : Nat) (h : Hp) : Option (Value × Hp) := match h.get i with
  | some (.iter s pos) => match Nat.blt pos s.size with
    | true =>
      let d := Utf8.decode s pos
      some (.tuple #[.bool true, .int .i64 pos, .int .i32 d.1], h.put i (.iter s (pos + d.2)))
    | false => some (.tuple #[.bool false], h)
  | _ => none
theorem decode_of {l : List Nat} {i n : Nat} (h : l[i]? = some n) (hn : n < 128) : Utf8.decode (strL l) i = (n, 1) := by
  have hi : i < l.length := (List.getElem?_eq_some_iff.1 h).1
  have e : ((strL l).get! (i + 0)).toNat = n := by
    show (((l.map fun n : Nat => n.toUInt8).toArray)[i]!).toNat = n
    have h2 := (List.getElem?_eq_some_iff.1 h).2
    rw [getElem!_pos _ i (by simpa using hi)]
    simp [h2]
    omega
  unfold Utf8.decode
  simp only [e, if_pos hn]
theorem ow_next {h H : Hp} {l : List (Nat × AObj)} {Q : Value → Hp → Prop} (n k : Nat) {t : SA} (W : Sto h H l) {i p z : Nat} {s : List Nat} (hk : l[k]? = some (i, .iter (strL s) p)) (hp : s[p]? = some z) (hz : z < 128) (he : askR (goS n t) = nextR i H)
    (hq : ∀ H', H'.next = H.next → Sto h H' (l.set k (i, .iter (strL s) (p + 1))) → Ok Q (askK (goS n t) (.tuple #[.bool true, J p, .int .i32 (Int.ofNat z)]) H')) : Ok Q t := by
  have hlt : Nat.blt p (strL s).size = true := by
    rw [strL_size]; exact Nat.ble_eq_true_of_le (List.getElem?_eq_some_iff.1 hp).1
  refine sy_call n (v := .tuple #[.bool true, J p, .int .i32 (Int.ofNat z)]) (h' := H.put i (.iter (strL s) (p + 1))) (he.trans ?_) rfl (hq _ rfl (W.put k hk _))
  simp only [nextR, W.get k hk, hlt, decode_of hp hz]
  rfl
theorem ow_over {h H : Hp} {l : List (Nat × AObj)} {Q : Value → Hp → Prop} (n k : Nat) {t : SA} (W : Sto h H l) {i p : Nat} {s : List Nat} (hk : l[k]? = some (i, .iter (strL s) p)) (hp : s.length ≤ p) (he : askR (goS n t) = nextR i H)
    (hq : Ok Q (askK (goS n t) (.tuple #[.bool false]) H)) : Ok Q t := by
  have hlt : Nat.blt p (strL s).size = false := by
    rw [strL_size]
    cases hb : Nat.blt p s.length with
    | false => rfl
    | true => have := Nat.le_of_ble_eq_true hb; omega
  refine sy_call n (he.trans ?_) rfl hq
  simp only [nextR, W.get k hk, hlt]
theorem digits_of (d : List Nat) (hd : ∀ n ∈ d, n < 8) (hl : d.length ≤ 8) (lf m : Nat) (hlf : 300 ≤ lf) (h : Hp) : ∃ v h', Ev lf (m + 1) 23 [.string (strL (codeS d))] h = some (v, h') ∧ ∃ q, v = oslV q d.length ∧ Sto h h' (oent q 3 (d.map J)) := by
  refine fnS_ok (Q := fun v h' => ∃ q, v = oslV q d.length ∧ Sto h h' (oent q 3 (d.map J))) ?_
  have W := Sto.start h
  refine sy_load 0 (r := pureX (Instr.sliceAt 9 (.string (strL (codeS d))) (some (J 2)) none none)) (h' := h) (by kernel_rfl) (x_drop (by simp [codeS])) ?_
  refine ok_go 0 ?_
  refine ow_new 0 W (.iter (strL ((codeS d).drop 2)) 0) (fun q => ptr q 0) (by kernel_rfl) fun g1 ng1 W => ?_
  have hcd : (codeS d).drop 2 = d.map (48 + ·) := rfl
  rw [hcd] at W
  refine sy_loop 0 lf g1 (α := Nat × Nat × Value) (fun x => [(3, x.2.2), (8, ptr h.next 0)]) (fun x g => x.1 ≤ d.length ∧ x.2.2 = oslV x.2.1 x.1 ∧ scalar x.2.2 = true ∧ Sto h g ((h.next, .iter (strL (d.map (48 + ·))) x.1) :: oent x.2.1 3 ((d.take x.1).map J))) (fun x _ => d.length - x.1) (0, 0, .slice none 0 0) (by kernel_rfl) (by kernel_rfl)
    ⟨by kernel_rfl, by kernel_rfl, trivial⟩ (show d.length - 0 < lf by omega) ⟨Nat.zero_le _, rfl, rfl, W⟩ ?_
  rintro m1 ⟨i, q, sl⟩ f1 g ⟨hi, hsl, hsc, W⟩ ih
  dsimp only at hi hsl hsc W
  refine ok_go 0 ?_
  rcases Nat.lt_or_ge i d.length with hlt | hge
  · have hp : (d.map (48 + ·))[i]? = some (48 + d[i]) := by rw [List.getElem?_map, List.getElem?_eq_getElem hlt]; rfl
    have hd8 := hd _ (List.getElem_mem hlt)
    refine ow_next 0 0 W rfl hp (by omega) (by kernel_rfl) fun g2 ng2 W => ?_
    refine ow_new 5 W (AObj.cells [Value.int IntKind.i64 (IntKind.wrap IntKind.i64 (IntKind.wrap IntKind.i32 (Int.ofNat (48 + d[i]) - 48)))] 3 false) (fun q => Value.slice (some { block := q, off := 0 }) 1 2) (by kernel_rfl) fun k1 nk1 Wk1 => ?_
    have W := Wk1
    have hz : IntKind.wrap .i64 (IntKind.wrap .i32 (Int.ofNat (48 + d[i]) - 48)) = Int.ofNat d[i] := by
      have : (Int.ofNat (48 + d[i]) - 48 : Int) = Int.ofNat d[i] := by show ((48 + d[i] : Nat) : Int) - 48 = ((d[i] : Nat) : Int); omega
      rw [this]
      rcases (by omega : d[i] = 0 ∨ d[i] = 1 ∨ d[i] = 2 ∨ d[i] = 3 ∨ d[i] = 4 ∨ d[i] = 5 ∨ d[i] = 6 ∨ d[i] = 7) with e | e | e | e | e | e | e | e <;> rw [e] <;> rfl
    rw [hz] at W
    have hlen : ((d.take i).map J).length = i * 1 := by rw [List.length_map, List.length_take]; omega
    refine ow_app (P := Tryz.prog) (t := 22) (e := 3) (z := 1) (c := i) (i := q) 0 (l := [(h.next, .iter (strL (d.map (48 + ·))) (i + 1))]) W slz32 hlen rfl rfl (by omega) (by rw [← hsl]; kernel_rfl) fun k2 sl2 nk2 hsl2 hsc2 W => ?_
    refine ok_go 0 ?_
    have ht : (d.take i).map J ++ [J d[i]] = (d.take (i + 1)).map J := by rw [List.take_succ_eq_append_getElem hlt, List.map_append]; rfl
    rw [ht] at W
    exact sy_next 0 _ k2 (by kernel_rfl) (by kernel_rfl) (ih (i + 1, _, sl2) _ k2 ⟨hlt, hsl2, hsc2, W⟩ (show d.length - (i + 1) < d.length - i by omega) ⟨by kernel_rfl, by kernel_rfl, trivial⟩)
  · refine ow_over 0 0 W rfl (by rw [List.length_map]; exact hge) (by kernel_rfl) ?_
    refine ok_go 2 ?_
    refine sy_done 0 (v := sl) (h := g) (by kernel_rfl) ?_
    obtain rfl : i = d.length := by omega
    rw [List.take_length] at W
    exact ⟨q, hsl, W.drop 1⟩
def MarkB (q N : Nat) (f : Nat → Bool) (h : Hp) : Prop := ∃ e o, h.get q = some (.cells (cellsF N fun c => .bool (f c)) e o)
theorem index_of (f : Nat → Bool) (q N c k : Nat) (hN : N ≤ 10000) (hk : k < N) (h1 : f k = false) (h2 : ∀ j, j < k → f j = true) (lf m : Nat) (hlf : 20000 ≤ lf) (h : Hp) (A : MarkB q N f h) :
    Ev lf (m + 1) 40 [.slice (some ⟨q, 0, none⟩) N c, .bool false] h = some (J k, h) := by
  refine fn_eq ?_
  have W := Sto.start h
  obtain ⟨e, o, A⟩ := A
  refine ok_go 1 ?_
  refine sy_loop 0 lf h (α := Nat) (fun x => [(0, .slice (some ⟨q, 0, none⟩) N c), (1, .bool false), (7, J N), (8, J x)]) (fun x g => x ≤ k ∧ g = h) (fun x _ => k - x) 0 (by kernel_rfl) (by kernel_rfl)
    ⟨by kernel_rfl, by kernel_rfl, by kernel_rfl, by kernel_rfl, trivial⟩ (show k - 0 < lf by omega) ⟨Nat.zero_le _, rfl⟩ ?_
  rintro m1 i f1 g ⟨hi, rfl⟩ ih
  have W := Sto.start g
  refine ok_go 1 ?_
  refine sy_yes 0 (b := decide (Int.ofNat i < Int.ofNat N)) (by kernel_rfl) (decide_eq_true (by show (i : Int) < (N : Int); omega)) ?_
  refine sy_load 0 (r := indexAddrOp Tryz.prog 65 (Value.slice (some { block := q, off := 0 }) N c) (Value.int IntKind.i64 (Int.ofNat i))) (h' := g) (by kernel_rfl) (idxS0 (e := 4) (by kernel_rfl) (by kernel_rfl) (by omega)) ?_
  refine sy_load 0 (r := loadT Tryz.prog g 4 (ptr q i)) (h' := g) (v := .bool (f i)) (by kernel_rfl) (load1 agB A (cellsF_get (by omega))) ?_
  rcases Nat.lt_or_ge i k with hlt | hge
  · rw [h2 i hlt]
    have hw : IntKind.wrap .i64 (Int.ofNat (i + 1)) = Int.ofNat (i + 1) := wrap_nat (by omega)
    refine ok_go 3 ?_
    exact sy_next 0 _ g (by kernel_rfl) (by kernel_rfl) (ih (i + 1) _ g ⟨hlt, rfl⟩ (show k - (i + 1) < k - i by omega) ⟨by kernel_rfl, by kernel_rfl, by kernel_rfl, (by kernel_rfl : _ = Value.int .i64 (IntKind.wrap .i64 (Int.ofNat (i + 1)))).trans (by rw [hw]), trivial⟩)
  · obtain rfl : i = k := by omega
    rw [h1]
    refine sy_done 2 (v := Value.int IntKind.i64 (Int.ofNat i)) (h := g) (by kernel_rfl) ?_
    exact ⟨rfl, rfl⟩
theorem missing_of (f : Nat → Bool) (q k : Nat) (lf m : Nat) (h : Hp) (A : MarkB q 8192 f h)
    (ix : ∀ c, Ev lf m 40 [.slice (some ⟨q, 0, none⟩) 8192 c, .bool false] h = some (J k, h)) : Ev lf (m + 1) 65 [ptr q 0] h = some (J k, h) := by
  refine fn_eq ?_
  have W := Sto.start h
  refine ok_go 2 ?_
  refine sy_call 0 (by kernel_rfl) (ix (16384)) ?_
  refine sy_done 0 (v := Value.int IntKind.i64 (Int.ofNat k)) (h := h) (by kernel_rfl) ?_
  exact ⟨rfl, rfl⟩
theorem ops_snoc (g n : Nat) : ∀ (d : List Nat) (i : Nat), ops (d ++ [g]) i n = ops d i n ++ op1 g (i + d.length) n
  | [], i => by simp [ops]
  | x :: d, i => by
    rw [List.cons_append, ops, ops, ops_snoc g n d (i + 1), List.append_assoc]
    congr 2
    rw [List.length_cons]
    congr 1
    omega
theorem ops_app (n : Nat) : ∀ (d e : List Nat) (i : Nat), ops (d ++ e) i n = ops d i n ++ ops e (i + d.length) n
  | [], e, i => by simp [ops]
  | x :: d, e, i => by
    rw [List.cons_append, ops, ops, ops_app n d e (i + 1), List.append_assoc]
    congr 2
    rw [List.length_cons]
    congr 1
    omega
theorem and1 {g : Nat} (h : g < 8) : (andI (Int.ofNat g) 1 == 0) = !(g % 2 == 1) := by
  rcases (by omega : g = 0 ∨ g = 1 ∨ g = 2 ∨ g = 3 ∨ g = 4 ∨ g = 5 ∨ g = 6 ∨ g = 7) with rfl | rfl | rfl | rfl | rfl | rfl | rfl | rfl <;> rfl
theorem and2 {g : Nat} (h : g < 8) : (andI (Int.ofNat g) 2 != 0) = (g / 2 % 2 == 1) := by
  rcases (by omega : g = 0 ∨ g = 1 ∨ g = 2 ∨ g = 3 ∨ g = 4 ∨ g = 5 ∨ g = 6 ∨ g = 7) with rfl | rfl | rfl | rfl | rfl | rfl | rfl | rfl <;> rfl
theorem and4 {g : Nat} (h : g < 8) : (andI (Int.ofNat g) 4 != 0) = (g / 4 % 2 == 1) := by
  rcases (by omega : g = 0 ∨ g = 1 ∨ g = 2 ∨ g = 3 ∨ g = 4 ∨ g = 5 ∨ g = 6 ∨ g = 7) with rfl | rfl | rfl | rfl | rfl | rfl | rfl | rfl <;> rfl
theorem moves_run (d : List Nat) (n : Nat) (hn : n ≤ 10000) (hd : ∀ x ∈ d, x < 8) (hl : d.length ≤ 8) (lf m a b y : Nat) (hlf : 20000 ≤ lf) (xa : Option Addr) (xc : Nat) (Iv : Nat → Hp → Prop)
    (hI : ∀ j g, Iv j g → g.get a = some (.cells [.slice xa d.length xc] 22 false) ∧ g.get b = some (.cells [J n] 3 false) ∧ Rds g (.slice xa d.length xc) (d.map J))
    (hy : ∀ j p g, (ops d 0 n)[j]? = some p → Iv j g → ∃ g', evInv Tryz.prog orc lf m (.yield y [J p.1, J p.2]) g = some (.bool true, g') ∧ Iv (j + 1) g') (h : Hp) (h0 : Iv 0 h) :
    ∃ v h', Ev lf (m + 1) 46 [.func (.yield y) #[] #[], ptr a 0, ptr b 0] h = some (v, h') ∧ Iv (ops d 0 n).length h' := by
  have hpre : ∀ i j p, (ops (d.take i) 0 n)[j]? = some p → (ops d 0 n)[j]? = some p := fun i j p h => by
    rw [← List.take_append_drop i d, ops_app]
    have := (List.getElem?_eq_some_iff.1 h).1
    rw [List.getElem?_append_left this]
    exact h
  refine fnS_ok (Q := fun v h' => Iv (ops d 0 n).length h') ?_
  obtain ⟨ga, gb, R⟩ := hI 0 h h0
  refine sy_load 0 (r := loadT Tryz.prog h 22 (ptr a 0)) (h' := h) (v := .slice xa d.length xc) (by kernel_rfl) (load1 (by kernel_rfl) ga rfl) ?_
  refine ok_go 1 ?_
  refine sy_loop 0 lf h (α := Nat) (fun i => [(0, .func (.yield y) #[] #[]), (1, ptr a 0), (2, ptr b 0), (8, .slice xa d.length xc), (9, J d.length), (10, J i)]) (fun i g => i ≤ d.length ∧ Iv (ops (d.take i) 0 n).length g) (fun i _ => d.length - i) 0 (by kernel_rfl) (by kernel_rfl)
    ⟨by kernel_rfl, by kernel_rfl, by kernel_rfl, by kernel_rfl, by kernel_rfl, by kernel_rfl, trivial⟩ (show d.length - 0 < lf by omega) ⟨Nat.zero_le _, h0⟩ ?_
  rintro m1 i f1 g ⟨hi, hJ⟩ ih
  obtain ⟨ga, gb, R⟩ := hI _ g hJ
  refine ok_go 1 ?_
  refine sy_test 0 (decide (Int.ofNat i < Int.ofNat d.length)) (by kernel_rfl) ?_ ?_
  · intro ht
    have ht := ok_nat ht
    have hw : IntKind.wrap .i64 (Int.ofNat (i + 1)) = Int.ofNat (i + 1) := wrap_nat (by omega)
    have hg8 := hd _ (List.getElem_mem ht)
    have hsn : ops (d.take (i + 1)) 0 n = ops (d.take i) 0 n ++ op1 d[i] i n := by
      rw [List.take_succ_eq_append_getElem ht, ops_snoc, List.length_take, Nat.zero_add, Nat.min_eq_left (by omega)]
    obtain ⟨q1, r1, r2⟩ := R.read (P := Tryz.prog) (t := 22) (e := 3) (kd := .i64) (by kernel_rfl) (by kernel_rfl) (by kernel_rfl) (k := i) (v := J d[i]) (by rw [List.getElem?_map, List.getElem?_eq_getElem ht]; rfl)
    refine ok_go 0 ?_
    refine sy_load 0 (h' := g) (by kernel_rfl) r1 ?_
    refine ok_go 0 ?_
    refine sy_load 0 (h' := g) (by kernel_rfl) r2 ?_
    refine ok_go 0 ?_
    refine sy_load 0 (r := loadT Tryz.prog g 3 (ptr b 0)) (h' := g) (v := J n) (by kernel_rfl) (load1 agI gb rfl) ?_
    generalize d[i] = dg at *
    have hleft : IntKind.wrap .i64 (IntKind.wrap .i64 (Int.ofNat n - Int.ofNat i) - 1) = (n : Int) - i - 1 := by
      rw [wrap_int (x := Int.ofNat n - Int.ofNat i) (by show -(2 ^ 63) ≤ (n : Int) - (i : Int); omega) (by show (n : Int) - (i : Int) < 2 ^ 63; omega)]
      exact wrap_int (by show -(2 ^ 63) ≤ (n : Int) - (i : Int) - 1; omega) (by show (n : Int) - (i : Int) - 1 < 2 ^ 63; omega)
    rcases Nat.lt_or_ge n (i + 1) with hA | hA
    · have ho : op1 dg i n = [] := by unfold op1; rw [if_pos hA]
      refine ok_go 3 ?_
      refine sy_yes 0 (b := decide ((IntKind.wrap .i64 (IntKind.wrap .i64 (Int.ofNat n - Int.ofNat i) - 1)) < 0)) (by kernel_rfl) (by rw [hleft]; exact decide_eq_true (by omega)) ?_
      refine ok_go 6 ?_
      exact sy_next 0 _ g (by kernel_rfl) (by kernel_rfl) (ih (i + 1) _ g ⟨ht, by rw [hsn, List.length_append]; rw [ho]; exact hJ⟩ (show d.length - (i + 1) < d.length - i by omega) ⟨by kernel_rfl, by kernel_rfl, by kernel_rfl, by kernel_rfl, by kernel_rfl, (by kernel_rfl : _ = Value.int .i64 (IntKind.wrap .i64 (Int.ofNat (i + 1)))).trans (by rw [hw]), trivial⟩)
    · refine ok_go 3 ?_
      refine sy_no 0 (b := decide ((IntKind.wrap .i64 (IntKind.wrap .i64 (Int.ofNat n - Int.ofNat i) - 1)) < 0)) (by kernel_rfl) (by rw [hleft]; exact decide_eq_false (by omega)) ?_
      rcases Nat.eq_or_lt_of_le hA with hB | hC
      · have hl0 : (n : Int) - i - 1 = 0 := by omega
        refine ok_go 3 ?_
        refine sy_yes 0 (b := (IntKind.wrap .i64 (IntKind.wrap .i64 (Int.ofNat n - Int.ofNat i) - 1)) == 0) (by kernel_rfl) (by rw [hleft, hl0]; rfl) ?_
        cases h1 : (dg % 2 == 1) with
        | false =>
          have ho : op1 dg i n = [] := by
            unfold op1; rw [if_neg (by omega), if_pos hB.symm, if_neg (by intro h; rw [h] at h1; cases h1)]
          refine ok_go 7 ?_
          refine sy_yes 0 (b := andI (Int.ofNat dg) 1 == 0) (by kernel_rfl) (by rw [and1 hg8, h1]; rfl) ?_
          refine ok_go 1 ?_
          exact sy_next 0 _ g (by kernel_rfl) (by kernel_rfl) (ih (i + 1) _ g ⟨ht, by rw [hsn, List.length_append]; rw [ho]; exact hJ⟩ (show d.length - (i + 1) < d.length - i by omega) ⟨by kernel_rfl, by kernel_rfl, by kernel_rfl, by kernel_rfl, by kernel_rfl, (by kernel_rfl : _ = Value.int .i64 (IntKind.wrap .i64 (Int.ofNat (i + 1)))).trans (by rw [hw]), trivial⟩)
        | true =>
          have ho : op1 dg i n = [(0, 0)] := by
            unfold op1; rw [if_neg (by omega), if_pos hB.symm, if_pos (by simpa using h1)]
          refine ok_go 7 ?_
          refine sy_no 0 (b := andI (Int.ofNat dg) 1 == 0) (by kernel_rfl) (by rw [and1 hg8, h1]; rfl) ?_
          refine ok_go 1 ?_
          refine sy_yes 0 (b := (IntKind.wrap .i64 (IntKind.wrap .i64 (Int.ofNat n - Int.ofNat i) - 1)) == 0) (by kernel_rfl) (by rw [hleft, hl0]; rfl) ?_
          obtain ⟨g1, e1, J1⟩ := hy _ (0, 0) g (by
            have hsub : (ops (d.take (i + 1)) 0 n)[(ops (d.take i) 0 n).length]? = some (0, 0) := by rw [hsn, ho, List.getElem?_append_right (Nat.le_refl _), Nat.sub_self]; rfl
            exact hpre _ _ _ hsub) hJ
          refine ok_go 0 ?_
          refine sy_call 0 (by kernel_rfl) e1 ?_
          refine ok_go 3 ?_
          exact sy_next 0 _ g1 (by kernel_rfl) (by kernel_rfl) (ih (i + 1) _ g1 ⟨ht, by rw [hsn, List.length_append]; rw [ho]; exact J1⟩ (show d.length - (i + 1) < d.length - i by omega) ⟨by kernel_rfl, by kernel_rfl, by kernel_rfl, by kernel_rfl, by kernel_rfl, (by kernel_rfl : _ = Value.int .i64 (IntKind.wrap .i64 (Int.ofNat (i + 1)))).trans (by rw [hw]), trivial⟩)
      · refine ok_go 3 ?_
        refine sy_no 0 (b := (IntKind.wrap .i64 (IntKind.wrap .i64 (Int.ofNat n - Int.ofNat i) - 1)) == 0) (by kernel_rfl) (by rw [hleft]; exact beq_eq_false_iff_ne.2 (by omega)) ?_
        have hLV : (IntKind.wrap .i64 (IntKind.wrap .i64 (Int.ofNat n - Int.ofNat i) - 1)) = Int.ofNat (n - (i + 1)) := by
          rw [hleft]; show (n : Int) - i - 1 = ((n - (i + 1) : Nat) : Int); omega
        have ho : op1 dg i n = (if dg / 2 % 2 = 1 then [(n - (i + 1), 0)] else []) ++ (if dg / 4 % 2 = 1 then (List.range ((n - (i + 1)) / 2)).map fun a => (a + 1, n - (i + 1) - (a + 1)) else []) := by
          unfold op1; rw [if_neg (by omega), if_neg (by omega)]
        refine ok_go 7 ?_
        refine sy_no 0 (b := (IntKind.wrap .i64 (IntKind.wrap .i64 (Int.ofNat n - Int.ofNat i) - 1)) == 0) (by kernel_rfl) (by rw [hleft]; exact beq_eq_false_iff_ne.2 (by omega)) ?_
        refine ok_go 2 ?_
        cases h2 : (dg / 2 % 2 == 1) with
        | false =>
          have h2' : dg / 2 % 2 ≠ 1 := by intro h; rw [h] at h2; cases h2
          have hcnt : (if dg / 2 % 2 = 1 then [(n - (i + 1), 0)] else ([] : List (Nat × Nat))).length = 0 := by rw [if_neg h2']; rfl
          refine sy_no 0 (b := andI (Int.ofNat dg) 2 != 0) (by kernel_rfl) (by rw [and2 hg8, h2]) ?_
          refine ok_go 5 ?_
          refine sy_loop 0 lf g (α := Nat) (fun x => [(0, .func (.yield y) #[] #[]), (1, ptr a 0), (2, ptr b 0), (5, J dg), (6, I (IntKind.wrap .i64 (IntKind.wrap .i64 (Int.ofNat n - Int.ofNat i) - 1))), (7, J x), (8, .slice xa d.length xc), (9, J d.length), (10, J i)]) (fun x g => 1 ≤ x ∧ (dg / 4 % 2 = 1 → 2 * (x - 1) ≤ n - (i + 1)) ∧ (dg / 4 % 2 ≠ 1 → x = 1) ∧ Iv ((ops (d.take i) 0 n).length + 0 + (x - 1)) g) (fun x _ => n - x) 1 (by kernel_rfl) (by kernel_rfl)
            ⟨by kernel_rfl, by kernel_rfl, by kernel_rfl, by kernel_rfl, by kernel_rfl, by kernel_rfl, by kernel_rfl, by kernel_rfl, by kernel_rfl, trivial⟩ (show n - 1 < lf by omega) ⟨Nat.le_refl 1, fun _ => by omega, fun _ => rfl, hJ⟩ ?_
          rintro m2 x f2 gx ⟨hx1, hx2, hx3, Jx⟩ ih2
          cases h4 : (dg / 4 % 2 == 1) with
          | false =>
            have h4' : dg / 4 % 2 ≠ 1 := by intro h; rw [h] at h4; cases h4
            obtain rfl : x = 1 := hx3 h4'
            refine ok_go 2 ?_
            refine sy_no 0 (b := andI (Int.ofNat dg) 4 != 0) (by kernel_rfl) (by rw [and4 hg8, h4]) ?_
            refine ok_go 6 ?_
            exact sy_next 0 _ gx (by kernel_rfl) (by kernel_rfl) (ih (i + 1) _ gx ⟨ht, by rw [hsn, List.length_append]; rw [ho, if_neg h4', List.append_nil, hcnt]; exact Jx⟩ (show d.length - (i + 1) < d.length - i by omega) ⟨by kernel_rfl, by kernel_rfl, by kernel_rfl, by kernel_rfl, by kernel_rfl, (by kernel_rfl : _ = Value.int .i64 (IntKind.wrap .i64 (Int.ofNat (i + 1)))).trans (by rw [hw]), trivial⟩)
          | true =>
            have h4' : dg / 4 % 2 = 1 := by simpa using h4
            have hx2 := hx2 h4'
            have hwx : IntKind.wrap .i64 (2 * Int.ofNat x) = Int.ofNat (2 * x) := wrap_nat (n := 2 * x) (by omega)
            refine ok_go 2 ?_
            refine sy_yes 0 (b := andI (Int.ofNat dg) 4 != 0) (by kernel_rfl) (by rw [and4 hg8, h4]) ?_
            refine ok_go 6 ?_
            refine sy_test 0 (decide (IntKind.wrap .i64 (2 * Int.ofNat x) ≤ (IntKind.wrap .i64 (IntKind.wrap .i64 (Int.ofNat n - Int.ofNat i) - 1)))) (by kernel_rfl) ?_ ?_
            · intro hle
              have hle : 2 * x ≤ n - (i + 1) := by
                have := of_decide_eq_true hle
                rw [hwx, hLV] at this
                exact Int.ofNat_le.1 this
              have hsub : IntKind.wrap .i64 ((IntKind.wrap .i64 (IntKind.wrap .i64 (Int.ofNat n - Int.ofNat i) - 1)) - Int.ofNat x) = Int.ofNat (n - (i + 1) - x) := by rw [hLV]; exact wrap_sub (by omega) (by omega)
              have hw2 : IntKind.wrap .i64 (Int.ofNat (x + 1)) = Int.ofNat (x + 1) := wrap_nat (by omega)
              obtain ⟨g2, e2, J2⟩ := hy _ (x, n - (i + 1) - x) gx (by
                have hsub : (ops (d.take (i + 1)) 0 n)[(ops (d.take i) 0 n).length + 0 + (x - 1)]? = some (x, n - (i + 1) - x) := by
                  rw [hsn, Nat.add_assoc, List.getElem?_append_right (by omega), Nat.add_sub_cancel_left, ho, if_pos h4', List.getElem?_append_right (by rw [hcnt]; omega), hcnt, Nat.add_sub_cancel_left, List.getElem?_map, List.getElem?_range (by omega)]
                  show some (x - 1 + 1, n - (i + 1) - (x - 1 + 1)) = _
                  rw [show x - 1 + 1 = x by omega]
                exact hpre _ _ _ hsub) Jx
              have e2' : evInv Tryz.prog orc lf m (.yield y [J x, I (IntKind.wrap .i64 ((IntKind.wrap .i64 (IntKind.wrap .i64 (Int.ofNat n - Int.ofNat i) - 1)) - Int.ofNat x))]) gx = some (.bool true, g2) := by rw [hsub]; exact e2
              refine ok_go 1 ?_
              refine sy_call 0 (by kernel_rfl) e2' ?_
              refine ok_go 3 ?_
              exact sy_next 0 _ g2 (by kernel_rfl) (by kernel_rfl) (ih2 (x + 1) _ g2 ⟨by omega, fun _ => by omega, fun h => absurd h4' h, by rw [show x + 1 - 1 = x - 1 + 1 by omega, ← Nat.add_assoc]; exact J2⟩ (show n - (x + 1) < n - x by omega) ⟨by kernel_rfl, by kernel_rfl, by kernel_rfl, by kernel_rfl, by kernel_rfl, (by kernel_rfl : _ = Value.int .i64 (IntKind.wrap .i64 (Int.ofNat (x + 1)))).trans (by rw [hw2]), by kernel_rfl, by kernel_rfl, by kernel_rfl, trivial⟩)
            · intro hle
              have hle : n - (i + 1) < 2 * x := by
                have := of_decide_eq_false hle
                rw [hwx, hLV] at this
                exact Int.ofNat_lt.1 (Int.not_le.1 this)
              refine ok_go 1 ?_
              exact sy_next 0 _ gx (by kernel_rfl) (by kernel_rfl) (ih (i + 1) _ gx ⟨ht, by rw [hsn, List.length_append]; rw [ho, if_pos h4', List.length_append, hcnt, List.length_map, List.length_range, show (n - (i + 1)) / 2 = x - 1 by omega, ← Nat.add_assoc]; exact Jx⟩ (show d.length - (i + 1) < d.length - i by omega) ⟨by kernel_rfl, by kernel_rfl, by kernel_rfl, by kernel_rfl, by kernel_rfl, (by kernel_rfl : _ = Value.int .i64 (IntKind.wrap .i64 (Int.ofNat (i + 1)))).trans (by rw [hw]), trivial⟩)
        | true =>
          have h2' : dg / 2 % 2 = 1 := by simpa using h2
          have hcnt : (if dg / 2 % 2 = 1 then [(n - (i + 1), 0)] else ([] : List (Nat × Nat))).length = 1 := by rw [if_pos h2']; rfl
          refine sy_yes 0 (b := andI (Int.ofNat dg) 2 != 0) (by kernel_rfl) (by rw [and2 hg8, h2]) ?_
          obtain ⟨g1, e1, J1⟩ := hy _ (n - (i + 1), 0) g (by
            have hsub : (ops (d.take (i + 1)) 0 n)[(ops (d.take i) 0 n).length]? = some (n - (i + 1), 0) := by rw [hsn, ho, List.getElem?_append_right (Nat.le_refl _), Nat.sub_self, if_pos h2']; rfl
            exact hpre _ _ _ hsub) hJ
          have e1' : evInv Tryz.prog orc lf m (.yield y [I (IntKind.wrap .i64 (IntKind.wrap .i64 (Int.ofNat n - Int.ofNat i) - 1)), J 0]) g = some (.bool true, g1) := by rw [hLV]; exact e1
          refine ok_go 2 ?_
          refine sy_call 0 (by kernel_rfl) e1' ?_
          refine ok_go 4 ?_
          refine ok_go 0 ?_
          refine sy_loop 0 lf g1 (α := Nat) (fun x => [(0, .func (.yield y) #[] #[]), (1, ptr a 0), (2, ptr b 0), (5, J dg), (6, I (IntKind.wrap .i64 (IntKind.wrap .i64 (Int.ofNat n - Int.ofNat i) - 1))), (7, J x), (8, .slice xa d.length xc), (9, J d.length), (10, J i)]) (fun x g => 1 ≤ x ∧ (dg / 4 % 2 = 1 → 2 * (x - 1) ≤ n - (i + 1)) ∧ (dg / 4 % 2 ≠ 1 → x = 1) ∧ Iv ((ops (d.take i) 0 n).length + 1 + (x - 1)) g) (fun x _ => n - x) 1 (by kernel_rfl) (by kernel_rfl)
            ⟨by kernel_rfl, by kernel_rfl, by kernel_rfl, by kernel_rfl, by kernel_rfl, by kernel_rfl, by kernel_rfl, by kernel_rfl, by kernel_rfl, trivial⟩ (show n - 1 < lf by omega) ⟨Nat.le_refl 1, fun _ => by omega, fun _ => rfl, J1⟩ ?_
          rintro m2 x f2 gx ⟨hx1, hx2, hx3, Jx⟩ ih2
          cases h4 : (dg / 4 % 2 == 1) with
          | false =>
            have h4' : dg / 4 % 2 ≠ 1 := by intro h; rw [h] at h4; cases h4
            obtain rfl : x = 1 := hx3 h4'
            refine ok_go 2 ?_
            refine sy_no 0 (b := andI (Int.ofNat dg) 4 != 0) (by kernel_rfl) (by rw [and4 hg8, h4]) ?_
            refine ok_go 6 ?_
            exact sy_next 0 _ gx (by kernel_rfl) (by kernel_rfl) (ih (i + 1) _ gx ⟨ht, by rw [hsn, List.length_append]; rw [ho, if_neg h4', List.append_nil, hcnt]; exact Jx⟩ (show d.length - (i + 1) < d.length - i by omega) ⟨by kernel_rfl, by kernel_rfl, by kernel_rfl, by kernel_rfl, by kernel_rfl, (by kernel_rfl : _ = Value.int .i64 (IntKind.wrap .i64 (Int.ofNat (i + 1)))).trans (by rw [hw]), trivial⟩)
          | true =>
            have h4' : dg / 4 % 2 = 1 := by simpa using h4
            have hx2 := hx2 h4'
            have hwx : IntKind.wrap .i64 (2 * Int.ofNat x) = Int.ofNat (2 * x) := wrap_nat (n := 2 * x) (by omega)
            refine ok_go 2 ?_
            refine sy_yes 0 (b := andI (Int.ofNat dg) 4 != 0) (by kernel_rfl) (by rw [and4 hg8, h4]) ?_
            refine ok_go 6 ?_
            refine sy_test 0 (decide (IntKind.wrap .i64 (2 * Int.ofNat x) ≤ (IntKind.wrap .i64 (IntKind.wrap .i64 (Int.ofNat n - Int.ofNat i) - 1)))) (by kernel_rfl) ?_ ?_
            · intro hle
              have hle : 2 * x ≤ n - (i + 1) := by
                have := of_decide_eq_true hle
                rw [hwx, hLV] at this
                exact Int.ofNat_le.1 this
              have hsub : IntKind.wrap .i64 ((IntKind.wrap .i64 (IntKind.wrap .i64 (Int.ofNat n - Int.ofNat i) - 1)) - Int.ofNat x) = Int.ofNat (n - (i + 1) - x) := by rw [hLV]; exact wrap_sub (by omega) (by omega)
              have hw2 : IntKind.wrap .i64 (Int.ofNat (x + 1)) = Int.ofNat (x + 1) := wrap_nat (by omega)
              obtain ⟨g2, e2, J2⟩ := hy _ (x, n - (i + 1) - x) gx (by
                have hsub : (ops (d.take (i + 1)) 0 n)[(ops (d.take i) 0 n).length + 1 + (x - 1)]? = some (x, n - (i + 1) - x) := by
                  rw [hsn, Nat.add_assoc, List.getElem?_append_right (by omega), Nat.add_sub_cancel_left, ho, if_pos h4', List.getElem?_append_right (by rw [hcnt]; omega), hcnt, Nat.add_sub_cancel_left, List.getElem?_map, List.getElem?_range (by omega)]
                  show some (x - 1 + 1, n - (i + 1) - (x - 1 + 1)) = _
                  rw [show x - 1 + 1 = x by omega]
                exact hpre _ _ _ hsub) Jx
              have e2' : evInv Tryz.prog orc lf m (.yield y [J x, I (IntKind.wrap .i64 ((IntKind.wrap .i64 (IntKind.wrap .i64 (Int.ofNat n - Int.ofNat i) - 1)) - Int.ofNat x))]) gx = some (.bool true, g2) := by rw [hsub]; exact e2
              refine ok_go 1 ?_
              refine sy_call 0 (by kernel_rfl) e2' ?_
              refine ok_go 3 ?_
              exact sy_next 0 _ g2 (by kernel_rfl) (by kernel_rfl) (ih2 (x + 1) _ g2 ⟨by omega, fun _ => by omega, fun h => absurd h4' h, by rw [show x + 1 - 1 = x - 1 + 1 by omega, ← Nat.add_assoc]; exact J2⟩ (show n - (x + 1) < n - x by omega) ⟨by kernel_rfl, by kernel_rfl, by kernel_rfl, by kernel_rfl, by kernel_rfl, (by kernel_rfl : _ = Value.int .i64 (IntKind.wrap .i64 (Int.ofNat (x + 1)))).trans (by rw [hw2]), by kernel_rfl, by kernel_rfl, by kernel_rfl, trivial⟩)
            · intro hle
              have hle : n - (i + 1) < 2 * x := by
                have := of_decide_eq_false hle
                rw [hwx, hLV] at this
                exact Int.ofNat_lt.1 (Int.not_le.1 this)
              refine ok_go 1 ?_
              exact sy_next 0 _ gx (by kernel_rfl) (by kernel_rfl) (ih (i + 1) _ gx ⟨ht, by rw [hsn, List.length_append]; rw [ho, if_pos h4', List.length_append, hcnt, List.length_map, List.length_range, show (n - (i + 1)) / 2 = x - 1 by omega, ← Nat.add_assoc]; exact Jx⟩ (show d.length - (i + 1) < d.length - i by omega) ⟨by kernel_rfl, by kernel_rfl, by kernel_rfl, by kernel_rfl, by kernel_rfl, (by kernel_rfl : _ = Value.int .i64 (IntKind.wrap .i64 (Int.ofNat (i + 1)))).trans (by rw [hw]), trivial⟩)
  · intro ht
    have ht := no_nat ht
    refine sy_done 0 (v := Value.tuple { toList := [] }) (h := g) (by kernel_rfl) ?_
    obtain rfl : i = d.length := by omega
    rwa [List.take_length] at hJ
theorem moves_of (xa : Option Addr) (k xc : Nat) (n : Int) (lf m : Nat) (h : Hp) : ∃ v h', Ev lf (m + 1) 22 [.slice xa k xc, I n] h = some (v, h') ∧ v = .func (.func 46) #[] #[ptr h.next 0, ptr (h.next + 1) 0] ∧ h'.next = h.next + 2 ∧ Sto h h' [(h.next + 1, .cells [I n] 3 false), (h.next, .cells [.slice xa k xc] 22 false)] := by
  refine fnS_ok (Q := fun v h' => v = .func (.func 46) #[] #[ptr h.next 0, ptr (h.next + 1) 0] ∧ h'.next = h.next + 2 ∧ Sto h h' [(h.next + 1, .cells [I n] 3 false), (h.next, .cells [.slice xa k xc] 22 false)]) ?_
  have W := Sto.start h
  refine ow_new 0 W (AObj.cells [Value.slice xa k xc] 22 false) (fun q => Value.pointer (some { block := q, off := 0 })) (by kernel_rfl) fun g1 ng1 Wg1 => ?_
  have W := Wg1
  refine ow_new 0 W (AObj.cells [Value.int IntKind.i64 n] 3 false) (fun q => Value.pointer (some { block := q, off := 0 })) (by kernel_rfl) fun g2 ng2 Wg2 => ?_
  have W := Wg2
  refine ok_go 1 ?_
  rw [ng1] at W ng2
  refine ok_go 0 ?_
  refine sy_done 0 (v := .func (.func 46) #[] #[ptr h.next 0, ptr g1.next 0]) (h := g2) (by kernel_rfl) ⟨by rw [ng1], by omega, W⟩
def kc (n : Nat) : Nat := match n with | 0 => 2 | n + 1 => 2 * (n + 2) + 1
def opn (n : Nat) : Bool := match n with | 0 => false | _ + 1 => true
theorem kn_app {h H : Hp} {l : List (Nat × AObj)} {n i j : Nat} {vs : List Value} {v : Value} (hv : scalar v = true) (hall : vs.all scalar = true) (hl : vs.length = n + 1) (hn : n < 100000) (W : Sto h H ((j, .cells [v] 3 false) :: (i, .cells vs 3 (opn n)) :: l)) :
    ∃ H', appendOp Tryz.prog H 22 (.slice (some ⟨i, 0, none⟩) (n + 1) (kc n)) (.slice (some ⟨j, 0, none⟩) 1 2) = some (.slice (some ⟨H.next, 0, none⟩) (n + 2) (kc (n + 1)), H') ∧ H'.next = H.next + 1 ∧ Sto h H' ((H.next, .cells (vs ++ [v]) 3 true) :: l) := by
  have hel : elems H 1 1 (.slice (some ⟨j, 0, none⟩) 1 2) = some [v] := by simp only [elems, loadN, W.get 0 rfl]; rfl
  have u : Tryz.prog.underlying 22 = some (.slice 3) := slz32.u
  obtain ⟨inf, hi1, hi2⟩ := slz32.i
  obtain ⟨zv, hz1, hz2⟩ := slz32.zr
  cases n with
  | zero =>
    have hg : H.get i = some (.cells vs 3 false) := W.get 1 rfl
    have hld : loadN H i 0 (1 * 1) = some vs := by
      simp only [loadN, hg, List.drop_zero]
      rw [show 1 * 1 = vs.length by rw [hl]]
      exact takeN_all vs
    refine ⟨H.new (.cells (vs ++ [v]) 3 true), ?_, rfl, (W.drop 2).new _⟩
    simp only [appendOp, u, slz32.s, hi1, hz1, hz2, hi2, hel, show lenV (.slice (some ⟨j, 0, none⟩) 1 2) = some 1 from rfl, List.all_cons, List.all_nil, hv, Bool.and_true, kc]
    simp only [show Nat.ble (0 + 1 + 1) most = true from Nat.ble_eq_true_of_le (by unfold most; omega), show Nat.ble (0 + 1 + 1) (2 / 2) = false from rfl, show Nat.beq (2 % 2) 0 = true from rfl, Nat.zero_add, hld]
  | succ n =>
    cases vs with
    | nil => simp at hl
    | cons v0 r =>
      have W2 : Sto h H (((j, .cells [v] 3 false) :: l) ++ oent i 3 (v0 :: r)) := W.perm (by
        refine List.Perm.cons _ ?_
        exact (List.perm_append_comm (l₁ := [(i, AObj.cells (v0 :: r) 3 true)]) (l₂ := l)))
      obtain ⟨H', e, hn', V⟩ := append_sto (n := n + 2) (m := 0) (new := [v]) (x := .slice (some ⟨j, 0, none⟩) 1 2) W2 slz32 (by rw [Nat.mul_one]; exact hl) rfl rfl hel (by simp [hv]) (by omega)
      exact ⟨H', e, hn', (V.drop 1).perm (List.perm_append_comm)⟩
theorem updc {N : Nat} {l : List Nat} {j x : Nat} (hj : l[j]? = some x) : cellsF N (updF (fun c => Value.bool ((l.take j).contains c)) x (.bool true)) = cellsF N (fun c => Value.bool ((l.take (j + 1)).contains c)) := by
  have ht := (List.getElem?_eq_some_iff.1 hj).1
  have hx := (List.getElem?_eq_some_iff.1 hj).2
  refine cellsF_congr fun c _ => ?_
  rw [List.take_succ_eq_append_getElem ht, hx]
  unfold updF
  by_cases hc : c = x
  · rw [if_pos hc]
    exact congrArg Value.bool (List.contains_iff_mem.2 (List.mem_append_right _ (List.mem_singleton.2 hc))).symm
  · rw [if_neg hc]
    show Value.bool ((l.take j).contains c) = _
    have : (l.take j).contains c = (l.take j ++ [x]).contains c := by
      rw [Bool.eq_iff_iff, List.contains_iff_mem, List.contains_iff_mem, List.mem_append, List.mem_singleton]
      exact ⟨.inl, fun h => h.resolve_right hc⟩
    rw [this]
theorem values_run (d : List Nat) (hd : ∀ x ∈ d, x < 8) (hl : d.length ≤ 8) (N : Nat) (hN : N ≤ 2100) (lf m y cp : Nat) (hlf : 20000 ≤ lf) (hb : Hp) (CI : Nat → List (Nat × AObj) → Prop) (CE : List (Nat × AObj) → Prop)
    (hy : ∀ n C g F, n < N → CI n C → Sto hb g (C ++ F) → ∃ g' C', evInv Tryz.prog orc lf (m + 2) (.yield y [J n, J (gv d n)]) g = some (.bool true, g') ∧ Sto hb g' (C' ++ F) ∧ CI (n + 1) C')
    (hy2 : ∀ C g F, CI N C → Sto hb g (C ++ F) → ∃ g' C', evInv Tryz.prog orc lf (m + 2) (.yield y [J N, J (gv d N)]) g = some (.bool false, g') ∧ Sto hb g' (C' ++ F) ∧ CE C')
    (dg : ∀ h, ∃ v h', Ev lf (m + 2) 23 [.string (strL (codeS d))] h = some (v, h') ∧ ∃ q, v = oslV q d.length ∧ Sto h h' (oent q 3 (d.map J)))
    (mv : ∀ xa k xc n h, ∃ v h', Ev lf (m + 2) 22 [.slice xa k xc, I n] h = some (v, h') ∧ v = .func (.func 46) #[] #[ptr h.next 0, ptr (h.next + 1) 0] ∧ h'.next = h.next + 2 ∧ Sto h h' [(h.next + 1, .cells [I n] 3 false), (h.next, .cells [.slice xa k xc] 22 false)])
    (ms : ∀ f q k h, MarkB q 8192 f h → k < 8192 → f k = false → (∀ j, j < k → f j = true) → Ev lf (m + 2) 65 [ptr q 0] h = some (J k, h))
    (C0 F0 : List (Nat × AObj)) (h : Hp) (h0 : CI 0 C0) (W : Sto hb h (C0 ++ ((cp, .cells [.string (strL (codeS d))] 9 false) :: F0))) :
    ∃ v h', Ev lf (m + 3) 64 [.func (.yield y) #[] #[], ptr cp 0] h = some (v, h') ∧ ∃ C', CE C' ∧ Sto hb h' (C' ++ ((cp, .cells [.string (strL (codeS d))] 9 false) :: F0)) := by
  refine fnS_ok (Q := fun v h' => ∃ C', CE C' ∧ Sto hb h' (C' ++ ((cp, .cells [.string (strL (codeS d))] 9 false) :: F0))) ?_
  have W := W.perm List.perm_append_comm
  rw [List.cons_append] at W
  refine ow_load (P := Tryz.prog) (T := 9) (off := 0) 0 0 W rfl rfl (by kernel_rfl) (by kernel_rfl) ?_
  obtain ⟨y1, q1, ec1, rc1⟩ := dg (h)
  refine sy_call 0 (by kernel_rfl) ec1 ?_
  obtain ⟨dq, hdq, W1⟩ := rc1
  have W := W.over W1
  obtain ⟨xa, xc, hsh⟩ : ∃ a c, y1 = .slice a d.length c := by
    rw [hdq]; cases d.length <;> exact ⟨_, _, rfl⟩
  refine ow_new 0 W (AObj.cells [Value.int IntKind.i64 (Int.ofNat 0)] 3 false) (fun q => Value.slice (some { block := q, off := 0 }) 1 2) (by kernel_rfl) fun g1 ng1 Wg1 => ?_
  have W := Wg1
  refine ow_new 0 W (AObj.cells [Value.slice none 0 0] 22 false) (fun q => Value.pointer (some { block := q, off := 0 })) (by kernel_rfl) fun g2 ng2 Wg2 => ?_
  have W := Wg2
  refine ow_store (P := Tryz.prog) (T := 22) (off := 0) (v := Value.slice (some { block := Hp.next q1, off := 0 }) 1 2) 0 0 W rfl (Nat.le_of_ble_eq_true (by kernel_rfl)) (by kernel_rfl) (by first | rfl | assumption) (by kernel_rfl) fun g3 ng3 Wg3 => ?_
  have W := Wg3
  have key : ∀ (K : Nat) (R : List (Nat × AObj)), True := fun _ _ => trivial
  let R0 : List (Nat × AObj) := oent dq 3 (d.map J) ++ (cp, .cells [.string (strL (codeS d))] 9 false) :: F0
  let B : Nat → Nat → List Nat → List (Nat × AObj) := fun n ki ds => (g1.next, .cells [.slice (some ⟨ki, 0, none⟩) (n + 1) (kc n)] 22 false) :: (ki, .cells (cellsF (n + 1) fun k => J (gv d k)) 3 (opn n)) :: (R0 ++ ds.map (fun d => (d, .defd false)))
  refine sy_loop 0 lf g3 (α := Nat × Nat × List (Nat × AObj) × List Nat) (fun x => [(0, .func (.yield y) #[] #[]), (3, y1), (4, ptr g1.next 0), (5, J x.1), (slotD, marksV x.2.2.2)])
    (fun x g => x.1 ≤ N ∧ CI x.1 x.2.2.1 ∧ Sto hb g (B x.1 x.2.1 x.2.2.2 ++ x.2.2.1))
    (fun x _ => N - x.1) (0, q1.next, C0, []) (by kernel_rfl) (by kernel_rfl) ⟨by kernel_rfl, by kernel_rfl, by kernel_rfl, by kernel_rfl, by kernel_rfl, trivial⟩ (show N - 0 < lf by omega) ⟨Nat.zero_le _, h0, by
      show Sto hb g3 ((g1.next, .cells [.slice (some ⟨q1.next, 0, none⟩) 1 2] 22 false) :: (q1.next, .cells [J 0] 3 false) :: ((R0 ++ []) ++ C0))
      rw [List.append_nil, List.append_assoc, List.cons_append]
      exact W⟩ ?_
  rintro m1 ⟨n, ki, C, ds⟩ f1 g ⟨hn, hC, W⟩ ih
  dsimp only at hn hC W
  have W : Sto hb g ((g1.next, .cells [.slice (some ⟨ki, 0, none⟩) (n + 1) (kc n)] 22 false) :: (ki, .cells (cellsF (n + 1) fun k => J (gv d k)) 3 (opn n)) :: ((R0 ++ ds.map (fun d => (d, .defd false))) ++ C)) := W
  refine ow_load (P := Tryz.prog) (T := 22) (off := 0) 0 0 W rfl rfl (by kernel_rfl) (by kernel_rfl) ?_
  refine sy_load 0 (r := indexAddrOp Tryz.prog 22 (Value.slice (some { block := ki, off := 0 }) (n + 1) (kc n)) (Value.int IntKind.i64 (Int.ofNat (Prod.fst (n, ki, C, ds))))) (h' := g) (by kernel_rfl) (idxS0 (e := 3) (by kernel_rfl) (by kernel_rfl) (by omega)) ?_
  refine ow_loadF (P := Tryz.prog) (T := 3) (off := Prod.fst (n, ki, C, ds)) 0 1 W rfl (by omega) (by kernel_rfl) (by kernel_rfl) ?_
  have Wc : Sto hb g (C ++ B n ki ds) := W.perm (List.perm_append_comm (l₁ := B n ki ds) (l₂ := C))
  rcases Nat.lt_or_ge n N with hlt | hge
  · obtain ⟨g5, C5, e5, W5, hC5⟩ := hy n C g _ hlt hC Wc
    refine sy_call 0 (by kernel_rfl) e5 ?_
    have W : Sto hb g5 ((g1.next, .cells [.slice (some ⟨ki, 0, none⟩) (n + 1) (kc n)] 22 false) :: (ki, .cells (cellsF (n + 1) fun k => J (gv d k)) 3 (opn n)) :: ((R0 ++ ds.map (fun d => (d, .defd false))) ++ C5)) := W5.perm (List.perm_append_comm (l₁ := C5) (l₂ := B n ki ds))
    refine ok_go 1 ?_
    refine ow_new 0 W (.cells (cellsF 8192 fun _ => .bool false) 92 false) (fun q => ptr q 0) (by kernel_rfl) fun g6 ng6 W => ?_
    rw [hsh]
    have hwn : IntKind.wrap .i64 (Int.ofNat (n + 1)) = Int.ofNat (n + 1) := wrap_nat (by omega)
    obtain ⟨_, g7, e7, rfl, ng7, W7⟩ := mv xa d.length xc (IntKind.wrap .i64 (Int.ofNat (n + 1))) g6
    rw [hwn] at W7
    have W := W.over W7
    rw [List.cons_append, List.cons_append, List.nil_append] at W
    refine ok_go 1 ?_
    refine sy_call 0 (by kernel_rfl) e7 ?_
    refine ow_range 0 (callF := evInv Tryz.prog orc lf (m + 2)) (P := Tryz.prog) (lf := lf) (m := 41) (rcOf Tryz.prog 64 0) W [(4, ptr g1.next 0), (6, ptr g5.next 0)] 46 [.func (.yield (g7.next + 1)) #[] #[], ptr g6.next 0, ptr (g6.next + 1) 0]
      (by kernel_rfl) (fun F => by kernel_rfl) ⟨by kernel_rfl, by kernel_rfl, trivial⟩ (by kernel_rfl) (by kernel_rfl) fun F1 f2 HH hr nH W => ?_
    let CC : RC := rcOf Tryz.prog 64 0
    let ov : List Nat := (ops d 0 (n + 1)).map fun p => gv d p.1 ^^^ gv d p.2
    let Iv : Nat → Hp → Prop := fun j q => Sto hb q ((g7.next + 1, CC.obj F1 g7.next .ready none) :: (g7.next, .defd false) :: (g6.next + 1, .cells [J (n + 1)] 3 false) :: (g6.next, .cells [.slice xa d.length xc] 22 false) :: (g5.next, .cells (cellsF 8192 fun c => .bool ((ov.take j).contains c)) 92 false) ::
      (g1.next, .cells [.slice (some ⟨ki, 0, none⟩) (n + 1) (kc n)] 22 false) :: (ki, .cells (cellsF (n + 1) fun k => J (gv d k)) 3 (opn n)) :: ((R0 ++ ds.map (fun d => (d, .defd false))) ++ C5))
    have hI : ∀ j q, Iv j q → q.get g6.next = some (.cells [.slice xa d.length xc] 22 false) ∧ q.get (g6.next + 1) = some (.cells [J (n + 1)] 3 false) ∧ Rds q (.slice xa d.length xc) (d.map J) := fun j q W => by
      refine ⟨W.get 3 rfl, W.get 2 rfl, ?_⟩
      have := osl_rd (e := 3) (i := dq) (zs := d.map J) (H := q) (fun p hp => by
        have := W.all p (by simp only [R0, List.mem_cons, List.mem_append]; exact .inr (.inr (.inr (.inr (.inr (.inr (.inr (.inl (.inl (.inl hp)))))))))) 
        exact this.2)
      rw [List.length_map, ← hdq, hsh] at this
      exact this
    have hyI : ∀ j p q, (ops d 0 (n + 1))[j]? = some p → Iv j q → ∃ q', evInv Tryz.prog orc lf (m + 1) (.yield (g7.next + 1) [J p.1, J p.2]) q = some (.bool true, q') ∧ Iv (j + 1) q' := fun j p q hp W => by
      have key : ∃ w q', evInv Tryz.prog orc lf (m + 1) (.yield (g7.next + 1) [J p.1, J p.2]) q = some (w, q') ∧ (w = .bool true ∧ Iv (j + 1) q') := by
        refine yld_ok (c := CC) (Q := fun w q' => w = .bool true ∧ Iv (j + 1) q') hr (W.get 0 rfl) (by kernel_rfl) ?_
        have W : Sto hb q ((g7.next + 1, CC.obj F1 g7.next .ready none) :: (g7.next, .defd false) :: (g6.next + 1, .cells [J (n + 1)] 3 false) :: (g6.next, .cells [.slice xa d.length xc] 22 false) :: (g5.next, .cells (cellsF 8192 fun c => .bool ((ov.take j).contains c)) 92 false) ::
          (g1.next, .cells [.slice (some ⟨ki, 0, none⟩) (n + 1) (kc n)] 22 false) :: (ki, .cells (cellsF (n + 1) fun k => J (gv d k)) 3 (opn n)) :: ((R0 ++ ds.map (fun d => (d, .defd false))) ++ C5)) := W
        have hlt2 := ops_lt (List.mem_of_getElem? hp)
        refine ow_busy 0 0 W rfl (by kernel_rfl) fun b1 nb1 Wb1 => ?_
        have W := Wb1
        refine ow_load (P := Tryz.prog) (T := 22) (off := 0) 0 5 W rfl rfl (by kernel_rfl) (by kernel_rfl) ?_
        refine sy_load 0 (r := indexAddrOp Tryz.prog 22 (Value.slice (some { block := ki, off := 0 }) (n + 1) (kc n)) (Value.int IntKind.i64 (Int.ofNat (Prod.fst p)))) (h' := b1) (by kernel_rfl) (idxS0 (e := 3) (by kernel_rfl) (by kernel_rfl) (by omega)) ?_
        refine ow_loadF (P := Tryz.prog) (T := 3) (off := Prod.fst p) 0 6 W rfl (by omega) (by kernel_rfl) (by kernel_rfl) ?_
        refine ow_load (P := Tryz.prog) (T := 22) (off := 0) 0 5 W rfl rfl (by kernel_rfl) (by kernel_rfl) ?_
        refine sy_load 0 (r := indexAddrOp Tryz.prog 22 (Value.slice (some { block := ki, off := 0 }) (n + 1) (kc n)) (Value.int IntKind.i64 (Int.ofNat (Prod.snd p)))) (h' := b1) (by kernel_rfl) (idxS0 (e := 3) (by kernel_rfl) (by kernel_rfl) (by omega)) ?_
        refine ow_loadF (P := Tryz.prog) (T := 3) (off := Prod.snd p) 0 6 W rfl (by omega) (by kernel_rfl) (by kernel_rfl) ?_
        refine ok_go 1 ?_
        have ga := gv_self d p.1
        have gb := gv_self d p.2
        have hx : xorI (Int.ofNat (gv d p.1)) (Int.ofNat (gv d p.2)) = Int.ofNat (gv d p.1 ^^^ gv d p.2) := xor_nat (by omega) (by omega)
        have hlt3 : gv d p.1 ^^^ gv d p.2 < n + 1 := opt_le d (n + 1) (List.mem_of_getElem? hp)
        refine sy_load 0 (r := indexAddrOp Tryz.prog 92 (ptr g5.next 0) (I (xorI (Int.ofNat (gv d p.1)) (Int.ofNat (gv d p.2))))) (h' := b1) (by kernel_rfl) (by rw [hx]; exact idxA0 (n := 8192) (e := 4) (by kernel_rfl) (by kernel_rfl) (by omega)) ?_
        have Wb1 := W
        refine ok_go 0 ?_
        refine ow_storeF (P := Tryz.prog) (T := 4) (off := gv d p.1 ^^^ gv d p.2) (v := .bool true) 0 4 W rfl (by omega) (by kernel_rfl) rfl (by kernel_rfl) fun b2 nb2 W => ?_
        refine ow_round 0 0 W rfl (by kernel_rfl) fun c1 nc1 Wc1 => ?_
        have W := Wc1
        have hov : ov[j]? = some (gv d p.1 ^^^ gv d p.2) := by
          show ((ops d 0 (n + 1)).map fun p => gv d p.1 ^^^ gv d p.2)[j]? = _
          rw [List.getElem?_map, hp]; rfl
        have hcu := updc (N := 8192) hov
        refine sy_done 0 (v := Value.bool true) (h := c1) (by kernel_rfl) ?_
        refine ⟨rfl, ?_⟩
        show Sto hb c1 (_ :: _ :: _ :: _ :: (g5.next, .cells (cellsF 8192 fun c => .bool ((ov.take (j + 1)).contains c)) 92 false) :: _)
        rw [← hcu]
        exact W
      obtain ⟨w, q', e, rfl, J1⟩ := key
      exact ⟨q', e, J1⟩
    obtain ⟨v8, h8, e8, J8⟩ := moves_run d (n + 1) (by omega) hd hl lf (m + 1) g6.next (g6.next + 1) (g7.next + 1) hlf xa xc Iv hI hyI HH W
    have hol : (ops d 0 (n + 1)).length = ov.length := (List.length_map _).symm
    rw [hol] at J8
    have J9 : Sto hb h8 ((g7.next + 1, CC.obj F1 g7.next .ready none) :: (g7.next, .defd false) :: (g6.next + 1, .cells [J (n + 1)] 3 false) :: (g6.next, .cells [.slice xa d.length xc] 22 false) :: (g5.next, .cells (cellsF 8192 fun c => .bool (ov.contains c)) 92 false) ::
      (g1.next, .cells [.slice (some ⟨ki, 0, none⟩) (n + 1) (kc n)] 22 false) :: (ki, .cells (cellsF (n + 1) fun k => J (gv d k)) 3 (opn n)) :: ((R0 ++ ds.map (fun d => (d, .defd false))) ++ C5)) := by
      have := J8
      simp only [Iv, List.take_length] at this
      exact this
    refine ⟨v8, h8, .ready, none, g7.next, .normal, _, e8, J9, by decide, rfl, fun h9 n9 W => ?_⟩
    have hmex : gv d (n + 1) = mex ov := gv_succ d n
    obtain ⟨mx1, mx2⟩ := mex_spec ov
    have e9 := ms (fun c => ov.contains c) g5.next (gv d (n + 1)) h9 ⟨_, _, W.get 3 rfl⟩ (by have := gv_self d (n + 1); omega) (by
      rw [hmex]
      cases hc : ov.contains (mex ov) with
      | false => rfl
      | true => exact absurd (List.contains_iff_mem.1 hc) mx2) (fun j hj => by rw [hmex] at hj; exact List.contains_iff_mem.2 (mx1 j hj))
    have Wh9 := W
    refine ow_load (P := Tryz.prog) (T := 22) (off := 0) 0 4 W rfl rfl (by kernel_rfl) (by kernel_rfl) ?_
    refine sy_call 0 (by kernel_rfl) e9 ?_
    refine ow_new 0 W (AObj.cells [Value.int IntKind.i64 (Int.ofNat (gv d (n + 1)))] 3 false) (fun q => Value.slice (some { block := q, off := 0 }) 1 2) (by kernel_rfl) fun r1 nr1 Wr1 => ?_
    have W := Wr1
    have Wp := W.perm (List.Perm.cons _ (List.perm_middle (l₁ := [_, _, _, _, _])))
    obtain ⟨r2, e10, nr2, W⟩ := kn_app (v := J (gv d (n + 1))) rfl (cellsF_all (N := n + 1) (f := fun k => J (gv d k)) fun c => rfl) (cellsF_len _ _) (by omega) Wp
    have hcs : cellsF (n + 1) (fun k => J (gv d k)) ++ [J (gv d (n + 1))] = cellsF (n + 2) (fun k => J (gv d k)) := by
      show ((List.range (n + 1)).map _) ++ _ = (List.range (n + 1 + 1)).map _
      rw [List.range_succ (n := n + 1), List.map_append]; rfl
    rw [hcs] at W
    refine sy_call 0 (by kernel_rfl) e10 ?_
    have Wr2 := W
    rw [List.cons_append, List.cons_append, List.cons_append, List.cons_append, List.cons_append, List.nil_append] at W
    refine ow_store (P := Tryz.prog) (T := 22) (off := 0) (v := Value.slice (some { block := Hp.next r1, off := 0 }) (n + 2) (kc (n + 1))) 0 5 W rfl (Nat.le_of_ble_eq_true (by kernel_rfl)) (by kernel_rfl) (by first | rfl | assumption) (by kernel_rfl) fun s1 ns1 Ws1 => ?_
    have W := Ws1
    refine sy_need 0 [1] [⟨some (Value.tuple { toList := [] }, h9), Value.tuple { toList := [] }, h9⟩] (by kernel_rfl) ⟨rfl, trivial⟩ ?_
    have W : Sto hb s1 ([(r1.next, .cells (cellsF (n + 2) fun k => J (gv d k)) 3 true), (g7.next, .defd false), (g6.next + 1, .cells [J (n + 1)] 3 false), (g6.next, .cells [.slice xa d.length xc] 22 false), (g5.next, .cells (cellsF 8192 fun c => .bool (ov.contains c)) 92 false)] ++
      (g1.next, .cells [.slice (some ⟨r1.next, 0, none⟩) (n + 2) (kc (n + 1))] 22 false) :: ((R0 ++ ds.map (fun d => (d, .defd false))) ++ C5)) := W
    have W := W.perm List.perm_middle
    have W := W.sub (l' := (g1.next, .cells [.slice (some ⟨r1.next, 0, none⟩) (n + 2) (kc (n + 1))] 22 false) :: (r1.next, .cells (cellsF (n + 2) fun k => J (gv d k)) 3 true) :: (g7.next, .defd false) :: ((R0 ++ ds.map (fun d => (d, .defd false))) ++ C5))
      (((((List.Sublist.refl _).cons _).cons _).cons _).cons_cons _ |>.cons_cons _ |>.cons_cons _)
    have W : Sto hb s1 (B (n + 1) r1.next (g7.next :: ds) ++ C5) := W.perm (List.Perm.cons _ (List.Perm.cons _ (List.Perm.append_right C5 (List.perm_middle (l₁ := R0)).symm)))
    rw [← hsh] at *
    refine ok_go 1 ?_
    exact sy_next 0 _ s1 (by kernel_rfl) (by kernel_rfl) (ih (n + 1, r1.next, C5, g7.next :: ds) _ s1 ⟨hlt, hC5, W⟩ (show N - (n + 1) < N - n by omega) ⟨by kernel_rfl, by kernel_rfl, by kernel_rfl, (by kernel_rfl : _ = Value.int .i64 (IntKind.wrap .i64 (Int.ofNat (n + 1)))).trans (by rw [hwn]), by kernel_rfl, trivial⟩)
  · obtain rfl : n = N := by omega
    obtain ⟨g5, C5, e5, W5, hC5⟩ := hy2 C g _ hC Wc
    refine sy_call 0 (by kernel_rfl) e5 ?_
    have W6 : Sto hb g5 (ds.map (fun d => (d, AObj.defd false)) ++ (C5 ++ ((cp, .cells [.string (strL (codeS d))] 9 false) :: F0))) := by
      have W7 := W5.perm (List.perm_append_comm (l₁ := C5) (l₂ := B n ki ds))
      have W8 := (W7.drop 2 : Sto hb g5 ((R0 ++ ds.map (fun d => (d, AObj.defd false))) ++ C5))
      have W9 := W8.sub (l' := (((cp, AObj.cells [.string (strL (codeS d))] 9 false) :: F0) ++ ds.map (fun d => (d, AObj.defd false))) ++ C5) (((List.sublist_append_right _ _).append (List.Sublist.refl _)).append (List.Sublist.refl _))
      refine W9.perm ?_
      refine (List.Perm.append_right C5 List.perm_append_comm).trans ?_
      rw [List.append_assoc]
      exact List.Perm.append_left _ List.perm_append_comm
    refine ok_go 1 ?_
    refine ow_marks 0 ds W6 (by kernel_rfl) fun g6 ng6 W => ?_
    refine sy_done 0 (v := Value.tuple { toList := [] }) (h := g6) (by kernel_rfl) ?_
    exact ⟨C5, hC5, W⟩
def gvs (d : List Nat) (n : Nat) : List Value := (List.range n).map fun k => J (gv d k)
theorem gvs_len (d : List Nat) (n : Nat) : (gvs d n).length = n := by simp [gvs]
theorem gvs_snoc (d : List Nat) (n : Nat) : gvs d n ++ [J (gv d n)] = gvs d (n + 1) := by
  unfold gvs; rw [List.range_succ, List.map_append]; rfl
theorem list_of (d : List Nat) (n : Nat) (hn : n ≤ 2000) (lf m : Nat) (hlf : 20000 ≤ lf) (h : Hp)
    (vr : ∀ (y cp : Nat) (hb : Hp) (CI : Nat → List (Nat × AObj) → Prop) (CE : List (Nat × AObj) → Prop)
      (_ : ∀ k C g F, k < n → CI k C → Sto hb g (C ++ F) → ∃ g' C', evInv Tryz.prog orc lf (m + 2) (.yield y [J k, J (gv d k)]) g = some (.bool true, g') ∧ Sto hb g' (C' ++ F) ∧ CI (k + 1) C')
      (_ : ∀ C g F, CI n C → Sto hb g (C ++ F) → ∃ g' C', evInv Tryz.prog orc lf (m + 2) (.yield y [J n, J (gv d n)]) g = some (.bool false, g') ∧ Sto hb g' (C' ++ F) ∧ CE C')
      (C0 F0 : List (Nat × AObj)) (h : Hp), CI 0 C0 → Sto hb h (C0 ++ ((cp, .cells [.string (strL (codeS d))] 9 false) :: F0)) →
      ∃ v h', Ev lf (m + 3) 64 [.func (.yield y) #[] #[], ptr cp 0] h = some (v, h') ∧ ∃ C', CE C' ∧ Sto hb h' (C' ++ ((cp, .cells [.string (strL (codeS d))] 9 false) :: F0))) :
    ∃ v h', Ev lf (m + 4) 20 [.string (strL (codeS d)), J n] h = some (v, h') ∧ ∃ q, v = oslV q (n + 1) ∧ Sto h h' (oent q 3 (gvs d (n + 1))) := by
  refine fnS_ok (Q := fun v h' => ∃ q, v = oslV q (n + 1) ∧ Sto h h' (oent q 3 (gvs d (n + 1)))) ?_
  have W := Sto.start h
  refine ow_new 0 W (AObj.cells [Value.int IntKind.i64 (Int.ofNat n)] 3 false) (fun q => Value.pointer (some { block := q, off := 0 })) (by kernel_rfl) fun g1 ng1 Wg1 => ?_
  have W := Wg1
  refine ow_new 0 W (AObj.cells [Value.slice none 0 0] 22 false) (fun q => Value.pointer (some { block := q, off := 0 })) (by kernel_rfl) fun g2 ng2 Wg2 => ?_
  have W := Wg2
  refine ow_new 0 W (AObj.cells [Value.string (strL (codeS d))] 9 false) (fun q => Value.func (Fn.func 64) { toList := [] } { toList := [Value.pointer (some { block := q, off := 0 })] }) (by kernel_rfl) fun g3 ng3 Wg3 => ?_
  have W := Wg3
  refine ow_range 0 (callF := evInv Tryz.prog orc lf (m + 3)) (P := Tryz.prog) (lf := lf) (m := 20) (rcOf Tryz.prog 20 0) W [(3, ptr h.next 0), (5, ptr g1.next 0)] 64 [.func (.yield (g3.next + 1)) #[] #[], ptr g2.next 0]
    (by kernel_rfl) (fun F => by kernel_rfl) ⟨by kernel_rfl, by kernel_rfl, trivial⟩ (by kernel_rfl) (by kernel_rfl) fun F1 f2 HH hr nH W => ?_
  let CC : RC := rcOf Tryz.prog 20 0
  let CI : Nat → List (Nat × AObj) → Prop := fun k C => ∃ q sl, sl = oslV q k ∧ scalar sl = true ∧ C = (g3.next + 1, CC.obj F1 g3.next .ready none) :: (g3.next, .defd false) :: (g1.next, .cells [sl] 22 false) :: (h.next, .cells [J n] 3 false) :: oent q 3 (gvs d k)
  let CE : List (Nat × AObj) → Prop := fun C => ∃ q sl, sl = oslV q (n + 1) ∧ scalar sl = true ∧ C = (g3.next + 1, CC.obj F1 g3.next .done (some (.exit 0))) :: (g3.next, .defd false) :: (g1.next, .cells [sl] 22 false) :: (h.next, .cells [J n] 3 false) :: oent q 3 (gvs d (n + 1))
  have body : ∀ k C g F, k ≤ n → CI k C → Sto h g (C ++ F) → ∃ w g', evInv Tryz.prog orc lf (m + 2) (.yield (g3.next + 1) [J k, J (gv d k)]) g = some (w, g') ∧ ∃ C', Sto h g' (C' ++ F) ∧ ((k < n ∧ w = .bool true ∧ CI (k + 1) C') ∨ (k = n ∧ w = .bool false ∧ CE C')) := fun k C g F hk hC W => by
    obtain ⟨q, sl, hsl, hsc, rfl⟩ := hC
    refine yld_ok (c := CC) (Q := fun w g' => ∃ C', Sto h g' (C' ++ F) ∧ ((k < n ∧ w = .bool true ∧ CI (k + 1) C') ∨ (k = n ∧ w = .bool false ∧ CE C'))) hr (W.get 0 rfl) (by kernel_rfl) ?_
    have W : Sto h g ((g3.next + 1, CC.obj F1 g3.next .ready none) :: (g3.next, .defd false) :: (g1.next, .cells [sl] 22 false) :: (h.next, .cells [J n] 3 false) :: (oent q 3 (gvs d k) ++ F)) := W
    refine ow_busy 0 0 W rfl (by kernel_rfl) fun b1 nb1 Wb1 => ?_
    have W := Wb1
    refine ow_load (P := Tryz.prog) (T := 22) (off := 0) 0 2 W rfl rfl (by kernel_rfl) (by kernel_rfl) ?_
    refine ow_new 0 W (AObj.cells [Value.int IntKind.i64 (Int.ofNat (gv d k))] 3 false) (fun q => Value.slice (some { block := q, off := 0 }) 1 2) (by kernel_rfl) fun b2 nb2 Wb2 => ?_
    have W := Wb2
    have W : Sto h b2 ((b1.next, .cells [J (gv d k)] 3 false) :: (([(g3.next + 1, CC.obj F1 g3.next .busy none), (g3.next, .defd false), (g1.next, .cells [sl] 22 false), (h.next, .cells [J n] 3 false)] ++ F) ++ oent q 3 (gvs d k))) := W.perm (List.Perm.cons _ (List.Perm.append_left [_, _, _, _] (List.perm_append_comm)))
    refine ow_app (P := Tryz.prog) (t := 22) (e := 3) (z := 1) (c := k) (i := q) 0 W slz32 (by rw [gvs_len, Nat.mul_one]) rfl rfl (by omega) (by rw [← hsl]; kernel_rfl) fun b3 sl2 nb3 hsl2 hsc2 W => ?_
    rw [gvs_snoc] at W
    have W : Sto h b3 ((g3.next + 1, CC.obj F1 g3.next .busy none) :: (g3.next, .defd false) :: (g1.next, .cells [sl] 22 false) :: (h.next, .cells [J n] 3 false) :: (F ++ oent b2.next 3 (gvs d (k + 1)))) := W
    refine ow_store (P := Tryz.prog) (T := 22) (off := 0) (v := sl2) 0 2 W rfl (Nat.le_of_ble_eq_true (by kernel_rfl)) (by kernel_rfl) (by first | rfl | assumption) (by kernel_rfl) fun c1 nc1 Wc1 => ?_
    have W := Wc1
    refine ow_load (P := Tryz.prog) (T := 3) (off := 0) 0 3 W rfl rfl (by kernel_rfl) (by kernel_rfl) ?_
    refine ok_go 1 ?_
    refine sy_test 0 (Int.ofNat k == Int.ofNat n) (by kernel_rfl) ?_ ?_
    · intro he
      have he : k = n := by
        have := eq_of_beq he
        exact Int.ofNat.inj this
      subst he
      refine ow_leave 0 0 (Ex.exit 0) W rfl (by kernel_rfl) (by simp) fun e1 ne1 We1 => ?_
      have W := We1
      refine sy_done 0 (v := Value.bool false) (h := e1) (by kernel_rfl) ?_
      have W : Sto h e1 ((g3.next + 1, CC.obj F1 g3.next .done (some (.exit 0))) :: (g3.next, .defd false) :: (g1.next, .cells [sl2] 22 false) :: (h.next, .cells [J k] 3 false) :: (F ++ oent b2.next 3 (gvs d (k + 1)))) := W
      exact ⟨(g3.next + 1, CC.obj F1 g3.next .done (some (.exit 0))) :: (g3.next, .defd false) :: (g1.next, .cells [sl2] 22 false) :: (h.next, .cells [J k] 3 false) :: oent b2.next 3 (gvs d (k + 1)), W.perm (List.Perm.cons _ (List.Perm.cons _ (List.Perm.cons _ (List.Perm.cons _ List.perm_append_comm)))), .inr ⟨rfl, rfl, b2.next, sl2, hsl2, hsc2, rfl⟩⟩
    · intro he
      have he : k < n := by
        rcases Nat.eq_or_lt_of_le hk with h1 | h1
        · subst h1; simp at he
        · exact h1
      refine ow_round 0 0 W rfl (by kernel_rfl) fun e1 ne1 We1 => ?_
      have W := We1
      refine sy_done 0 (v := Value.bool true) (h := e1) (by kernel_rfl) ?_
      have W : Sto h e1 ((g3.next + 1, CC.obj F1 g3.next .ready none) :: (g3.next, .defd false) :: (g1.next, .cells [sl2] 22 false) :: (h.next, .cells [J n] 3 false) :: (F ++ oent b2.next 3 (gvs d (k + 1)))) := W
      exact ⟨(g3.next + 1, CC.obj F1 g3.next .ready none) :: (g3.next, .defd false) :: (g1.next, .cells [sl2] 22 false) :: (h.next, .cells [J n] 3 false) :: oent b2.next 3 (gvs d (k + 1)), W.perm (List.Perm.cons _ (List.Perm.cons _ (List.Perm.cons _ (List.Perm.cons _ List.perm_append_comm)))), .inl ⟨he, rfl, b2.next, sl2, hsl2, hsc2, rfl⟩⟩
  obtain ⟨v8, h8, e8, C8, ⟨q, sl, hsl, hsc, rfl⟩, W8⟩ := vr (g3.next + 1) g2.next h CI CE
    (fun k C g F hk hC W => by
      obtain ⟨w, g', e, C', W', h1 | h1⟩ := body k C g F (by omega) hC W
      · obtain ⟨_, rfl, h2⟩ := h1
        exact ⟨g', C', e, W', h2⟩
      · omega)
    (fun C g F hC W => by
      obtain ⟨w, g', e, C', W', h1 | h1⟩ := body n C g F (Nat.le_refl n) hC W
      · omega
      · obtain ⟨_, rfl, h2⟩ := h1
        exact ⟨g', C', e, W', h2⟩)
    [(g3.next + 1, CC.obj F1 g3.next .ready none), (g3.next, .defd false), (g1.next, .cells [.slice none 0 0] 22 false), (h.next, .cells [J n] 3 false)] [] HH ⟨0, .slice none 0 0, rfl, rfl, rfl⟩
    (W.perm (List.Perm.append_left [_, _] (List.perm_append_comm (l₁ := [_]) (l₂ := [_, _]))))
  have W8 : Sto h h8 ((g3.next + 1, (rcOf Tryz.prog 20 0).obj F1 g3.next .done (some (.exit 0))) :: (g3.next, .defd false) :: (g1.next, .cells [sl] 22 false) :: (h.next, .cells [J n] 3 false) :: (oent q 3 (gvs d (n + 1)) ++ [(g2.next, .cells [.string (strL (codeS d))] 9 false)])) := W8
  refine ⟨v8, h8, .done, some (.exit 0), g3.next, .exit 0, (g3.next, .defd false) :: (g1.next, .cells [sl] 22 false) :: (h.next, .cells [J n] 3 false) :: (oent q 3 (gvs d (n + 1)) ++ [(g2.next, .cells [.string (strL (codeS d))] 9 false)]), e8, W8, by decide, rfl, fun h9 n9 W => ?_⟩
  refine ow_load (P := Tryz.prog) (T := 22) (off := 0) 0 1 W rfl rfl (by kernel_rfl) (by kernel_rfl) ?_
  have W : Sto h h9 ([g3.next].map (fun d => (d, AObj.defd false)) ++ ((g1.next, .cells [sl] 22 false) :: (h.next, .cells [J n] 3 false) :: (oent q 3 (gvs d (n + 1)) ++ [(g2.next, .cells [.string (strL (codeS d))] 9 false)]))) := W
  refine ow_marks 0 [g3.next] W (by kernel_rfl) fun h10 n10 W => ?_
  refine sy_done 0 (v := sl) (h := h10) (by kernel_rfl) ?_
  refine ⟨q, hsl, (W.drop 2).sub ?_⟩
  exact List.sublist_append_left _ _
theorem oent_gvs (d : List Nat) (q n : Nat) : oent q 3 (gvs d (n + 1)) = [(q, .cells (cellsF (n + 1) fun k => J (gv d k)) 3 true)] := by
  show oent q 3 ((List.range (n + 1)).map fun k => J (gv d k)) = _
  rw [show cellsF (n + 1) (fun k => J (gv d k)) = (List.range (n + 1)).map fun k => J (gv d k) from rfl, List.range_succ_eq_map, List.map_cons]
  rfl
structure UpV (d : List Nat) (lf m : Nat) : Prop where
  ck : ∀ h, ∃ v h', Ev lf m 13 [.string (strL (codeS d))] h = some (v, h') ∧ v = J 0 ∧ h.Ext h'
  ls : ∀ n h, n ≤ 2000 → ∃ v h', Ev lf m 20 [.string (strL (codeS d)), J n] h = some (v, h') ∧ ∃ q, v = .slice (some ⟨q, 0, none⟩) (n + 1) (2 * (n + 1) + 1) ∧ Sto h h' [(q, .cells (cellsF (n + 1) fun k => J (gv d k)) 3 true)]
structure Good (d : List Nat) : Prop where
  one : 1 ≤ d.length
  most : d.length ≤ 8
  lt : ∀ x ∈ d, x < 8
theorem codeD_good (l : List Nat) : Good (codeD l) := by
  unfold codeD
  split
  · exact ⟨by decide, by decide, by decide⟩
  · rename_i h
    have := List.length_pos_iff.2 h
    refine ⟨by rw [List.length_map, List.length_take]; omega, by rw [List.length_map, List.length_take]; omega, fun x hx => ?_⟩
    obtain ⟨y, _, rfl⟩ := List.mem_map.1 hx
    exact Nat.mod_lt _ (by decide)
theorem codeS_lt {d : List Nat} (G : Good d) : ∀ n ∈ codeS d, n < 256 := fun n hn => by
  rcases List.mem_append.1 hn with h | h
  · simp at h; omega
  · obtain ⟨x, hx, rfl⟩ := List.mem_map.1 h
    have := G.lt x hx
    show 48 + x < 256
    omega
theorem upV (k : Nat) (d : List Nat) (G : Good d) : UpV d 100000 (k + 4) where
  ck := fun h => by
    have hcl := codeS_lt G
    have co : ∀ (f : Nat → Bool) (q : Nat) (h : Hp), SetB q f h → ∀ c, c < 256 → Ev 100000 (k + 1) 88 [ptr q 0, .int .u8 (Int.ofNat c)] h = some (.bool (f c), h) := fun f q h A c hc => contains_of f q 100000 k c hc h A
    obtain ⟨v, h', e, X, z, rfl, h1, h2⟩ := check_of (codeS d) hcl 100000 (k + 3) h
      (fun h => cut_of (codeS d) 100000 (k + 2) h fun h => cutp_of (codeS d) 100000 (k + 1) h fun h => has_of (codeS d) 100000 k hcl h)
      (fun l h hl hll => by
        exact trim_of l hl (by omega) 100000 (k + 2) (by decide) h (fun h => set_of octs (by decide) (by decide) 100000 (k + 1) (by decide) h)
          (fun q h A => right_of (fun c => octs.contains c) q l hl (by omega) 100000 (k + 1) (by omega) h (co _ q h A))
          (fun l q h hl hll A => left_of (fun c => octs.contains c) q l hl (by omega) 100000 (k + 1) (by omega) h (co _ q h A)))
    refine ⟨_, h', e, ?_, X⟩
    rw [h2.2 ⟨d, rfl, G.one, G.most, G.lt⟩]
  ls := fun n h hn => by
    obtain ⟨v, h', e, q, rfl, W⟩ := list_of d n hn 100000 k (by decide) h (fun y cp hb CI CE hy hy2 C0 F0 h h0 W => values_run d G.lt G.most n (by omega) 100000 k y cp (by decide) hb CI CE hy hy2
      (fun h => digits_of d G.lt G.most 100000 (k + 1) (by decide) h) (fun xa j xc n h => moves_of xa j xc n 100000 (k + 1) h)
      (fun f q j h A hj h1 h2 => missing_of f q j 100000 (k + 1) h A fun c => index_of f q 8192 c j (by decide) hj h1 h2 100000 k (by decide) h A) C0 F0 h h0 W)
    rw [oent_gvs] at W
    exact ⟨_, h', e, q, rfl, W⟩
def rowL (p : Nat × Nat) : List Nat := if p.1 = 0 then [] else if p.2 = 0 then [p.1] else [p.1, p.2]
def RowIn (L : List (Nat × AObj)) (rv : Value) (r : List Nat) : Prop := ∀ H, Hold H L → Rds H rv (r.map J)
theorem RowIn.mono {L L' : List (Nat × AObj)} {rv : Value} {r : List Nat} (R : RowIn L rv r) (h : ∀ p ∈ L, p ∈ L') : RowIn L' rv r := fun H K => R H (K.sub h)
structure RowsS (L : List (Nat × AObj)) (vs : List Value) (rows : List (List Nat)) : Prop where
  len : vs.length = rows.length
  sc : ∀ v ∈ vs, scalar v = true
  row : ∀ (i : Nat) (rv : Value) (r : List Nat), vs[i]? = some rv → rows[i]? = some r → RowIn L rv r
theorem RowsS.snoc {L : List (Nat × AObj)} {vs : List Value} {rows : List (List Nat)} (R : RowsS L vs rows) {L2 : List (Nat × AObj)} {rv : Value} {r : List Nat} (hs : scalar rv = true) (hr : RowIn L2 rv r) : RowsS (L2 ++ L) (vs ++ [rv]) (rows ++ [r]) := by
  refine ⟨by simp [R.len], fun v hv => ?_, fun i a b ha hb => ?_⟩
  · rcases List.mem_append.1 hv with h | h
    · exact R.sc v h
    · obtain rfl := List.mem_singleton.1 h; exact hs
  · rcases Nat.lt_or_ge i vs.length with h | h
    · rw [List.getElem?_append_left h] at ha
      rw [List.getElem?_append_left (by rw [← R.len]; exact h)] at hb
      exact (R.row i a b ha hb).mono fun p hp => List.mem_append_right _ hp
    · rw [List.getElem?_append_right h] at ha
      rw [List.getElem?_append_right (by rw [← R.len]; exact h)] at hb
      have hi : i - vs.length = 0 := by have := (List.getElem?_eq_some_iff.1 ha).1; simp at this; omega
      rw [hi] at ha
      rw [← R.len, hi] at hb
      cases ha
      cases hb
      exact hr.mono fun p hp => List.mem_append_left _ hp
theorem slz31 : SlTz Tryz.prog 24 22 1 := ⟨by kernel_rfl, by kernel_rfl, ⟨_, rfl, by kernel_rfl⟩, ⟨_, rfl, by kernel_rfl⟩, by decide⟩
theorem row0 : RowIn [] (.slice none 0 0) [] := fun H _ => .inl ⟨⟨none, rfl⟩, rfl⟩
theorem row1 {a x : Nat} : RowIn [(a, .cells [J x] 3 false)] (.slice (some ⟨a, 0, none⟩) 1 2) [x] := fun H K => by
  obtain ⟨h1, h2⟩ := K _ (List.mem_singleton.2 rfl)
  exact .inr ⟨a, 0, 2, rfl, fun _ => ⟨h1, by simp only [loadN, h2]; rfl⟩⟩
theorem row2 {a x y : Nat} : RowIn [(a, .cells [J x, J y] 3 false)] (.slice (some ⟨a, 0, none⟩) 2 4) [x, y] := fun H K => by
  obtain ⟨h1, h2⟩ := K _ (List.mem_singleton.2 rfl)
  exact .inr ⟨a, 0, 4, rfl, fun _ => ⟨h1, by simp only [loadN, h2]; rfl⟩⟩
theorem app_row {h H : Hp} {Q : Value → Hp → Prop} (n : Nat) {t : SA} {j q : Nat} {rv sl : Value} {L L2 : List (Nat × AObj)} {vs : List Value} {RR : List (List Nat)} {r : List Nat} (W : Sto h H ((j, .cells [rv] 22 false) :: (L2 ++ (L ++ oent q 22 vs)))) (hsl : sl = oslV q vs.length) (R : RowsS L vs RR) (hs : scalar rv = true) (hr : RowIn L2 rv r) (hlen : RR.length < 100000)
    (he : askR (goS n t) = appendOp Tryz.prog H 24 sl (.slice (some ⟨j, 0, none⟩) 1 2)) (hq : ∀ H' sl2, sl2 = oslV H.next (vs ++ [rv]).length → scalar sl2 = true → RowsS (L2 ++ L) (vs ++ [rv]) (RR ++ [r]) → Sto h H' ((L2 ++ L) ++ oent H.next 22 (vs ++ [rv])) → Ok Q (askK (goS n t) sl2 H')) : Ok Q t := by
  rw [← List.append_assoc] at W
  refine ow_app (P := Tryz.prog) (t := 24) (e := 22) (z := 1) (c := vs.length) (i := q) n W slz31 (by rw [Nat.mul_one]) rfl (by simp [hs]) (by rw [R.len]; omega) (by rw [← hsl]; exact he) fun H' sl2 nH hsl2 hsc2 W2 => hq H' sl2 (by rw [hsl2, List.length_append]; rfl) hsc2 (R.snoc hs hr) W2
theorem op1_abc {g i n : Nat} (h : i + 1 ≤ n) : op1 g i n = (if g % 2 = 1 ∧ n = i + 1 then [(0, 0)] else []) ++ (if g / 2 % 2 = 1 ∧ i + 1 < n then [(n - (i + 1), 0)] else []) ++ (if g / 4 % 2 = 1 then (List.range ((n - (i + 1)) / 2)).map fun a => (a + 1, n - (i + 1) - (a + 1)) else []) := by
  unfold op1
  rw [if_neg (by omega)]
  by_cases h0 : n = i + 1
  · rw [if_pos h0]
    have e : (n - (i + 1)) / 2 = 0 := by omega
    rw [e, List.range_zero, List.map_nil, if_neg (show ¬ (g / 2 % 2 = 1 ∧ i + 1 < n) by omega)]
    by_cases h1 : g % 2 = 1
    · rw [if_pos h1, if_pos ⟨h1, h0⟩]; simp
    · rw [if_neg h1, if_neg (fun hh => h1 hh.1)]; simp
  · rw [if_neg h0, if_neg (show ¬ (g % 2 = 1 ∧ n = i + 1) by omega), List.nil_append]
    congr 1
    by_cases h1 : g / 2 % 2 = 1
    · rw [if_pos h1, if_pos ⟨h1, by omega⟩]
    · rw [if_neg h1, if_neg (fun hh => h1 hh.1)]
theorem ops_none {n : Nat} : ∀ (d : List Nat) (i : Nat), n < i + 1 → ops d i n = []
  | [], _, _ => rfl
  | g :: d, i, h => by
    rw [ops, ops_none d (i + 1) (by omega)]
    unfold op1
    rw [if_pos h]
    rfl
theorem op1_len (g i n : Nat) : (op1 g i n).length ≤ n + 1 := by
  unfold op1
  split
  · simp
  · split
    · split <;> simp
    · rw [List.length_append]
      have h1 : (if g / 2 % 2 = 1 then [(n - (i + 1), 0)] else ([] : List (Nat × Nat))).length ≤ 1 := by split <;> simp
      have h2 : (if g / 4 % 2 = 1 then (List.range ((n - (i + 1)) / 2)).map fun a => (a + 1, n - (i + 1) - (a + 1)) else ([] : List (Nat × Nat))).length ≤ n / 2 := by
        split
        · rw [List.length_map, List.length_range]; omega
        · simp
      omega
theorem ops_len (n : Nat) : ∀ (d : List Nat) (i : Nat), (ops d i n).length ≤ d.length * (n + 1)
  | [], i => by simp [ops]
  | g :: d, i => by
    rw [ops, List.length_append, List.length_cons, Nat.add_mul]
    have := op1_len g i n
    have := ops_len n d (i + 1)
    omega
theorem after_of (d : List Nat) (hd : ∀ x ∈ d, x < 8) (hl : d.length ≤ 8) (n : Nat) (hn : n ≤ 2000) (lf m : Nat) (hlf : 20000 ≤ lf) (h : Hp) :
    ∃ v h', Ev lf (m + 1) 33 [.string (strL (codeS d)), J n] h = some (v, h') ∧ ∃ q vs L, v = oslV q vs.length ∧ RowsS L vs ((ops d 0 n).map rowL) ∧ Sto h h' (L ++ oent q 22 vs) := by
  refine fnS_ok (Q := fun v h' => ∃ q vs L, v = oslV q vs.length ∧ RowsS L vs ((ops d 0 n).map rowL) ∧ Sto h h' (L ++ oent q 22 vs)) ?_
  have hD : IntKind.wrap .i64 (Int.ofNat (strL (codeS d)).size - 2) = Int.ofNat d.length := by
    rw [strL_size]
    have : (codeS d).length = d.length + 2 := by simp [codeS]
    rw [this]
    exact wrap_sub (a := d.length + 2) (b := 2) (by omega) (by omega)
  have W := Sto.start h
  refine ok_go 0 ?_
  refine sy_loop 0 lf h (α := Nat × Value × Nat × List Value × List (Nat × AObj)) (fun x => [(0, .string (strL (codeS d))), (1, J n), (5, x.2.1), (6, J (x.1 + 1))]) (fun x g => x.1 ≤ d.length ∧ x.2.1 = oslV x.2.2.1 x.2.2.2.1.length ∧ scalar x.2.1 = true ∧ RowsS x.2.2.2.2 x.2.2.2.1 ((ops (d.take x.1) 0 n).map rowL) ∧ Sto h g (x.2.2.2.2 ++ oent x.2.2.1 22 x.2.2.2.1)) (fun x _ => d.length - x.1) (0, .slice none 0 0, 0, [], []) (by kernel_rfl) (by kernel_rfl)
    ⟨by kernel_rfl, by kernel_rfl, by kernel_rfl, by kernel_rfl, trivial⟩ (show d.length - 0 < lf by omega) ⟨Nat.zero_le _, rfl, rfl, ⟨rfl, fun v hv => (by cases hv), fun i rv r h1 h2 => (by cases h1)⟩, W⟩ ?_
  rintro m1 ⟨i, sl, q, vs, L⟩ f1 g ⟨hi, hsl, hsc, R, W⟩ ih
  dsimp only at hi hsl hsc R W
  have hw : IntKind.wrap .i64 (Int.ofNat (i + 1 + 1)) = Int.ofNat (i + 1 + 1) := wrap_nat (by omega)
  refine ok_go 3 ?_
  refine sy_test 0 (decide (Int.ofNat (i + 1) ≤ IntKind.wrap .i64 (Int.ofNat (strL (codeS d)).size - 2))) (by kernel_rfl) ?_ ?_
  · intro hle
    have hlt : i < d.length := by rw [hD] at hle; exact Int.ofNat_le.1 (of_decide_eq_true hle)
    refine ok_go 4 ?_
    refine sy_test 0 (decide (Int.ofNat (i + 1) ≤ Int.ofNat n)) (by kernel_rfl) ?_ ?_
    · intro hle2
      have hin : i + 1 ≤ n := Int.ofNat_le.1 (of_decide_eq_true hle2)
      have hg8 := hd _ (List.getElem_mem hlt)
      have hsn : ops (d.take (i + 1)) 0 n = ops (d.take i) 0 n ++ op1 d[i] i n := by
        rw [List.take_succ_eq_append_getElem hlt, ops_snoc, List.length_take, Nat.zero_add, Nat.min_eq_left (by omega)]
      have hix : (codeS d)[i + 1 + 1]? = some (48 + d[i]) := by
        show (48 :: 46 :: d.map (48 + ·))[i + 1 + 1]? = _
        rw [List.getElem?_cons_succ, List.getElem?_cons_succ, List.getElem?_map, List.getElem?_eq_getElem hlt]; rfl
      refine ok_go 1 ?_
      refine sy_load 0 (r := pureX (Instr.index 9 (.string (strL (codeS d))) (I (IntKind.wrap .i64 (Int.ofNat (i + 1 + 1)))))) (h' := g) (by kernel_rfl) (by rw [hw]; exact x_index hix (by omega)) ?_
      have hz : (IntKind.wrap .i64 (IntKind.wrap .u8 (Int.ofNat (48 + d[i]) - 48))) = Int.ofNat d[i] := by
        have : (Int.ofNat (48 + d[i]) - 48 : Int) = Int.ofNat d[i] := by show ((48 + d[i] : Nat) : Int) - 48 = ((d[i] : Nat) : Int); omega
        rw [this]
        rcases (by omega : d[i] = 0 ∨ d[i] = 1 ∨ d[i] = 2 ∨ d[i] = 3 ∨ d[i] = 4 ∨ d[i] = 5 ∨ d[i] = 6 ∨ d[i] = 7) with e | e | e | e | e | e | e | e <;> rw [e] <;> rfl
      have hLV : (IntKind.wrap .i64 (Int.ofNat n - Int.ofNat (i + 1))) = Int.ofNat (n - (i + 1)) := wrap_sub hin (by omega)
      have hdl : (ops (d.take i) 0 n).length ≤ 16008 := by
        have h1 := ops_len n (d.take i) 0
        have h2 : (d.take i).length * (n + 1) ≤ 8 * 2001 := Nat.mul_le_mul (by rw [List.length_take]; omega) (by omega)
        omega
      have t1 : (((IntKind.wrap .i64 (IntKind.wrap .u8 (Int.ofNat (48 + d[i]) - 48)))).tmod 2 == 1) = (d[i] % 2 == 1) := by
        rw [hz]
        rcases (by omega : d[i] = 0 ∨ d[i] = 1 ∨ d[i] = 2 ∨ d[i] = 3 ∨ d[i] = 4 ∨ d[i] = 5 ∨ d[i] = 6 ∨ d[i] = 7) with e | e | e | e | e | e | e | e <;> rw [e] <;> rfl
      have t2 : ((IntKind.wrap .i64 (((IntKind.wrap .i64 (IntKind.wrap .u8 (Int.ofNat (48 + d[i]) - 48)))).tdiv 2)).tmod 2 == 1) = (d[i] / 2 % 2 == 1) := by
        rw [hz]
        rcases (by omega : d[i] = 0 ∨ d[i] = 1 ∨ d[i] = 2 ∨ d[i] = 3 ∨ d[i] = 4 ∨ d[i] = 5 ∨ d[i] = 6 ∨ d[i] = 7) with e | e | e | e | e | e | e | e <;> rw [e] <;> rfl
      have t4 : (IntKind.wrap .i64 (((IntKind.wrap .i64 (IntKind.wrap .u8 (Int.ofNat (48 + d[i]) - 48)))).tdiv 4) == 1) = (d[i] / 4 % 2 == 1) := by
        rw [hz]
        rcases (by omega : d[i] = 0 ∨ d[i] = 1 ∨ d[i] = 2 ∨ d[i] = 3 ∨ d[i] = 4 ∨ d[i] = 5 ∨ d[i] = 6 ∨ d[i] = 7) with e | e | e | e | e | e | e | e <;> rw [e] <;> rfl
      have habc := op1_abc (g := d[i]) hin
      rw [habc] at hsn
      refine ok_go 5 ?_
      by_cases ho : d[i] % 2 = 1
      · refine sy_yes 0 (b := (((IntKind.wrap .i64 (IntKind.wrap .u8 (Int.ofNat (48 + d[i]) - 48)))).tmod 2 == 1)) (by kernel_rfl) (by rw [t1, ho]; rfl) ?_
        refine ok_go 3 ?_
        by_cases hn0 : n = i + 1
        · refine sy_yes 0 (b := ((IntKind.wrap .i64 (Int.ofNat n - Int.ofNat (i + 1))) == 0)) (by kernel_rfl) (by rw [hLV, show n - (i + 1) = 0 by omega]; rfl) ?_
          have ha : (d[i] % 2 = 1 ∧ n = i + 1) = True := eq_true ⟨ho, hn0⟩
          refine ow_new 0 W (AObj.cells [Value.slice none 0 0] 22 false) (fun q => Value.slice (some { block := q, off := 0 }) 1 2) (by kernel_rfl) fun z1 nz1 Wz1 => ?_
          have W := Wz1
          refine app_row (L2 := []) 0 W hsl R rfl row0 (by simp; omega) (by kernel_rfl) fun g0a sl0a hsl0a hsc0a R0a W => ?_
          have hrl : ([] : List Nat) = rowL (0, 0) := rfl
          rw [hrl] at R0a
          refine ok_go 3 ?_
          by_cases h2 : d[i] / 2 % 2 = 1
          · refine sy_yes 0 (b := ((IntKind.wrap .i64 (((IntKind.wrap .i64 (IntKind.wrap .u8 (Int.ofNat (48 + d[i]) - 48)))).tdiv 2)).tmod 2 == 1)) (by kernel_rfl) (by rw [t2, h2]; rfl) ?_
            refine ok_go 3 ?_
            refine sy_no 0 (b := (decide ((IntKind.wrap .i64 (Int.ofNat n - Int.ofNat (i + 1))) > 0))) (by kernel_rfl) (by rw [hLV, show n - (i + 1) = 0 by omega]; rfl) ?_
            have hb : (d[i] / 2 % 2 = 1 ∧ i + 1 < n) = False := eq_false (by omega)
            refine ok_go 2 ?_
            by_cases h4 : d[i] / 4 % 2 = 1
            · refine sy_yes 0 (b := (IntKind.wrap .i64 (((IntKind.wrap .i64 (IntKind.wrap .u8 (Int.ofNat (48 + d[i]) - 48)))).tdiv 4) == 1)) (by kernel_rfl) (by rw [t4, h4]; rfl) ?_
              refine ok_go 0 ?_
              refine sy_loop 0 lf g0a (α := Nat × Value × Nat × List Value × List (Nat × AObj)) (fun x => [(0, .string (strL (codeS d))), (1, J n), (5, x.2.1), (6, J (i + 1)), (8, I (IntKind.wrap .i64 (Int.ofNat n - Int.ofNat (i + 1)))), (9, J x.1)])
                (fun x g => 1 ≤ x.1 ∧ 2 * (x.1 - 1) ≤ n - (i + 1) ∧ x.2.1 = oslV x.2.2.1 x.2.2.2.1.length ∧ scalar x.2.1 = true ∧ RowsS x.2.2.2.2 x.2.2.2.1 ((((ops (d.take i) 0 n).map rowL) ++ [rowL (0, 0)]) ++ (List.range (x.1 - 1)).map (fun a => rowL (a + 1, n - (i + 1) - (a + 1)))) ∧ Sto h g (x.2.2.2.2 ++ oent x.2.2.1 22 x.2.2.2.1)) (fun x _ => n - x.1) (1, sl0a, _, _, _) (by kernel_rfl) (by kernel_rfl)
                ⟨by kernel_rfl, by kernel_rfl, by kernel_rfl, by kernel_rfl, by kernel_rfl, by kernel_rfl, trivial⟩ (show n - 1 < lf by omega) ⟨Nat.le_refl 1, by simp, hsl0a, hsc0a, by rw [show (1 : Nat) - 1 = 0 from rfl, List.range_zero, List.map_nil, List.append_nil]; exact R0a, W⟩ ?_
              rintro m2 ⟨x, slx, qx, vx, Lx⟩ f2 gx ⟨hx1, hx2, hslx, hscx, Rx, W⟩ ih2
              dsimp only at hx1 hx2 hslx hscx Rx W
              have hxx : IntKind.wrap .i64 (Int.ofNat x + Int.ofNat x) = Int.ofNat (x + x) := wrap_add (by omega)
              have hwx : IntKind.wrap .i64 (Int.ofNat (x + 1)) = Int.ofNat (x + 1) := wrap_nat (by omega)
              refine ok_go 2 ?_
              refine sy_test 0 (decide (IntKind.wrap .i64 (Int.ofNat x + Int.ofNat x) ≤ (IntKind.wrap .i64 (Int.ofNat n - Int.ofNat (i + 1))))) (by kernel_rfl) ?_ ?_
              · intro hle3
                have hle3 : x + x ≤ n - (i + 1) := by rw [hxx, hLV] at hle3; exact Int.ofNat_le.1 (of_decide_eq_true hle3)
                have hsub : IntKind.wrap .i64 ((IntKind.wrap .i64 (Int.ofNat n - Int.ofNat (i + 1))) - Int.ofNat x) = Int.ofNat (n - (i + 1) - x) := by rw [hLV]; exact wrap_sub (by omega) (by omega)
                refine ow_new 1 W (AObj.cells [Value.int IntKind.i64 (Int.ofNat (Prod.fst (x, slx, qx, vx, Lx))), Value.int IntKind.i64 (IntKind.wrap IntKind.i64 (IntKind.wrap IntKind.i64 (Int.ofNat n - Int.ofNat (i + 1)) - Int.ofNat (Prod.fst (x, slx, qx, vx, Lx))))] 3 false) (fun q => Value.slice (some { block := q, off := 0 }) 2 4) (by kernel_rfl) fun c1x1 nc1x1 Wc1x1 => ?_
                have W := Wc1x1
                refine ow_new 0 W (AObj.cells [Value.slice (some { block := Hp.next gx, off := 0 }) 2 4] 22 false) (fun q => Value.slice (some { block := q, off := 0 }) 1 2) (by kernel_rfl) fun c1x2 nc1x2 Wc1x2 => ?_
                have W := Wc1x2
                rw [hsub] at W
                refine app_row (L2 := [(_, .cells [J x, J (n - (i + 1) - x)] 3 false)]) 0 W hslx Rx rfl row2 (by simp; omega) (by kernel_rfl) fun g1b sl1b hsl1b hsc1b R1b W => ?_
                have hrl : [x, n - (i + 1) - x] = rowL (x - 1 + 1, n - (i + 1) - (x - 1 + 1)) := by
                  rw [show x - 1 + 1 = x by omega]
                  unfold rowL; rw [if_neg (by show ¬ x = 0; omega), if_neg (by show ¬ n - (i + 1) - x = 0; omega)]
                rw [hrl, List.append_assoc] at R1b
                refine ok_go 1 ?_
                exact sy_next 0 _ g1b (by kernel_rfl) (by kernel_rfl) (ih2 (x + 1, sl1b, _, _, _) _ g1b ⟨by show 1 ≤ x + 1; omega, by show 2 * (x + 1 - 1) ≤ _; omega, hsl1b, hsc1b, by
                  show RowsS _ _ ((((ops (d.take i) 0 n).map rowL) ++ [rowL (0, 0)]) ++ (List.range (x + 1 - 1)).map (fun a => rowL (a + 1, n - (i + 1) - (a + 1))))
                  rw [show x + 1 - 1 = (x - 1) + 1 by omega, List.range_succ, List.map_append]
                  exact R1b, W⟩ (show n - (x + 1) < n - x by omega) ⟨by kernel_rfl, by kernel_rfl, by kernel_rfl, by kernel_rfl, by kernel_rfl, (by kernel_rfl : _ = Value.int .i64 (IntKind.wrap .i64 (Int.ofNat (x + 1)))).trans (by rw [hwx]), trivial⟩)
              · intro hle3
                have hle3 : n - (i + 1) < x + x := by rw [hxx, hLV] at hle3; have := of_decide_eq_false hle3; exact Nat.lt_of_not_le fun h => this (Int.ofNat_le.2 h)
                have hx3 : x - 1 = (n - (i + 1)) / 2 := by omega
                rw [hx3] at Rx
                have hcm : ((List.range ((n - (i + 1)) / 2)).map fun a => (a + 1, n - (i + 1) - (a + 1))).map rowL = (List.range ((n - (i + 1)) / 2)).map (fun a => rowL (a + 1, n - (i + 1) - (a + 1))) := by rw [List.map_map]; rfl
                refine ok_go 1 ?_
                exact sy_next 0 _ gx (by kernel_rfl) (by kernel_rfl) (ih (i + 1, slx, qx, vx, Lx) _ gx ⟨hlt, hslx, hscx, by rw [hsn]; simp only [ha, hb, h4, if_true, if_false, List.append_nil, List.nil_append, List.map_append, hcm, List.map_cons, List.map_nil]; simpa only [List.append_assoc] using Rx, W⟩ (show d.length - (i + 1) < d.length - i by omega) ⟨by kernel_rfl, by kernel_rfl, by kernel_rfl, (by kernel_rfl : _ = Value.int .i64 (IntKind.wrap .i64 (Int.ofNat (i + 1 + 1)))).trans (by rw [hw]), trivial⟩)
            · refine sy_no 0 (b := (IntKind.wrap .i64 (((IntKind.wrap .i64 (IntKind.wrap .u8 (Int.ofNat (48 + d[i]) - 48)))).tdiv 4) == 1)) (by kernel_rfl) (by rw [t4]; exact beq_eq_false_iff_ne.2 h4) ?_
              refine ok_go 1 ?_
              exact sy_next 0 _ g0a (by kernel_rfl) (by kernel_rfl) (ih (i + 1, sl0a, _, _, _) _ g0a ⟨hlt, hsl0a, hsc0a, by rw [hsn]; simpa only [ha, hb, h4, if_true, if_false, List.append_nil, List.nil_append, List.map_append, List.map_cons, List.map_nil, List.append_assoc] using R0a, W⟩ (show d.length - (i + 1) < d.length - i by omega) ⟨by kernel_rfl, by kernel_rfl, by kernel_rfl, (by kernel_rfl : _ = Value.int .i64 (IntKind.wrap .i64 (Int.ofNat (i + 1 + 1)))).trans (by rw [hw]), trivial⟩)
          · refine sy_no 0 (b := ((IntKind.wrap .i64 (((IntKind.wrap .i64 (IntKind.wrap .u8 (Int.ofNat (48 + d[i]) - 48)))).tdiv 2)).tmod 2 == 1)) (by kernel_rfl) (by rw [t2]; exact beq_eq_false_iff_ne.2 h2) ?_
            have hb : (d[i] / 2 % 2 = 1 ∧ i + 1 < n) = False := eq_false (by omega)
            refine ok_go 5 ?_
            by_cases h4 : d[i] / 4 % 2 = 1
            · refine sy_yes 0 (b := (IntKind.wrap .i64 (((IntKind.wrap .i64 (IntKind.wrap .u8 (Int.ofNat (48 + d[i]) - 48)))).tdiv 4) == 1)) (by kernel_rfl) (by rw [t4, h4]; rfl) ?_
              refine ok_go 0 ?_
              refine sy_loop 0 lf g0a (α := Nat × Value × Nat × List Value × List (Nat × AObj)) (fun x => [(0, .string (strL (codeS d))), (1, J n), (5, x.2.1), (6, J (i + 1)), (8, I (IntKind.wrap .i64 (Int.ofNat n - Int.ofNat (i + 1)))), (9, J x.1)])
                (fun x g => 1 ≤ x.1 ∧ 2 * (x.1 - 1) ≤ n - (i + 1) ∧ x.2.1 = oslV x.2.2.1 x.2.2.2.1.length ∧ scalar x.2.1 = true ∧ RowsS x.2.2.2.2 x.2.2.2.1 ((((ops (d.take i) 0 n).map rowL) ++ [rowL (0, 0)]) ++ (List.range (x.1 - 1)).map (fun a => rowL (a + 1, n - (i + 1) - (a + 1)))) ∧ Sto h g (x.2.2.2.2 ++ oent x.2.2.1 22 x.2.2.2.1)) (fun x _ => n - x.1) (1, sl0a, _, _, _) (by kernel_rfl) (by kernel_rfl)
                ⟨by kernel_rfl, by kernel_rfl, by kernel_rfl, by kernel_rfl, by kernel_rfl, by kernel_rfl, trivial⟩ (show n - 1 < lf by omega) ⟨Nat.le_refl 1, by simp, hsl0a, hsc0a, by rw [show (1 : Nat) - 1 = 0 from rfl, List.range_zero, List.map_nil, List.append_nil]; exact R0a, W⟩ ?_
              rintro m2 ⟨x, slx, qx, vx, Lx⟩ f2 gx ⟨hx1, hx2, hslx, hscx, Rx, W⟩ ih2
              dsimp only at hx1 hx2 hslx hscx Rx W
              have hxx : IntKind.wrap .i64 (Int.ofNat x + Int.ofNat x) = Int.ofNat (x + x) := wrap_add (by omega)
              have hwx : IntKind.wrap .i64 (Int.ofNat (x + 1)) = Int.ofNat (x + 1) := wrap_nat (by omega)
              refine ok_go 2 ?_
              refine sy_test 0 (decide (IntKind.wrap .i64 (Int.ofNat x + Int.ofNat x) ≤ (IntKind.wrap .i64 (Int.ofNat n - Int.ofNat (i + 1))))) (by kernel_rfl) ?_ ?_
              · intro hle3
                have hle3 : x + x ≤ n - (i + 1) := by rw [hxx, hLV] at hle3; exact Int.ofNat_le.1 (of_decide_eq_true hle3)
                have hsub : IntKind.wrap .i64 ((IntKind.wrap .i64 (Int.ofNat n - Int.ofNat (i + 1))) - Int.ofNat x) = Int.ofNat (n - (i + 1) - x) := by rw [hLV]; exact wrap_sub (by omega) (by omega)
                refine ow_new 1 W (AObj.cells [Value.int IntKind.i64 (Int.ofNat (Prod.fst (x, slx, qx, vx, Lx))), Value.int IntKind.i64 (IntKind.wrap IntKind.i64 (IntKind.wrap IntKind.i64 (Int.ofNat n - Int.ofNat (i + 1)) - Int.ofNat (Prod.fst (x, slx, qx, vx, Lx))))] 3 false) (fun q => Value.slice (some { block := q, off := 0 }) 2 4) (by kernel_rfl) fun c2x1 nc2x1 Wc2x1 => ?_
                have W := Wc2x1
                refine ow_new 0 W (AObj.cells [Value.slice (some { block := Hp.next gx, off := 0 }) 2 4] 22 false) (fun q => Value.slice (some { block := q, off := 0 }) 1 2) (by kernel_rfl) fun c2x2 nc2x2 Wc2x2 => ?_
                have W := Wc2x2
                rw [hsub] at W
                refine app_row (L2 := [(_, .cells [J x, J (n - (i + 1) - x)] 3 false)]) 0 W hslx Rx rfl row2 (by simp; omega) (by kernel_rfl) fun g2b sl2b hsl2b hsc2b R2b W => ?_
                have hrl : [x, n - (i + 1) - x] = rowL (x - 1 + 1, n - (i + 1) - (x - 1 + 1)) := by
                  rw [show x - 1 + 1 = x by omega]
                  unfold rowL; rw [if_neg (by show ¬ x = 0; omega), if_neg (by show ¬ n - (i + 1) - x = 0; omega)]
                rw [hrl, List.append_assoc] at R2b
                refine ok_go 1 ?_
                exact sy_next 0 _ g2b (by kernel_rfl) (by kernel_rfl) (ih2 (x + 1, sl2b, _, _, _) _ g2b ⟨by show 1 ≤ x + 1; omega, by show 2 * (x + 1 - 1) ≤ _; omega, hsl2b, hsc2b, by
                  show RowsS _ _ ((((ops (d.take i) 0 n).map rowL) ++ [rowL (0, 0)]) ++ (List.range (x + 1 - 1)).map (fun a => rowL (a + 1, n - (i + 1) - (a + 1))))
                  rw [show x + 1 - 1 = (x - 1) + 1 by omega, List.range_succ, List.map_append]
                  exact R2b, W⟩ (show n - (x + 1) < n - x by omega) ⟨by kernel_rfl, by kernel_rfl, by kernel_rfl, by kernel_rfl, by kernel_rfl, (by kernel_rfl : _ = Value.int .i64 (IntKind.wrap .i64 (Int.ofNat (x + 1)))).trans (by rw [hwx]), trivial⟩)
              · intro hle3
                have hle3 : n - (i + 1) < x + x := by rw [hxx, hLV] at hle3; have := of_decide_eq_false hle3; exact Nat.lt_of_not_le fun h => this (Int.ofNat_le.2 h)
                have hx3 : x - 1 = (n - (i + 1)) / 2 := by omega
                rw [hx3] at Rx
                have hcm : ((List.range ((n - (i + 1)) / 2)).map fun a => (a + 1, n - (i + 1) - (a + 1))).map rowL = (List.range ((n - (i + 1)) / 2)).map (fun a => rowL (a + 1, n - (i + 1) - (a + 1))) := by rw [List.map_map]; rfl
                refine ok_go 1 ?_
                exact sy_next 0 _ gx (by kernel_rfl) (by kernel_rfl) (ih (i + 1, slx, qx, vx, Lx) _ gx ⟨hlt, hslx, hscx, by rw [hsn]; simp only [ha, hb, h4, if_true, if_false, List.append_nil, List.nil_append, List.map_append, hcm, List.map_cons, List.map_nil]; simpa only [List.append_assoc] using Rx, W⟩ (show d.length - (i + 1) < d.length - i by omega) ⟨by kernel_rfl, by kernel_rfl, by kernel_rfl, (by kernel_rfl : _ = Value.int .i64 (IntKind.wrap .i64 (Int.ofNat (i + 1 + 1)))).trans (by rw [hw]), trivial⟩)
            · refine sy_no 0 (b := (IntKind.wrap .i64 (((IntKind.wrap .i64 (IntKind.wrap .u8 (Int.ofNat (48 + d[i]) - 48)))).tdiv 4) == 1)) (by kernel_rfl) (by rw [t4]; exact beq_eq_false_iff_ne.2 h4) ?_
              refine ok_go 1 ?_
              exact sy_next 0 _ g0a (by kernel_rfl) (by kernel_rfl) (ih (i + 1, sl0a, _, _, _) _ g0a ⟨hlt, hsl0a, hsc0a, by rw [hsn]; simpa only [ha, hb, h4, if_true, if_false, List.append_nil, List.nil_append, List.map_append, List.map_cons, List.map_nil, List.append_assoc] using R0a, W⟩ (show d.length - (i + 1) < d.length - i by omega) ⟨by kernel_rfl, by kernel_rfl, by kernel_rfl, (by kernel_rfl : _ = Value.int .i64 (IntKind.wrap .i64 (Int.ofNat (i + 1 + 1)))).trans (by rw [hw]), trivial⟩)
        · refine sy_no 0 (b := ((IntKind.wrap .i64 (Int.ofNat n - Int.ofNat (i + 1))) == 0)) (by kernel_rfl) (by rw [hLV]; exact beq_eq_false_iff_ne.2 (by show ((n - (i + 1) : Nat) : Int) ≠ 0; omega)) ?_
          have ha : (d[i] % 2 = 1 ∧ n = i + 1) = False := eq_false (by omega)
          refine ok_go 3 ?_
          by_cases h2 : d[i] / 2 % 2 = 1
          · refine sy_yes 0 (b := ((IntKind.wrap .i64 (((IntKind.wrap .i64 (IntKind.wrap .u8 (Int.ofNat (48 + d[i]) - 48)))).tdiv 2)).tmod 2 == 1)) (by kernel_rfl) (by rw [t2, h2]; rfl) ?_
            refine ok_go 3 ?_
            refine sy_yes 0 (b := (decide ((IntKind.wrap .i64 (Int.ofNat n - Int.ofNat (i + 1))) > 0))) (by kernel_rfl) (by rw [hLV]; exact decide_eq_true (by show (0 : Int) < ((n - (i + 1) : Nat) : Int); omega)) ?_
            have hb : (d[i] / 2 % 2 = 1 ∧ i + 1 < n) = True := eq_true ⟨h2, by omega⟩
            refine ow_new 0 W (AObj.cells [Value.int IntKind.i64 (IntKind.wrap IntKind.i64 (Int.ofNat n - Int.ofNat (Prod.fst (i, sl, q, vs, L) + 1)))] 3 false) (fun q => Value.slice (some { block := q, off := 0 }) 1 2) (by kernel_rfl) fun c3x1 nc3x1 Wc3x1 => ?_
            have W := Wc3x1
            refine ow_new 0 W (AObj.cells [Value.slice (some { block := Hp.next g, off := 0 }) 1 2] 22 false) (fun q => Value.slice (some { block := q, off := 0 }) 1 2) (by kernel_rfl) fun c3x2 nc3x2 Wc3x2 => ?_
            have W := Wc3x2
            rw [hLV] at W
            refine app_row (L2 := [(_, .cells [J (n - (i + 1))] 3 false)]) 0 W hsl R rfl row1 (by simp; omega) (by kernel_rfl) fun g3a sl3a hsl3a hsc3a R3a W => ?_
            have hrl : [n - (i + 1)] = rowL (n - (i + 1), 0) := by unfold rowL; rw [if_neg (by show ¬ n - (i + 1) = 0; omega), if_pos rfl]
            rw [hrl] at R3a
            refine ok_go 2 ?_
            by_cases h4 : d[i] / 4 % 2 = 1
            · refine sy_yes 0 (b := (IntKind.wrap .i64 (((IntKind.wrap .i64 (IntKind.wrap .u8 (Int.ofNat (48 + d[i]) - 48)))).tdiv 4) == 1)) (by kernel_rfl) (by rw [t4, h4]; rfl) ?_
              refine ok_go 0 ?_
              refine sy_loop 0 lf g3a (α := Nat × Value × Nat × List Value × List (Nat × AObj)) (fun x => [(0, .string (strL (codeS d))), (1, J n), (5, x.2.1), (6, J (i + 1)), (8, I (IntKind.wrap .i64 (Int.ofNat n - Int.ofNat (i + 1)))), (9, J x.1)])
                (fun x g => 1 ≤ x.1 ∧ 2 * (x.1 - 1) ≤ n - (i + 1) ∧ x.2.1 = oslV x.2.2.1 x.2.2.2.1.length ∧ scalar x.2.1 = true ∧ RowsS x.2.2.2.2 x.2.2.2.1 ((((ops (d.take i) 0 n).map rowL) ++ [rowL (n - (i + 1), 0)]) ++ (List.range (x.1 - 1)).map (fun a => rowL (a + 1, n - (i + 1) - (a + 1)))) ∧ Sto h g (x.2.2.2.2 ++ oent x.2.2.1 22 x.2.2.2.1)) (fun x _ => n - x.1) (1, sl3a, _, _, _) (by kernel_rfl) (by kernel_rfl)
                ⟨by kernel_rfl, by kernel_rfl, by kernel_rfl, by kernel_rfl, by kernel_rfl, by kernel_rfl, trivial⟩ (show n - 1 < lf by omega) ⟨Nat.le_refl 1, by simp, hsl3a, hsc3a, by rw [show (1 : Nat) - 1 = 0 from rfl, List.range_zero, List.map_nil, List.append_nil]; exact R3a, W⟩ ?_
              rintro m2 ⟨x, slx, qx, vx, Lx⟩ f2 gx ⟨hx1, hx2, hslx, hscx, Rx, W⟩ ih2
              dsimp only at hx1 hx2 hslx hscx Rx W
              have hxx : IntKind.wrap .i64 (Int.ofNat x + Int.ofNat x) = Int.ofNat (x + x) := wrap_add (by omega)
              have hwx : IntKind.wrap .i64 (Int.ofNat (x + 1)) = Int.ofNat (x + 1) := wrap_nat (by omega)
              refine ok_go 2 ?_
              refine sy_test 0 (decide (IntKind.wrap .i64 (Int.ofNat x + Int.ofNat x) ≤ (IntKind.wrap .i64 (Int.ofNat n - Int.ofNat (i + 1))))) (by kernel_rfl) ?_ ?_
              · intro hle3
                have hle3 : x + x ≤ n - (i + 1) := by rw [hxx, hLV] at hle3; exact Int.ofNat_le.1 (of_decide_eq_true hle3)
                have hsub : IntKind.wrap .i64 ((IntKind.wrap .i64 (Int.ofNat n - Int.ofNat (i + 1))) - Int.ofNat x) = Int.ofNat (n - (i + 1) - x) := by rw [hLV]; exact wrap_sub (by omega) (by omega)
                refine ow_new 1 W (AObj.cells [Value.int IntKind.i64 (Int.ofNat (Prod.fst (x, slx, qx, vx, Lx))), Value.int IntKind.i64 (IntKind.wrap IntKind.i64 (IntKind.wrap IntKind.i64 (Int.ofNat n - Int.ofNat (i + 1)) - Int.ofNat (Prod.fst (x, slx, qx, vx, Lx))))] 3 false) (fun q => Value.slice (some { block := q, off := 0 }) 2 4) (by kernel_rfl) fun c4x1 nc4x1 Wc4x1 => ?_
                have W := Wc4x1
                refine ow_new 0 W (AObj.cells [Value.slice (some { block := Hp.next gx, off := 0 }) 2 4] 22 false) (fun q => Value.slice (some { block := q, off := 0 }) 1 2) (by kernel_rfl) fun c4x2 nc4x2 Wc4x2 => ?_
                have W := Wc4x2
                rw [hsub] at W
                refine app_row (L2 := [(_, .cells [J x, J (n - (i + 1) - x)] 3 false)]) 0 W hslx Rx rfl row2 (by simp; omega) (by kernel_rfl) fun g4b sl4b hsl4b hsc4b R4b W => ?_
                have hrl : [x, n - (i + 1) - x] = rowL (x - 1 + 1, n - (i + 1) - (x - 1 + 1)) := by
                  rw [show x - 1 + 1 = x by omega]
                  unfold rowL; rw [if_neg (by show ¬ x = 0; omega), if_neg (by show ¬ n - (i + 1) - x = 0; omega)]
                rw [hrl, List.append_assoc] at R4b
                refine ok_go 1 ?_
                exact sy_next 0 _ g4b (by kernel_rfl) (by kernel_rfl) (ih2 (x + 1, sl4b, _, _, _) _ g4b ⟨by show 1 ≤ x + 1; omega, by show 2 * (x + 1 - 1) ≤ _; omega, hsl4b, hsc4b, by
                  show RowsS _ _ ((((ops (d.take i) 0 n).map rowL) ++ [rowL (n - (i + 1), 0)]) ++ (List.range (x + 1 - 1)).map (fun a => rowL (a + 1, n - (i + 1) - (a + 1))))
                  rw [show x + 1 - 1 = (x - 1) + 1 by omega, List.range_succ, List.map_append]
                  exact R4b, W⟩ (show n - (x + 1) < n - x by omega) ⟨by kernel_rfl, by kernel_rfl, by kernel_rfl, by kernel_rfl, by kernel_rfl, (by kernel_rfl : _ = Value.int .i64 (IntKind.wrap .i64 (Int.ofNat (x + 1)))).trans (by rw [hwx]), trivial⟩)
              · intro hle3
                have hle3 : n - (i + 1) < x + x := by rw [hxx, hLV] at hle3; have := of_decide_eq_false hle3; exact Nat.lt_of_not_le fun h => this (Int.ofNat_le.2 h)
                have hx3 : x - 1 = (n - (i + 1)) / 2 := by omega
                rw [hx3] at Rx
                have hcm : ((List.range ((n - (i + 1)) / 2)).map fun a => (a + 1, n - (i + 1) - (a + 1))).map rowL = (List.range ((n - (i + 1)) / 2)).map (fun a => rowL (a + 1, n - (i + 1) - (a + 1))) := by rw [List.map_map]; rfl
                refine ok_go 1 ?_
                exact sy_next 0 _ gx (by kernel_rfl) (by kernel_rfl) (ih (i + 1, slx, qx, vx, Lx) _ gx ⟨hlt, hslx, hscx, by rw [hsn]; simp only [ha, hb, h4, if_true, if_false, List.append_nil, List.nil_append, List.map_append, hcm, List.map_cons, List.map_nil]; simpa only [List.append_assoc] using Rx, W⟩ (show d.length - (i + 1) < d.length - i by omega) ⟨by kernel_rfl, by kernel_rfl, by kernel_rfl, (by kernel_rfl : _ = Value.int .i64 (IntKind.wrap .i64 (Int.ofNat (i + 1 + 1)))).trans (by rw [hw]), trivial⟩)
            · refine sy_no 0 (b := (IntKind.wrap .i64 (((IntKind.wrap .i64 (IntKind.wrap .u8 (Int.ofNat (48 + d[i]) - 48)))).tdiv 4) == 1)) (by kernel_rfl) (by rw [t4]; exact beq_eq_false_iff_ne.2 h4) ?_
              refine ok_go 1 ?_
              exact sy_next 0 _ g3a (by kernel_rfl) (by kernel_rfl) (ih (i + 1, sl3a, _, _, _) _ g3a ⟨hlt, hsl3a, hsc3a, by rw [hsn]; simpa only [ha, hb, h4, if_true, if_false, List.append_nil, List.nil_append, List.map_append, List.map_cons, List.map_nil, List.append_assoc] using R3a, W⟩ (show d.length - (i + 1) < d.length - i by omega) ⟨by kernel_rfl, by kernel_rfl, by kernel_rfl, (by kernel_rfl : _ = Value.int .i64 (IntKind.wrap .i64 (Int.ofNat (i + 1 + 1)))).trans (by rw [hw]), trivial⟩)
          · refine sy_no 0 (b := ((IntKind.wrap .i64 (((IntKind.wrap .i64 (IntKind.wrap .u8 (Int.ofNat (48 + d[i]) - 48)))).tdiv 2)).tmod 2 == 1)) (by kernel_rfl) (by rw [t2]; exact beq_eq_false_iff_ne.2 h2) ?_
            have hb : (d[i] / 2 % 2 = 1 ∧ i + 1 < n) = False := eq_false (by omega)
            refine ok_go 5 ?_
            by_cases h4 : d[i] / 4 % 2 = 1
            · refine sy_yes 0 (b := (IntKind.wrap .i64 (((IntKind.wrap .i64 (IntKind.wrap .u8 (Int.ofNat (48 + d[i]) - 48)))).tdiv 4) == 1)) (by kernel_rfl) (by rw [t4, h4]; rfl) ?_
              refine ok_go 0 ?_
              refine sy_loop 0 lf g (α := Nat × Value × Nat × List Value × List (Nat × AObj)) (fun x => [(0, .string (strL (codeS d))), (1, J n), (5, x.2.1), (6, J (i + 1)), (8, I (IntKind.wrap .i64 (Int.ofNat n - Int.ofNat (i + 1)))), (9, J x.1)])
                (fun x g => 1 ≤ x.1 ∧ 2 * (x.1 - 1) ≤ n - (i + 1) ∧ x.2.1 = oslV x.2.2.1 x.2.2.2.1.length ∧ scalar x.2.1 = true ∧ RowsS x.2.2.2.2 x.2.2.2.1 (((ops (d.take i) 0 n).map rowL) ++ (List.range (x.1 - 1)).map (fun a => rowL (a + 1, n - (i + 1) - (a + 1)))) ∧ Sto h g (x.2.2.2.2 ++ oent x.2.2.1 22 x.2.2.2.1)) (fun x _ => n - x.1) (1, sl, _, _, _) (by kernel_rfl) (by kernel_rfl)
                ⟨by kernel_rfl, by kernel_rfl, by kernel_rfl, by kernel_rfl, by kernel_rfl, by kernel_rfl, trivial⟩ (show n - 1 < lf by omega) ⟨Nat.le_refl 1, by simp, hsl, hsc, by rw [show (1 : Nat) - 1 = 0 from rfl, List.range_zero, List.map_nil, List.append_nil]; exact R, W⟩ ?_
              rintro m2 ⟨x, slx, qx, vx, Lx⟩ f2 gx ⟨hx1, hx2, hslx, hscx, Rx, W⟩ ih2
              dsimp only at hx1 hx2 hslx hscx Rx W
              have hxx : IntKind.wrap .i64 (Int.ofNat x + Int.ofNat x) = Int.ofNat (x + x) := wrap_add (by omega)
              have hwx : IntKind.wrap .i64 (Int.ofNat (x + 1)) = Int.ofNat (x + 1) := wrap_nat (by omega)
              refine ok_go 2 ?_
              refine sy_test 0 (decide (IntKind.wrap .i64 (Int.ofNat x + Int.ofNat x) ≤ (IntKind.wrap .i64 (Int.ofNat n - Int.ofNat (i + 1))))) (by kernel_rfl) ?_ ?_
              · intro hle3
                have hle3 : x + x ≤ n - (i + 1) := by rw [hxx, hLV] at hle3; exact Int.ofNat_le.1 (of_decide_eq_true hle3)
                have hsub : IntKind.wrap .i64 ((IntKind.wrap .i64 (Int.ofNat n - Int.ofNat (i + 1))) - Int.ofNat x) = Int.ofNat (n - (i + 1) - x) := by rw [hLV]; exact wrap_sub (by omega) (by omega)
                refine ow_new 1 W (AObj.cells [Value.int IntKind.i64 (Int.ofNat (Prod.fst (x, slx, qx, vx, Lx))), Value.int IntKind.i64 (IntKind.wrap IntKind.i64 (IntKind.wrap IntKind.i64 (Int.ofNat n - Int.ofNat (i + 1)) - Int.ofNat (Prod.fst (x, slx, qx, vx, Lx))))] 3 false) (fun q => Value.slice (some { block := q, off := 0 }) 2 4) (by kernel_rfl) fun c5x1 nc5x1 Wc5x1 => ?_
                have W := Wc5x1
                refine ow_new 0 W (AObj.cells [Value.slice (some { block := Hp.next gx, off := 0 }) 2 4] 22 false) (fun q => Value.slice (some { block := q, off := 0 }) 1 2) (by kernel_rfl) fun c5x2 nc5x2 Wc5x2 => ?_
                have W := Wc5x2
                rw [hsub] at W
                refine app_row (L2 := [(_, .cells [J x, J (n - (i + 1) - x)] 3 false)]) 0 W hslx Rx rfl row2 (by simp; omega) (by kernel_rfl) fun g5b sl5b hsl5b hsc5b R5b W => ?_
                have hrl : [x, n - (i + 1) - x] = rowL (x - 1 + 1, n - (i + 1) - (x - 1 + 1)) := by
                  rw [show x - 1 + 1 = x by omega]
                  unfold rowL; rw [if_neg (by show ¬ x = 0; omega), if_neg (by show ¬ n - (i + 1) - x = 0; omega)]
                rw [hrl, List.append_assoc] at R5b
                refine ok_go 1 ?_
                exact sy_next 0 _ g5b (by kernel_rfl) (by kernel_rfl) (ih2 (x + 1, sl5b, _, _, _) _ g5b ⟨by show 1 ≤ x + 1; omega, by show 2 * (x + 1 - 1) ≤ _; omega, hsl5b, hsc5b, by
                  show RowsS _ _ (((ops (d.take i) 0 n).map rowL) ++ (List.range (x + 1 - 1)).map (fun a => rowL (a + 1, n - (i + 1) - (a + 1))))
                  rw [show x + 1 - 1 = (x - 1) + 1 by omega, List.range_succ, List.map_append]
                  exact R5b, W⟩ (show n - (x + 1) < n - x by omega) ⟨by kernel_rfl, by kernel_rfl, by kernel_rfl, by kernel_rfl, by kernel_rfl, (by kernel_rfl : _ = Value.int .i64 (IntKind.wrap .i64 (Int.ofNat (x + 1)))).trans (by rw [hwx]), trivial⟩)
              · intro hle3
                have hle3 : n - (i + 1) < x + x := by rw [hxx, hLV] at hle3; have := of_decide_eq_false hle3; exact Nat.lt_of_not_le fun h => this (Int.ofNat_le.2 h)
                have hx3 : x - 1 = (n - (i + 1)) / 2 := by omega
                rw [hx3] at Rx
                have hcm : ((List.range ((n - (i + 1)) / 2)).map fun a => (a + 1, n - (i + 1) - (a + 1))).map rowL = (List.range ((n - (i + 1)) / 2)).map (fun a => rowL (a + 1, n - (i + 1) - (a + 1))) := by rw [List.map_map]; rfl
                refine ok_go 1 ?_
                exact sy_next 0 _ gx (by kernel_rfl) (by kernel_rfl) (ih (i + 1, slx, qx, vx, Lx) _ gx ⟨hlt, hslx, hscx, by rw [hsn]; simp only [ha, hb, h4, if_true, if_false, List.append_nil, List.nil_append, List.map_append, hcm, List.map_cons, List.map_nil]; simpa only [List.append_assoc] using Rx, W⟩ (show d.length - (i + 1) < d.length - i by omega) ⟨by kernel_rfl, by kernel_rfl, by kernel_rfl, (by kernel_rfl : _ = Value.int .i64 (IntKind.wrap .i64 (Int.ofNat (i + 1 + 1)))).trans (by rw [hw]), trivial⟩)
            · refine sy_no 0 (b := (IntKind.wrap .i64 (((IntKind.wrap .i64 (IntKind.wrap .u8 (Int.ofNat (48 + d[i]) - 48)))).tdiv 4) == 1)) (by kernel_rfl) (by rw [t4]; exact beq_eq_false_iff_ne.2 h4) ?_
              refine ok_go 1 ?_
              exact sy_next 0 _ g (by kernel_rfl) (by kernel_rfl) (ih (i + 1, sl, q, vs, L) _ g ⟨hlt, hsl, hsc, by rw [hsn]; simpa only [ha, hb, h4, if_true, if_false, List.append_nil, List.nil_append, List.map_append, List.map_cons, List.map_nil, List.append_assoc] using R, W⟩ (show d.length - (i + 1) < d.length - i by omega) ⟨by kernel_rfl, by kernel_rfl, by kernel_rfl, (by kernel_rfl : _ = Value.int .i64 (IntKind.wrap .i64 (Int.ofNat (i + 1 + 1)))).trans (by rw [hw]), trivial⟩)
      · refine sy_no 0 (b := (((IntKind.wrap .i64 (IntKind.wrap .u8 (Int.ofNat (48 + d[i]) - 48)))).tmod 2 == 1)) (by kernel_rfl) (by rw [t1]; exact beq_eq_false_iff_ne.2 ho) ?_
        have ha : (d[i] % 2 = 1 ∧ n = i + 1) = False := eq_false (by omega)
        refine ok_go 6 ?_
        by_cases hn0 : n = i + 1
        · skip
          by_cases h2 : d[i] / 2 % 2 = 1
          · refine sy_yes 0 (b := ((IntKind.wrap .i64 (((IntKind.wrap .i64 (IntKind.wrap .u8 (Int.ofNat (48 + d[i]) - 48)))).tdiv 2)).tmod 2 == 1)) (by kernel_rfl) (by rw [t2, h2]; rfl) ?_
            refine ok_go 3 ?_
            refine sy_no 0 (b := (decide ((IntKind.wrap .i64 (Int.ofNat n - Int.ofNat (i + 1))) > 0))) (by kernel_rfl) (by rw [hLV, show n - (i + 1) = 0 by omega]; rfl) ?_
            have hb : (d[i] / 2 % 2 = 1 ∧ i + 1 < n) = False := eq_false (by omega)
            refine ok_go 2 ?_
            by_cases h4 : d[i] / 4 % 2 = 1
            · refine sy_yes 0 (b := (IntKind.wrap .i64 (((IntKind.wrap .i64 (IntKind.wrap .u8 (Int.ofNat (48 + d[i]) - 48)))).tdiv 4) == 1)) (by kernel_rfl) (by rw [t4, h4]; rfl) ?_
              refine ok_go 0 ?_
              refine sy_loop 0 lf g (α := Nat × Value × Nat × List Value × List (Nat × AObj)) (fun x => [(0, .string (strL (codeS d))), (1, J n), (5, x.2.1), (6, J (i + 1)), (8, I (IntKind.wrap .i64 (Int.ofNat n - Int.ofNat (i + 1)))), (9, J x.1)])
                (fun x g => 1 ≤ x.1 ∧ 2 * (x.1 - 1) ≤ n - (i + 1) ∧ x.2.1 = oslV x.2.2.1 x.2.2.2.1.length ∧ scalar x.2.1 = true ∧ RowsS x.2.2.2.2 x.2.2.2.1 (((ops (d.take i) 0 n).map rowL) ++ (List.range (x.1 - 1)).map (fun a => rowL (a + 1, n - (i + 1) - (a + 1)))) ∧ Sto h g (x.2.2.2.2 ++ oent x.2.2.1 22 x.2.2.2.1)) (fun x _ => n - x.1) (1, sl, _, _, _) (by kernel_rfl) (by kernel_rfl)
                ⟨by kernel_rfl, by kernel_rfl, by kernel_rfl, by kernel_rfl, by kernel_rfl, by kernel_rfl, trivial⟩ (show n - 1 < lf by omega) ⟨Nat.le_refl 1, by simp, hsl, hsc, by rw [show (1 : Nat) - 1 = 0 from rfl, List.range_zero, List.map_nil, List.append_nil]; exact R, W⟩ ?_
              rintro m2 ⟨x, slx, qx, vx, Lx⟩ f2 gx ⟨hx1, hx2, hslx, hscx, Rx, W⟩ ih2
              dsimp only at hx1 hx2 hslx hscx Rx W
              have hxx : IntKind.wrap .i64 (Int.ofNat x + Int.ofNat x) = Int.ofNat (x + x) := wrap_add (by omega)
              have hwx : IntKind.wrap .i64 (Int.ofNat (x + 1)) = Int.ofNat (x + 1) := wrap_nat (by omega)
              refine ok_go 2 ?_
              refine sy_test 0 (decide (IntKind.wrap .i64 (Int.ofNat x + Int.ofNat x) ≤ (IntKind.wrap .i64 (Int.ofNat n - Int.ofNat (i + 1))))) (by kernel_rfl) ?_ ?_
              · intro hle3
                have hle3 : x + x ≤ n - (i + 1) := by rw [hxx, hLV] at hle3; exact Int.ofNat_le.1 (of_decide_eq_true hle3)
                have hsub : IntKind.wrap .i64 ((IntKind.wrap .i64 (Int.ofNat n - Int.ofNat (i + 1))) - Int.ofNat x) = Int.ofNat (n - (i + 1) - x) := by rw [hLV]; exact wrap_sub (by omega) (by omega)
                refine ow_new 1 W (AObj.cells [Value.int IntKind.i64 (Int.ofNat (Prod.fst (x, slx, qx, vx, Lx))), Value.int IntKind.i64 (IntKind.wrap IntKind.i64 (IntKind.wrap IntKind.i64 (Int.ofNat n - Int.ofNat (i + 1)) - Int.ofNat (Prod.fst (x, slx, qx, vx, Lx))))] 3 false) (fun q => Value.slice (some { block := q, off := 0 }) 2 4) (by kernel_rfl) fun c6x1 nc6x1 Wc6x1 => ?_
                have W := Wc6x1
                refine ow_new 0 W (AObj.cells [Value.slice (some { block := Hp.next gx, off := 0 }) 2 4] 22 false) (fun q => Value.slice (some { block := q, off := 0 }) 1 2) (by kernel_rfl) fun c6x2 nc6x2 Wc6x2 => ?_
                have W := Wc6x2
                rw [hsub] at W
                refine app_row (L2 := [(_, .cells [J x, J (n - (i + 1) - x)] 3 false)]) 0 W hslx Rx rfl row2 (by simp; omega) (by kernel_rfl) fun g6b sl6b hsl6b hsc6b R6b W => ?_
                have hrl : [x, n - (i + 1) - x] = rowL (x - 1 + 1, n - (i + 1) - (x - 1 + 1)) := by
                  rw [show x - 1 + 1 = x by omega]
                  unfold rowL; rw [if_neg (by show ¬ x = 0; omega), if_neg (by show ¬ n - (i + 1) - x = 0; omega)]
                rw [hrl, List.append_assoc] at R6b
                refine ok_go 1 ?_
                exact sy_next 0 _ g6b (by kernel_rfl) (by kernel_rfl) (ih2 (x + 1, sl6b, _, _, _) _ g6b ⟨by show 1 ≤ x + 1; omega, by show 2 * (x + 1 - 1) ≤ _; omega, hsl6b, hsc6b, by
                  show RowsS _ _ (((ops (d.take i) 0 n).map rowL) ++ (List.range (x + 1 - 1)).map (fun a => rowL (a + 1, n - (i + 1) - (a + 1))))
                  rw [show x + 1 - 1 = (x - 1) + 1 by omega, List.range_succ, List.map_append]
                  exact R6b, W⟩ (show n - (x + 1) < n - x by omega) ⟨by kernel_rfl, by kernel_rfl, by kernel_rfl, by kernel_rfl, by kernel_rfl, (by kernel_rfl : _ = Value.int .i64 (IntKind.wrap .i64 (Int.ofNat (x + 1)))).trans (by rw [hwx]), trivial⟩)
              · intro hle3
                have hle3 : n - (i + 1) < x + x := by rw [hxx, hLV] at hle3; have := of_decide_eq_false hle3; exact Nat.lt_of_not_le fun h => this (Int.ofNat_le.2 h)
                have hx3 : x - 1 = (n - (i + 1)) / 2 := by omega
                rw [hx3] at Rx
                have hcm : ((List.range ((n - (i + 1)) / 2)).map fun a => (a + 1, n - (i + 1) - (a + 1))).map rowL = (List.range ((n - (i + 1)) / 2)).map (fun a => rowL (a + 1, n - (i + 1) - (a + 1))) := by rw [List.map_map]; rfl
                refine ok_go 1 ?_
                exact sy_next 0 _ gx (by kernel_rfl) (by kernel_rfl) (ih (i + 1, slx, qx, vx, Lx) _ gx ⟨hlt, hslx, hscx, by rw [hsn]; simp only [ha, hb, h4, if_true, if_false, List.append_nil, List.nil_append, List.map_append, hcm, List.map_cons, List.map_nil]; simpa only [List.append_assoc] using Rx, W⟩ (show d.length - (i + 1) < d.length - i by omega) ⟨by kernel_rfl, by kernel_rfl, by kernel_rfl, (by kernel_rfl : _ = Value.int .i64 (IntKind.wrap .i64 (Int.ofNat (i + 1 + 1)))).trans (by rw [hw]), trivial⟩)
            · refine sy_no 0 (b := (IntKind.wrap .i64 (((IntKind.wrap .i64 (IntKind.wrap .u8 (Int.ofNat (48 + d[i]) - 48)))).tdiv 4) == 1)) (by kernel_rfl) (by rw [t4]; exact beq_eq_false_iff_ne.2 h4) ?_
              refine ok_go 1 ?_
              exact sy_next 0 _ g (by kernel_rfl) (by kernel_rfl) (ih (i + 1, sl, q, vs, L) _ g ⟨hlt, hsl, hsc, by rw [hsn]; simpa only [ha, hb, h4, if_true, if_false, List.append_nil, List.nil_append, List.map_append, List.map_cons, List.map_nil, List.append_assoc] using R, W⟩ (show d.length - (i + 1) < d.length - i by omega) ⟨by kernel_rfl, by kernel_rfl, by kernel_rfl, (by kernel_rfl : _ = Value.int .i64 (IntKind.wrap .i64 (Int.ofNat (i + 1 + 1)))).trans (by rw [hw]), trivial⟩)
          · refine sy_no 0 (b := ((IntKind.wrap .i64 (((IntKind.wrap .i64 (IntKind.wrap .u8 (Int.ofNat (48 + d[i]) - 48)))).tdiv 2)).tmod 2 == 1)) (by kernel_rfl) (by rw [t2]; exact beq_eq_false_iff_ne.2 h2) ?_
            have hb : (d[i] / 2 % 2 = 1 ∧ i + 1 < n) = False := eq_false (by omega)
            refine ok_go 5 ?_
            by_cases h4 : d[i] / 4 % 2 = 1
            · refine sy_yes 0 (b := (IntKind.wrap .i64 (((IntKind.wrap .i64 (IntKind.wrap .u8 (Int.ofNat (48 + d[i]) - 48)))).tdiv 4) == 1)) (by kernel_rfl) (by rw [t4, h4]; rfl) ?_
              refine ok_go 0 ?_
              refine sy_loop 0 lf g (α := Nat × Value × Nat × List Value × List (Nat × AObj)) (fun x => [(0, .string (strL (codeS d))), (1, J n), (5, x.2.1), (6, J (i + 1)), (8, I (IntKind.wrap .i64 (Int.ofNat n - Int.ofNat (i + 1)))), (9, J x.1)])
                (fun x g => 1 ≤ x.1 ∧ 2 * (x.1 - 1) ≤ n - (i + 1) ∧ x.2.1 = oslV x.2.2.1 x.2.2.2.1.length ∧ scalar x.2.1 = true ∧ RowsS x.2.2.2.2 x.2.2.2.1 (((ops (d.take i) 0 n).map rowL) ++ (List.range (x.1 - 1)).map (fun a => rowL (a + 1, n - (i + 1) - (a + 1)))) ∧ Sto h g (x.2.2.2.2 ++ oent x.2.2.1 22 x.2.2.2.1)) (fun x _ => n - x.1) (1, sl, _, _, _) (by kernel_rfl) (by kernel_rfl)
                ⟨by kernel_rfl, by kernel_rfl, by kernel_rfl, by kernel_rfl, by kernel_rfl, by kernel_rfl, trivial⟩ (show n - 1 < lf by omega) ⟨Nat.le_refl 1, by simp, hsl, hsc, by rw [show (1 : Nat) - 1 = 0 from rfl, List.range_zero, List.map_nil, List.append_nil]; exact R, W⟩ ?_
              rintro m2 ⟨x, slx, qx, vx, Lx⟩ f2 gx ⟨hx1, hx2, hslx, hscx, Rx, W⟩ ih2
              dsimp only at hx1 hx2 hslx hscx Rx W
              have hxx : IntKind.wrap .i64 (Int.ofNat x + Int.ofNat x) = Int.ofNat (x + x) := wrap_add (by omega)
              have hwx : IntKind.wrap .i64 (Int.ofNat (x + 1)) = Int.ofNat (x + 1) := wrap_nat (by omega)
              refine ok_go 2 ?_
              refine sy_test 0 (decide (IntKind.wrap .i64 (Int.ofNat x + Int.ofNat x) ≤ (IntKind.wrap .i64 (Int.ofNat n - Int.ofNat (i + 1))))) (by kernel_rfl) ?_ ?_
              · intro hle3
                have hle3 : x + x ≤ n - (i + 1) := by rw [hxx, hLV] at hle3; exact Int.ofNat_le.1 (of_decide_eq_true hle3)
                have hsub : IntKind.wrap .i64 ((IntKind.wrap .i64 (Int.ofNat n - Int.ofNat (i + 1))) - Int.ofNat x) = Int.ofNat (n - (i + 1) - x) := by rw [hLV]; exact wrap_sub (by omega) (by omega)
                refine ow_new 1 W (AObj.cells [Value.int IntKind.i64 (Int.ofNat (Prod.fst (x, slx, qx, vx, Lx))), Value.int IntKind.i64 (IntKind.wrap IntKind.i64 (IntKind.wrap IntKind.i64 (Int.ofNat n - Int.ofNat (i + 1)) - Int.ofNat (Prod.fst (x, slx, qx, vx, Lx))))] 3 false) (fun q => Value.slice (some { block := q, off := 0 }) 2 4) (by kernel_rfl) fun c7x1 nc7x1 Wc7x1 => ?_
                have W := Wc7x1
                refine ow_new 0 W (AObj.cells [Value.slice (some { block := Hp.next gx, off := 0 }) 2 4] 22 false) (fun q => Value.slice (some { block := q, off := 0 }) 1 2) (by kernel_rfl) fun c7x2 nc7x2 Wc7x2 => ?_
                have W := Wc7x2
                rw [hsub] at W
                refine app_row (L2 := [(_, .cells [J x, J (n - (i + 1) - x)] 3 false)]) 0 W hslx Rx rfl row2 (by simp; omega) (by kernel_rfl) fun g7b sl7b hsl7b hsc7b R7b W => ?_
                have hrl : [x, n - (i + 1) - x] = rowL (x - 1 + 1, n - (i + 1) - (x - 1 + 1)) := by
                  rw [show x - 1 + 1 = x by omega]
                  unfold rowL; rw [if_neg (by show ¬ x = 0; omega), if_neg (by show ¬ n - (i + 1) - x = 0; omega)]
                rw [hrl, List.append_assoc] at R7b
                refine ok_go 1 ?_
                exact sy_next 0 _ g7b (by kernel_rfl) (by kernel_rfl) (ih2 (x + 1, sl7b, _, _, _) _ g7b ⟨by show 1 ≤ x + 1; omega, by show 2 * (x + 1 - 1) ≤ _; omega, hsl7b, hsc7b, by
                  show RowsS _ _ (((ops (d.take i) 0 n).map rowL) ++ (List.range (x + 1 - 1)).map (fun a => rowL (a + 1, n - (i + 1) - (a + 1))))
                  rw [show x + 1 - 1 = (x - 1) + 1 by omega, List.range_succ, List.map_append]
                  exact R7b, W⟩ (show n - (x + 1) < n - x by omega) ⟨by kernel_rfl, by kernel_rfl, by kernel_rfl, by kernel_rfl, by kernel_rfl, (by kernel_rfl : _ = Value.int .i64 (IntKind.wrap .i64 (Int.ofNat (x + 1)))).trans (by rw [hwx]), trivial⟩)
              · intro hle3
                have hle3 : n - (i + 1) < x + x := by rw [hxx, hLV] at hle3; have := of_decide_eq_false hle3; exact Nat.lt_of_not_le fun h => this (Int.ofNat_le.2 h)
                have hx3 : x - 1 = (n - (i + 1)) / 2 := by omega
                rw [hx3] at Rx
                have hcm : ((List.range ((n - (i + 1)) / 2)).map fun a => (a + 1, n - (i + 1) - (a + 1))).map rowL = (List.range ((n - (i + 1)) / 2)).map (fun a => rowL (a + 1, n - (i + 1) - (a + 1))) := by rw [List.map_map]; rfl
                refine ok_go 1 ?_
                exact sy_next 0 _ gx (by kernel_rfl) (by kernel_rfl) (ih (i + 1, slx, qx, vx, Lx) _ gx ⟨hlt, hslx, hscx, by rw [hsn]; simp only [ha, hb, h4, if_true, if_false, List.append_nil, List.nil_append, List.map_append, hcm, List.map_cons, List.map_nil]; simpa only [List.append_assoc] using Rx, W⟩ (show d.length - (i + 1) < d.length - i by omega) ⟨by kernel_rfl, by kernel_rfl, by kernel_rfl, (by kernel_rfl : _ = Value.int .i64 (IntKind.wrap .i64 (Int.ofNat (i + 1 + 1)))).trans (by rw [hw]), trivial⟩)
            · refine sy_no 0 (b := (IntKind.wrap .i64 (((IntKind.wrap .i64 (IntKind.wrap .u8 (Int.ofNat (48 + d[i]) - 48)))).tdiv 4) == 1)) (by kernel_rfl) (by rw [t4]; exact beq_eq_false_iff_ne.2 h4) ?_
              refine ok_go 1 ?_
              exact sy_next 0 _ g (by kernel_rfl) (by kernel_rfl) (ih (i + 1, sl, q, vs, L) _ g ⟨hlt, hsl, hsc, by rw [hsn]; simpa only [ha, hb, h4, if_true, if_false, List.append_nil, List.nil_append, List.map_append, List.map_cons, List.map_nil, List.append_assoc] using R, W⟩ (show d.length - (i + 1) < d.length - i by omega) ⟨by kernel_rfl, by kernel_rfl, by kernel_rfl, (by kernel_rfl : _ = Value.int .i64 (IntKind.wrap .i64 (Int.ofNat (i + 1 + 1)))).trans (by rw [hw]), trivial⟩)
        · skip
          by_cases h2 : d[i] / 2 % 2 = 1
          · refine sy_yes 0 (b := ((IntKind.wrap .i64 (((IntKind.wrap .i64 (IntKind.wrap .u8 (Int.ofNat (48 + d[i]) - 48)))).tdiv 2)).tmod 2 == 1)) (by kernel_rfl) (by rw [t2, h2]; rfl) ?_
            refine ok_go 3 ?_
            refine sy_yes 0 (b := (decide ((IntKind.wrap .i64 (Int.ofNat n - Int.ofNat (i + 1))) > 0))) (by kernel_rfl) (by rw [hLV]; exact decide_eq_true (by show (0 : Int) < ((n - (i + 1) : Nat) : Int); omega)) ?_
            have hb : (d[i] / 2 % 2 = 1 ∧ i + 1 < n) = True := eq_true ⟨h2, by omega⟩
            refine ow_new 0 W (AObj.cells [Value.int IntKind.i64 (IntKind.wrap IntKind.i64 (Int.ofNat n - Int.ofNat (Prod.fst (i, sl, q, vs, L) + 1)))] 3 false) (fun q => Value.slice (some { block := q, off := 0 }) 1 2) (by kernel_rfl) fun c8x1 nc8x1 Wc8x1 => ?_
            have W := Wc8x1
            refine ow_new 0 W (AObj.cells [Value.slice (some { block := Hp.next g, off := 0 }) 1 2] 22 false) (fun q => Value.slice (some { block := q, off := 0 }) 1 2) (by kernel_rfl) fun c8x2 nc8x2 Wc8x2 => ?_
            have W := Wc8x2
            rw [hLV] at W
            refine app_row (L2 := [(_, .cells [J (n - (i + 1))] 3 false)]) 0 W hsl R rfl row1 (by simp; omega) (by kernel_rfl) fun g8a sl8a hsl8a hsc8a R8a W => ?_
            have hrl : [n - (i + 1)] = rowL (n - (i + 1), 0) := by unfold rowL; rw [if_neg (by show ¬ n - (i + 1) = 0; omega), if_pos rfl]
            rw [hrl] at R8a
            refine ok_go 2 ?_
            by_cases h4 : d[i] / 4 % 2 = 1
            · refine sy_yes 0 (b := (IntKind.wrap .i64 (((IntKind.wrap .i64 (IntKind.wrap .u8 (Int.ofNat (48 + d[i]) - 48)))).tdiv 4) == 1)) (by kernel_rfl) (by rw [t4, h4]; rfl) ?_
              refine ok_go 0 ?_
              refine sy_loop 0 lf g8a (α := Nat × Value × Nat × List Value × List (Nat × AObj)) (fun x => [(0, .string (strL (codeS d))), (1, J n), (5, x.2.1), (6, J (i + 1)), (8, I (IntKind.wrap .i64 (Int.ofNat n - Int.ofNat (i + 1)))), (9, J x.1)])
                (fun x g => 1 ≤ x.1 ∧ 2 * (x.1 - 1) ≤ n - (i + 1) ∧ x.2.1 = oslV x.2.2.1 x.2.2.2.1.length ∧ scalar x.2.1 = true ∧ RowsS x.2.2.2.2 x.2.2.2.1 ((((ops (d.take i) 0 n).map rowL) ++ [rowL (n - (i + 1), 0)]) ++ (List.range (x.1 - 1)).map (fun a => rowL (a + 1, n - (i + 1) - (a + 1)))) ∧ Sto h g (x.2.2.2.2 ++ oent x.2.2.1 22 x.2.2.2.1)) (fun x _ => n - x.1) (1, sl8a, _, _, _) (by kernel_rfl) (by kernel_rfl)
                ⟨by kernel_rfl, by kernel_rfl, by kernel_rfl, by kernel_rfl, by kernel_rfl, by kernel_rfl, trivial⟩ (show n - 1 < lf by omega) ⟨Nat.le_refl 1, by simp, hsl8a, hsc8a, by rw [show (1 : Nat) - 1 = 0 from rfl, List.range_zero, List.map_nil, List.append_nil]; exact R8a, W⟩ ?_
              rintro m2 ⟨x, slx, qx, vx, Lx⟩ f2 gx ⟨hx1, hx2, hslx, hscx, Rx, W⟩ ih2
              dsimp only at hx1 hx2 hslx hscx Rx W
              have hxx : IntKind.wrap .i64 (Int.ofNat x + Int.ofNat x) = Int.ofNat (x + x) := wrap_add (by omega)
              have hwx : IntKind.wrap .i64 (Int.ofNat (x + 1)) = Int.ofNat (x + 1) := wrap_nat (by omega)
              refine ok_go 2 ?_
              refine sy_test 0 (decide (IntKind.wrap .i64 (Int.ofNat x + Int.ofNat x) ≤ (IntKind.wrap .i64 (Int.ofNat n - Int.ofNat (i + 1))))) (by kernel_rfl) ?_ ?_
              · intro hle3
                have hle3 : x + x ≤ n - (i + 1) := by rw [hxx, hLV] at hle3; exact Int.ofNat_le.1 (of_decide_eq_true hle3)
                have hsub : IntKind.wrap .i64 ((IntKind.wrap .i64 (Int.ofNat n - Int.ofNat (i + 1))) - Int.ofNat x) = Int.ofNat (n - (i + 1) - x) := by rw [hLV]; exact wrap_sub (by omega) (by omega)
                refine ow_new 1 W (AObj.cells [Value.int IntKind.i64 (Int.ofNat (Prod.fst (x, slx, qx, vx, Lx))), Value.int IntKind.i64 (IntKind.wrap IntKind.i64 (IntKind.wrap IntKind.i64 (Int.ofNat n - Int.ofNat (i + 1)) - Int.ofNat (Prod.fst (x, slx, qx, vx, Lx))))] 3 false) (fun q => Value.slice (some { block := q, off := 0 }) 2 4) (by kernel_rfl) fun c9x1 nc9x1 Wc9x1 => ?_
                have W := Wc9x1
                refine ow_new 0 W (AObj.cells [Value.slice (some { block := Hp.next gx, off := 0 }) 2 4] 22 false) (fun q => Value.slice (some { block := q, off := 0 }) 1 2) (by kernel_rfl) fun c9x2 nc9x2 Wc9x2 => ?_
                have W := Wc9x2
                rw [hsub] at W
                refine app_row (L2 := [(_, .cells [J x, J (n - (i + 1) - x)] 3 false)]) 0 W hslx Rx rfl row2 (by simp; omega) (by kernel_rfl) fun g9b sl9b hsl9b hsc9b R9b W => ?_
                have hrl : [x, n - (i + 1) - x] = rowL (x - 1 + 1, n - (i + 1) - (x - 1 + 1)) := by
                  rw [show x - 1 + 1 = x by omega]
                  unfold rowL; rw [if_neg (by show ¬ x = 0; omega), if_neg (by show ¬ n - (i + 1) - x = 0; omega)]
                rw [hrl, List.append_assoc] at R9b
                refine ok_go 1 ?_
                exact sy_next 0 _ g9b (by kernel_rfl) (by kernel_rfl) (ih2 (x + 1, sl9b, _, _, _) _ g9b ⟨by show 1 ≤ x + 1; omega, by show 2 * (x + 1 - 1) ≤ _; omega, hsl9b, hsc9b, by
                  show RowsS _ _ ((((ops (d.take i) 0 n).map rowL) ++ [rowL (n - (i + 1), 0)]) ++ (List.range (x + 1 - 1)).map (fun a => rowL (a + 1, n - (i + 1) - (a + 1))))
                  rw [show x + 1 - 1 = (x - 1) + 1 by omega, List.range_succ, List.map_append]
                  exact R9b, W⟩ (show n - (x + 1) < n - x by omega) ⟨by kernel_rfl, by kernel_rfl, by kernel_rfl, by kernel_rfl, by kernel_rfl, (by kernel_rfl : _ = Value.int .i64 (IntKind.wrap .i64 (Int.ofNat (x + 1)))).trans (by rw [hwx]), trivial⟩)
              · intro hle3
                have hle3 : n - (i + 1) < x + x := by rw [hxx, hLV] at hle3; have := of_decide_eq_false hle3; exact Nat.lt_of_not_le fun h => this (Int.ofNat_le.2 h)
                have hx3 : x - 1 = (n - (i + 1)) / 2 := by omega
                rw [hx3] at Rx
                have hcm : ((List.range ((n - (i + 1)) / 2)).map fun a => (a + 1, n - (i + 1) - (a + 1))).map rowL = (List.range ((n - (i + 1)) / 2)).map (fun a => rowL (a + 1, n - (i + 1) - (a + 1))) := by rw [List.map_map]; rfl
                refine ok_go 1 ?_
                exact sy_next 0 _ gx (by kernel_rfl) (by kernel_rfl) (ih (i + 1, slx, qx, vx, Lx) _ gx ⟨hlt, hslx, hscx, by rw [hsn]; simp only [ha, hb, h4, if_true, if_false, List.append_nil, List.nil_append, List.map_append, hcm, List.map_cons, List.map_nil]; simpa only [List.append_assoc] using Rx, W⟩ (show d.length - (i + 1) < d.length - i by omega) ⟨by kernel_rfl, by kernel_rfl, by kernel_rfl, (by kernel_rfl : _ = Value.int .i64 (IntKind.wrap .i64 (Int.ofNat (i + 1 + 1)))).trans (by rw [hw]), trivial⟩)
            · refine sy_no 0 (b := (IntKind.wrap .i64 (((IntKind.wrap .i64 (IntKind.wrap .u8 (Int.ofNat (48 + d[i]) - 48)))).tdiv 4) == 1)) (by kernel_rfl) (by rw [t4]; exact beq_eq_false_iff_ne.2 h4) ?_
              refine ok_go 1 ?_
              exact sy_next 0 _ g8a (by kernel_rfl) (by kernel_rfl) (ih (i + 1, sl8a, _, _, _) _ g8a ⟨hlt, hsl8a, hsc8a, by rw [hsn]; simpa only [ha, hb, h4, if_true, if_false, List.append_nil, List.nil_append, List.map_append, List.map_cons, List.map_nil, List.append_assoc] using R8a, W⟩ (show d.length - (i + 1) < d.length - i by omega) ⟨by kernel_rfl, by kernel_rfl, by kernel_rfl, (by kernel_rfl : _ = Value.int .i64 (IntKind.wrap .i64 (Int.ofNat (i + 1 + 1)))).trans (by rw [hw]), trivial⟩)
          · refine sy_no 0 (b := ((IntKind.wrap .i64 (((IntKind.wrap .i64 (IntKind.wrap .u8 (Int.ofNat (48 + d[i]) - 48)))).tdiv 2)).tmod 2 == 1)) (by kernel_rfl) (by rw [t2]; exact beq_eq_false_iff_ne.2 h2) ?_
            have hb : (d[i] / 2 % 2 = 1 ∧ i + 1 < n) = False := eq_false (by omega)
            refine ok_go 5 ?_
            by_cases h4 : d[i] / 4 % 2 = 1
            · refine sy_yes 0 (b := (IntKind.wrap .i64 (((IntKind.wrap .i64 (IntKind.wrap .u8 (Int.ofNat (48 + d[i]) - 48)))).tdiv 4) == 1)) (by kernel_rfl) (by rw [t4, h4]; rfl) ?_
              refine ok_go 0 ?_
              refine sy_loop 0 lf g (α := Nat × Value × Nat × List Value × List (Nat × AObj)) (fun x => [(0, .string (strL (codeS d))), (1, J n), (5, x.2.1), (6, J (i + 1)), (8, I (IntKind.wrap .i64 (Int.ofNat n - Int.ofNat (i + 1)))), (9, J x.1)])
                (fun x g => 1 ≤ x.1 ∧ 2 * (x.1 - 1) ≤ n - (i + 1) ∧ x.2.1 = oslV x.2.2.1 x.2.2.2.1.length ∧ scalar x.2.1 = true ∧ RowsS x.2.2.2.2 x.2.2.2.1 (((ops (d.take i) 0 n).map rowL) ++ (List.range (x.1 - 1)).map (fun a => rowL (a + 1, n - (i + 1) - (a + 1)))) ∧ Sto h g (x.2.2.2.2 ++ oent x.2.2.1 22 x.2.2.2.1)) (fun x _ => n - x.1) (1, sl, _, _, _) (by kernel_rfl) (by kernel_rfl)
                ⟨by kernel_rfl, by kernel_rfl, by kernel_rfl, by kernel_rfl, by kernel_rfl, by kernel_rfl, trivial⟩ (show n - 1 < lf by omega) ⟨Nat.le_refl 1, by simp, hsl, hsc, by rw [show (1 : Nat) - 1 = 0 from rfl, List.range_zero, List.map_nil, List.append_nil]; exact R, W⟩ ?_
              rintro m2 ⟨x, slx, qx, vx, Lx⟩ f2 gx ⟨hx1, hx2, hslx, hscx, Rx, W⟩ ih2
              dsimp only at hx1 hx2 hslx hscx Rx W
              have hxx : IntKind.wrap .i64 (Int.ofNat x + Int.ofNat x) = Int.ofNat (x + x) := wrap_add (by omega)
              have hwx : IntKind.wrap .i64 (Int.ofNat (x + 1)) = Int.ofNat (x + 1) := wrap_nat (by omega)
              refine ok_go 2 ?_
              refine sy_test 0 (decide (IntKind.wrap .i64 (Int.ofNat x + Int.ofNat x) ≤ (IntKind.wrap .i64 (Int.ofNat n - Int.ofNat (i + 1))))) (by kernel_rfl) ?_ ?_
              · intro hle3
                have hle3 : x + x ≤ n - (i + 1) := by rw [hxx, hLV] at hle3; exact Int.ofNat_le.1 (of_decide_eq_true hle3)
                have hsub : IntKind.wrap .i64 ((IntKind.wrap .i64 (Int.ofNat n - Int.ofNat (i + 1))) - Int.ofNat x) = Int.ofNat (n - (i + 1) - x) := by rw [hLV]; exact wrap_sub (by omega) (by omega)
                refine ow_new 1 W (AObj.cells [Value.int IntKind.i64 (Int.ofNat (Prod.fst (x, slx, qx, vx, Lx))), Value.int IntKind.i64 (IntKind.wrap IntKind.i64 (IntKind.wrap IntKind.i64 (Int.ofNat n - Int.ofNat (i + 1)) - Int.ofNat (Prod.fst (x, slx, qx, vx, Lx))))] 3 false) (fun q => Value.slice (some { block := q, off := 0 }) 2 4) (by kernel_rfl) fun c10x1 nc10x1 Wc10x1 => ?_
                have W := Wc10x1
                refine ow_new 0 W (AObj.cells [Value.slice (some { block := Hp.next gx, off := 0 }) 2 4] 22 false) (fun q => Value.slice (some { block := q, off := 0 }) 1 2) (by kernel_rfl) fun c10x2 nc10x2 Wc10x2 => ?_
                have W := Wc10x2
                rw [hsub] at W
                refine app_row (L2 := [(_, .cells [J x, J (n - (i + 1) - x)] 3 false)]) 0 W hslx Rx rfl row2 (by simp; omega) (by kernel_rfl) fun g10b sl10b hsl10b hsc10b R10b W => ?_
                have hrl : [x, n - (i + 1) - x] = rowL (x - 1 + 1, n - (i + 1) - (x - 1 + 1)) := by
                  rw [show x - 1 + 1 = x by omega]
                  unfold rowL; rw [if_neg (by show ¬ x = 0; omega), if_neg (by show ¬ n - (i + 1) - x = 0; omega)]
                rw [hrl, List.append_assoc] at R10b
                refine ok_go 1 ?_
                exact sy_next 0 _ g10b (by kernel_rfl) (by kernel_rfl) (ih2 (x + 1, sl10b, _, _, _) _ g10b ⟨by show 1 ≤ x + 1; omega, by show 2 * (x + 1 - 1) ≤ _; omega, hsl10b, hsc10b, by
                  show RowsS _ _ (((ops (d.take i) 0 n).map rowL) ++ (List.range (x + 1 - 1)).map (fun a => rowL (a + 1, n - (i + 1) - (a + 1))))
                  rw [show x + 1 - 1 = (x - 1) + 1 by omega, List.range_succ, List.map_append]
                  exact R10b, W⟩ (show n - (x + 1) < n - x by omega) ⟨by kernel_rfl, by kernel_rfl, by kernel_rfl, by kernel_rfl, by kernel_rfl, (by kernel_rfl : _ = Value.int .i64 (IntKind.wrap .i64 (Int.ofNat (x + 1)))).trans (by rw [hwx]), trivial⟩)
              · intro hle3
                have hle3 : n - (i + 1) < x + x := by rw [hxx, hLV] at hle3; have := of_decide_eq_false hle3; exact Nat.lt_of_not_le fun h => this (Int.ofNat_le.2 h)
                have hx3 : x - 1 = (n - (i + 1)) / 2 := by omega
                rw [hx3] at Rx
                have hcm : ((List.range ((n - (i + 1)) / 2)).map fun a => (a + 1, n - (i + 1) - (a + 1))).map rowL = (List.range ((n - (i + 1)) / 2)).map (fun a => rowL (a + 1, n - (i + 1) - (a + 1))) := by rw [List.map_map]; rfl
                refine ok_go 1 ?_
                exact sy_next 0 _ gx (by kernel_rfl) (by kernel_rfl) (ih (i + 1, slx, qx, vx, Lx) _ gx ⟨hlt, hslx, hscx, by rw [hsn]; simp only [ha, hb, h4, if_true, if_false, List.append_nil, List.nil_append, List.map_append, hcm, List.map_cons, List.map_nil]; simpa only [List.append_assoc] using Rx, W⟩ (show d.length - (i + 1) < d.length - i by omega) ⟨by kernel_rfl, by kernel_rfl, by kernel_rfl, (by kernel_rfl : _ = Value.int .i64 (IntKind.wrap .i64 (Int.ofNat (i + 1 + 1)))).trans (by rw [hw]), trivial⟩)
            · refine sy_no 0 (b := (IntKind.wrap .i64 (((IntKind.wrap .i64 (IntKind.wrap .u8 (Int.ofNat (48 + d[i]) - 48)))).tdiv 4) == 1)) (by kernel_rfl) (by rw [t4]; exact beq_eq_false_iff_ne.2 h4) ?_
              refine ok_go 1 ?_
              exact sy_next 0 _ g (by kernel_rfl) (by kernel_rfl) (ih (i + 1, sl, q, vs, L) _ g ⟨hlt, hsl, hsc, by rw [hsn]; simpa only [ha, hb, h4, if_true, if_false, List.append_nil, List.nil_append, List.map_append, List.map_cons, List.map_nil, List.append_assoc] using R, W⟩ (show d.length - (i + 1) < d.length - i by omega) ⟨by kernel_rfl, by kernel_rfl, by kernel_rfl, (by kernel_rfl : _ = Value.int .i64 (IntKind.wrap .i64 (Int.ofNat (i + 1 + 1)))).trans (by rw [hw]), trivial⟩)
    · intro hle2
      have hin : ¬ i + 1 ≤ n := fun hh => of_decide_eq_false hle2 (Int.ofNat_le.2 hh)
      refine sy_done 0 (v := sl) (h := g) (by kernel_rfl) ?_
      refine ⟨q, vs, L, hsl, ?_, W⟩
      have : ops d 0 n = ops (d.take i) 0 n := by
        have e : ops d 0 n = ops (d.take i) 0 n ++ ops (d.drop i) (0 + (d.take i).length) n := by rw [← ops_app, List.take_append_drop]
        rw [e, ops_none (d.drop i) (0 + (d.take i).length) (by rw [List.length_take]; omega), List.append_nil]
      rw [this]
      exact R
  · intro hle
    have hlt : d.length ≤ i := by rw [hD] at hle; have := of_decide_eq_false hle; exact Nat.le_of_not_lt fun hh => this (Int.ofNat_le.2 hh)
    refine sy_done 4 (v := sl) (h := g) (by kernel_rfl) ?_
    refine ⟨q, vs, L, hsl, ?_, W⟩
    rw [List.take_of_length_le hlt] at R
    exact R
theorem uT69 : Tryz.prog.underlying 65 = some (.slice 4) := by kernel_rfl
theorem makeSl {P : Program} {h : Hp} {t e : TypeId} {len : Nat} {z : Value} {inf : TypeInfo} {kd kd' : IntKind} (hu : P.underlying t = some (.slice e)) (hz : zeroOf P e = some z) (hi : P.info? e = some inf) (hb : Nat.ble inf.bytes 4096 = true)
    (hs : Nat.beq z.cells.size inf.size = true) (hsc : z.cells.toList.all scalar = true) (hn : len < 16777216) :
    makeSliceOp P h t (.int kd (Int.ofNat len)) (.int kd' (Int.ofNat len)) = some (.slice (some ⟨h.next, 0, none⟩) len (2 * len), h.new (.cells (zeros z.cells.toList len) e false)) := by
  have h1 : Nat.ble len len = true := Nat.ble_eq_true_of_le (Nat.le_refl _)
  have h2 : Nat.ble len most = true := Nat.ble_eq_true_of_le (by unfold most; omega)
  simp only [makeSliceOp, hu, natOf, hz, hi, h1, h2, hb, hs, hsc]
theorem osl_shape (q n : Nat) : ∃ a c, oslV q n = .slice a n c := by
  cases n
  · exact ⟨_, _, rfl⟩
  · exact ⟨_, _, rfl⟩
theorem rd31 {h : Hp} {l : Value} {vs : List Value} {k : Nat} {v : Value} (hl : Rds h l vs) (hk : vs[k]? = some v) : ∃ p, indexAddrOp Tryz.prog 24 l (J k) = some p ∧ loadT Tryz.prog h 22 p = some v := hl.read (by kernel_rfl) (by kernel_rfl) (by kernel_rfl) hk
theorem rd32 {h : Hp} {l : Value} {r : List Nat} {k : Nat} (hl : Rds h l (r.map J)) (hk : k < r.length) : ∃ p, indexAddrOp Tryz.prog 22 l (J k) = some p ∧ loadT Tryz.prog h 3 p = some (J r[k]) := hl.read (e := 3) (by kernel_rfl) (by kernel_rfl) (by kernel_rfl) (by rw [List.getElem?_map, List.getElem?_eq_getElem hk]; rfl)
def accR (d : List Nat) (r : List Nat) : Nat := r.foldl (fun a x => a ^^^ gv d x) 0
theorem accR_take (d r : List Nat) {x : Nat} (hx : x < r.length) : accR d (r.take (x + 1)) = accR d (r.take x) ^^^ gv d r[x] := by
  unfold accR
  rw [List.take_succ_eq_append_getElem hx, List.foldl_append]
  rfl
theorem xor_12 {a b : Nat} (ha : a < 4096) (hb : b < 4096) : a ^^^ b < 4096 := Nat.xor_lt_two_pow (n := 12) ha hb
theorem fold_lt (d : List Nat) : ∀ (r : List Nat) (a : Nat), a < 4096 → (∀ x ∈ r, x < 4096) → r.foldl (fun a x => a ^^^ gv d x) a < 4096
  | [], _, ha, _ => ha
  | y :: r, a, ha, h => fold_lt d r _ (xor_12 ha (Nat.lt_of_le_of_lt (gv_self d y) (h y List.mem_cons_self))) fun x hx => h x (List.mem_cons_of_mem _ hx)
theorem gv_zero (d : List Nat) : gv d 0 = 0 := rfl
theorem accR_row (d : List Nat) (p : Nat × Nat) (h : p.1 = 0 → p.2 = 0) : accR d (rowL p) = gv d p.1 ^^^ gv d p.2 := by
  unfold accR rowL
  split
  · rename_i h0
    rw [h0, h h0, gv_zero]; rfl
  · split
    · rename_i h0
      rw [h0, gv_zero]
      show 0 ^^^ gv d p.1 = _
      rw [Nat.zero_xor, Nat.xor_zero]
    · show 0 ^^^ gv d p.1 ^^^ gv d p.2 = _
      rw [Nat.zero_xor]
theorem ops_zero {d : List Nat} {n : Nat} {p : Nat × Nat} (h : p ∈ ops d 0 n) : p.1 = 0 → p.2 = 0 := by
  obtain ⟨a, b⟩ := p
  obtain ⟨k, g, _, ho⟩ := ops_iff.1 h
  have := (op1_iff a b).1 ho
  intro h0
  dsimp only at h0 ⊢
  omega
theorem rvalues_of (d : List Nat) (hd : ∀ x ∈ d, x < 8) (hl : d.length ≤ 8) (n : Nat) (hn : n ≤ 2000) (lf m : Nat) (hlf : 20000 ≤ lf) (h : Hp)
    (af : ∀ k h, k ≤ 2000 → ∃ v h', Ev lf m 33 [.string (strL (codeS d)), J k] h = some (v, h') ∧ ∃ q vs L, v = oslV q vs.length ∧ RowsS L vs ((ops d 0 k).map rowL) ∧ Sto h h' (L ++ oent q 22 vs)) :
    ∃ v h', Ev lf (m + 1) 15 [.string (strL (codeS d)), J n] h = some (v, h') ∧ ∃ q, v = .slice (some ⟨q, 0, none⟩) (n + 1) (kc n) ∧ Sto h h' [(q, .cells (cellsF (n + 1) fun k => J (gv d k)) 3 (opn n))] := by
  refine fnS_ok (Q := fun v h' => ∃ q, v = .slice (some ⟨q, 0, none⟩) (n + 1) (kc n) ∧ Sto h h' [(q, .cells (cellsF (n + 1) fun k => J (gv d k)) 3 (opn n))]) ?_
  have W := Sto.start h
  refine ow_new 0 W (AObj.cells [Value.int IntKind.i64 (Int.ofNat 0)] 3 false) (fun q => Value.slice (some { block := q, off := 0 }) 1 2) (by kernel_rfl) fun g1 ng1 Wg1 => ?_
  have W := Wg1
  refine sy_loop 0 lf g1 (α := Nat × Nat) (fun x => [(0, .string (strL (codeS d))), (1, J n), (5, .slice (some ⟨x.2, 0, none⟩) (x.1 + 1) (kc x.1)), (6, J (x.1 + 1))]) (fun x g => x.1 ≤ n ∧ Sto h g [(x.2, .cells (cellsF (x.1 + 1) fun k => J (gv d k)) 3 (opn x.1))]) (fun x _ => n - x.1) (0, h.next) (by kernel_rfl) (by kernel_rfl)
    ⟨by kernel_rfl, by kernel_rfl, by kernel_rfl, by kernel_rfl, trivial⟩ (show n - 0 < lf by omega) ⟨Nat.zero_le _, W⟩ ?_
  rintro m1 ⟨nn, ki⟩ f1 g ⟨hnn, W⟩ ih
  dsimp only at hnn W
  have hw : IntKind.wrap .i64 (Int.ofNat (nn + 1 + 1)) = Int.ofNat (nn + 1 + 1) := wrap_nat (by omega)
  refine ok_go 1 ?_
  refine sy_test 0 (decide (Int.ofNat (nn + 1) ≤ Int.ofNat n)) (by kernel_rfl) ?_ ?_
  · intro hle
    have hle : nn + 1 ≤ n := Int.ofNat_le.1 (of_decide_eq_true hle)
    have hsz : IntKind.wrap .i64 (IntKind.wrap .i64 (2 * Int.ofNat n) + 4) = Int.ofNat (2 * n + 4) := by
      rw [show IntKind.wrap .i64 (2 * Int.ofNat n) = Int.ofNat (2 * n) from wrap_nat (n := 2 * n) (by omega)]
      exact wrap_add (b := 4) (by omega)
    refine ok_go 2 ?_
    refine ow_new 0 W (.cells (cellsF (2 * n + 4) fun _ => .bool false) 4 false) (fun q => .slice (some ⟨q, 0, none⟩) (2 * n + 4) (2 * (2 * n + 4))) ((by kernel_rfl : _ = makeSliceOp Tryz.prog g 65 (.int .i64 (IntKind.wrap .i64 (IntKind.wrap .i64 (2 * Int.ofNat n) + 4))) (.int .i64 (IntKind.wrap .i64 (IntKind.wrap .i64 (2 * Int.ofNat n) + 4)))).trans (by rw [hsz, ← zeros_one]; exact makeSl (z := .bool false) (inf := (Tryz.prog.info? 4).get!) uT69 (by kernel_rfl) (by kernel_rfl) (by kernel_rfl) (by kernel_rfl) (by kernel_rfl) (by omega))) fun g2 ng2 W => ?_
    refine ok_go 0 ?_
    obtain ⟨sl, g3, e3, qv, vs, L, hsl, RS, W3⟩ := af (nn + 1) g2 (by omega)
    obtain ⟨sa, sc, hsh⟩ := osl_shape qv vs.length
    rw [hsh] at hsl
    subst hsl
    have W := W.over W3
    refine sy_call 0 (by kernel_rfl) e3 ?_
    have hll : vs.length = (ops d 0 (nn + 1)).length := by rw [RS.len, List.length_map]
    have hop := ops_len (nn + 1) d 0
    have hlb : vs.length ≤ 8 * 2001 := by
      rw [hll]; exact Nat.le_trans hop (Nat.mul_le_mul hl (by omega))
    refine ok_go 0 ?_
    have W : Sto h g3 ((g.next, .cells (cellsF (2 * n + 4) fun _ => .bool false) 4 false) :: ((L ++ oent qv 22 vs) ++ [(ki, .cells (cellsF (nn + 1) fun k => J (gv d k)) 3 (opn nn))])) := W.perm List.perm_middle
    generalize hov : (ops d 0 (nn + 1)).map (fun p => gv d p.1 ^^^ gv d p.2) = ov at *
    refine sy_loop 0 lf g3 (α := Nat) (fun j => [(0, .string (strL (codeS d))), (1, J n), (5, .slice (some ⟨ki, 0, none⟩) (nn + 1) (kc nn)), (6, J (nn + 1)), (7, .slice (some ⟨g.next, 0, none⟩) (2 * n + 4) (2 * (2 * n + 4))), (8, .slice sa vs.length sc), (9, J j)])
      (fun j q => j ≤ vs.length ∧ Sto h q ((g.next, .cells (cellsF (2 * n + 4) fun c => .bool ((ov.take j).contains c)) 4 false) :: ((L ++ oent qv 22 vs) ++ [(ki, .cells (cellsF (nn + 1) fun k => J (gv d k)) 3 (opn nn))]))) (fun j _ => vs.length - j) 0 (by kernel_rfl) (by kernel_rfl)
      ⟨by kernel_rfl, by kernel_rfl, by kernel_rfl, by kernel_rfl, by kernel_rfl, by kernel_rfl, by kernel_rfl, trivial⟩ (show vs.length - 0 < lf by omega) ⟨Nat.zero_le _, (by rw [List.take_zero]; exact W)⟩ ?_
    rintro m2 j f2 q ⟨hj, W⟩ ih2
    have Rq : Rds q (.slice sa vs.length sc) vs := by
      rw [← hsh]
      exact osl_rd (e := 22) (W.hold.sub fun p hp => List.mem_cons_of_mem _ (List.mem_append_left _ (List.mem_append_right _ hp)))
    have HL : Hold q L := W.hold.sub fun p hp => List.mem_cons_of_mem _ (List.mem_append_left _ (List.mem_append_left _ hp))
    refine ok_go 2 ?_
    refine sy_test 0 (decide (Int.ofNat j < Int.ofNat vs.length)) (by kernel_rfl) ?_ ?_
    · intro hlt
      have hlt : j < vs.length := Int.ofNat_lt.1 (of_decide_eq_true hlt)
      have hlt' : j < (ops d 0 (nn + 1)).length := by omega
      obtain ⟨rv, hrv⟩ : ∃ rv, vs[j]? = some rv := ⟨_, List.getElem?_eq_getElem hlt⟩
      obtain ⟨pp, hpp⟩ : ∃ pp, (ops d 0 (nn + 1))[j]? = some pp := ⟨_, List.getElem?_eq_getElem hlt'⟩
      have hrr := RS.row j rv (rowL pp) hrv (by rw [List.getElem?_map, hpp]; rfl) q HL
      obtain ⟨ra, rc, hrs⟩ := hrr.shape
      rw [List.length_map] at hrs
      subst hrs
      obtain ⟨p1, e4, e5⟩ := rd31 Rq hrv
      have hjw : IntKind.wrap .i64 (Int.ofNat (j + 1)) = Int.ofNat (j + 1) := wrap_nat (by omega)
      have hpl := ops_lt (List.mem_of_getElem? hpp)
      have hrl : (rowL pp).length ≤ 2 ∧ ∀ x ∈ rowL pp, x ≤ nn := by
        unfold rowL
        split
        · exact ⟨by simp, by simp⟩
        · split
          · exact ⟨by simp, fun x hx => by rw [List.mem_singleton.1 hx]; omega⟩
          · exact ⟨by simp, fun x hx => by simp only [List.mem_cons, List.not_mem_nil, or_false] at hx; rcases hx with rfl | rfl <;> omega⟩
      generalize hrr0 : rowL pp = r at *
      refine ok_go 0 ?_
      refine sy_loop 0 lf q (α := Nat) (fun x => [(0, .string (strL (codeS d))), (1, J n), (5, .slice (some ⟨ki, 0, none⟩) (nn + 1) (kc nn)), (6, J (nn + 1)), (7, .slice (some ⟨g.next, 0, none⟩) (2 * n + 4) (2 * (2 * n + 4))), (8, .slice sa vs.length sc), (9, J j), (10, J (accR d (r.take x))), (11, J x)])
        (fun x k => k = q ∧ x ≤ r.length) (fun x _ => r.length - x) 0 (by kernel_rfl) (by kernel_rfl)
        ⟨by kernel_rfl, by kernel_rfl, by kernel_rfl, by kernel_rfl, by kernel_rfl, by kernel_rfl, by kernel_rfl, (by rw [List.take_zero]; kernel_rfl), by kernel_rfl, trivial⟩ (show r.length - 0 < lf by omega) ⟨rfl, Nat.zero_le _⟩ ?_
      rintro m3 x f3 k ⟨rfl, hx⟩ ih3
      refine ok_go 0 ?_
      refine sy_load 0 (r := indexAddrOp Tryz.prog 24 (.slice sa vs.length sc) (J j)) (h' := k) (by kernel_rfl) e4 ?_
      refine ok_go 0 ?_
      refine sy_load 0 (r := loadT Tryz.prog k 22 p1) (h' := k) (by kernel_rfl) e5 ?_
      refine ok_go 2 ?_
      have hxw : IntKind.wrap .i64 (Int.ofNat (x + 1)) = Int.ofNat (x + 1) := wrap_nat (by have := hrl.1; omega)
      refine sy_test 0 (decide (Int.ofNat x < Int.ofNat r.length)) (by kernel_rfl) ?_ ?_
      · intro hlx
        have hlx : x < r.length := Int.ofNat_lt.1 (of_decide_eq_true hlx)
        obtain ⟨p2, e6, e7⟩ := rd32 hrr hlx
        have hxn := hrl.2 _ (List.getElem_mem hlx)
        refine ok_go 0 ?_
        refine sy_load 0 (r := indexAddrOp Tryz.prog 24 (.slice sa vs.length sc) (J j)) (h' := k) (by kernel_rfl) e4 ?_
        refine ok_go 0 ?_
        refine sy_load 0 (r := loadT Tryz.prog k 22 p1) (h' := k) (by kernel_rfl) e5 ?_
        refine ok_go 0 ?_
        refine sy_load 0 (r := indexAddrOp Tryz.prog 22 (.slice ra r.length rc) (J x)) (h' := k) (by kernel_rfl) e6 ?_
        refine ok_go 0 ?_
        refine sy_load 0 (r := loadT Tryz.prog k 3 p2) (h' := k) (by kernel_rfl) e7 ?_
        refine ok_go 0 ?_
        refine sy_load 0 (r := indexAddrOp Tryz.prog 22 (Value.slice (some { block := ki, off := 0 }) (nn + 1) (kc nn)) (J r[x])) (h' := k) (by kernel_rfl) (idxS0 (e := 3) (by kernel_rfl) (by kernel_rfl) (by omega)) ?_
        have hki : (ki, AObj.cells (cellsF (nn + 1) fun k => J (gv d k)) 3 (opn nn)) ∈ ((g.next, AObj.cells (cellsF (2 * n + 4) fun c => .bool ((ov.take j).contains c)) 4 false) :: ((L ++ oent qv 22 vs) ++ [(ki, .cells (cellsF (nn + 1) fun k => J (gv d k)) 3 (opn nn))])) := List.mem_cons_of_mem _ (List.mem_append_right _ (List.mem_singleton.2 rfl))
        obtain ⟨kk, hkk⟩ := List.mem_iff_getElem?.1 hki
        refine ow_loadF (P := Tryz.prog) (T := 3) (off := r[x]) 0 kk W hkk (by omega) (by kernel_rfl) (by kernel_rfl) ?_
        have ga := gv_self d r[x]
        have hacc : accR d (r.take x) < 4096 := fold_lt d _ 0 (by omega) fun y hy => by have := hrl.2 y (List.mem_of_mem_take hy); omega
        have hxx : xorI (Int.ofNat (accR d (r.take x))) (Int.ofNat (gv d r[x])) = Int.ofNat (accR d (r.take (x + 1))) := by rw [accR_take d r hlx]; exact xor_nat (by omega) (by omega)
        refine ok_go 2 ?_
        refine sy_next 0 _ k (by kernel_rfl) (by kernel_rfl) (ih3 (x + 1) _ k ⟨rfl, hlx⟩ (show r.length - (x + 1) < r.length - x by omega) ⟨by kernel_rfl, by kernel_rfl, by kernel_rfl, by kernel_rfl, by kernel_rfl, by kernel_rfl, by kernel_rfl, (by kernel_rfl : _ = Value.int .i64 (xorI (Int.ofNat (accR d (r.take x))) (Int.ofNat (gv d r[x])))).trans (by rw [hxx]), (by kernel_rfl : _ = Value.int .i64 (IntKind.wrap .i64 (Int.ofNat (x + 1)))).trans (by rw [hxw]), trivial⟩)
      · intro hlx
        obtain rfl : x = r.length := by
          have := of_decide_eq_false hlx
          exact Nat.le_antisymm hx (Nat.le_of_not_lt fun h => this (Int.ofNat_lt.2 h))
        rw [List.take_length]
        refine ok_go 2 ?_
        have hov' : ov[j]? = some (accR d r) := by
          rw [← hov, List.getElem?_map, hpp, ← hrr0, accR_row d pp (ops_zero (List.mem_of_getElem? hpp))]; rfl
        have hbd : accR d r < 2 * n + 4 := by
          have := opt_le d (nn + 1) (List.mem_of_getElem? hpp)
          rw [← hrr0, accR_row d pp (ops_zero (List.mem_of_getElem? hpp))]; omega
        have hcu := updc (N := 2 * n + 4) hov'
        refine sy_test 0 (decide (Int.ofNat (accR d r) < Int.ofNat (2 * n + 4))) (by kernel_rfl) ?_ ?_
        · intro _
          refine ok_go 0 ?_
          refine sy_load 0 (r := indexAddrOp Tryz.prog 65 (.slice (some ⟨g.next, 0, none⟩) (2 * n + 4) (2 * (2 * n + 4))) (J (accR d r))) (h' := k) (by kernel_rfl) (idxS0 (e := 4) uT69 (by kernel_rfl) hbd) ?_
          refine ok_go 0 ?_
          refine ow_storeF (P := Tryz.prog) (T := 4) (off := accR d r) (v := .bool true) 0 0 W rfl hbd (by kernel_rfl) rfl (by kernel_rfl) fun b2 nb2 W => ?_
          refine ok_go 1 ?_
          have W : Sto h b2 ((g.next, .cells (cellsF (2 * n + 4) fun c => .bool ((ov.take (j + 1)).contains c)) 4 false) :: ((L ++ oent qv 22 vs) ++ [(ki, .cells (cellsF (nn + 1) fun k => J (gv d k)) 3 (opn nn))])) := by rw [← hcu]; exact W
          exact sy_next 0 _ b2 (by kernel_rfl) (by kernel_rfl) (ih2 (j + 1) _ b2 ⟨hlt, W⟩ (show vs.length - (j + 1) < vs.length - j by omega) ⟨by kernel_rfl, by kernel_rfl, by kernel_rfl, by kernel_rfl, by kernel_rfl, by kernel_rfl, (by kernel_rfl : _ = Value.int .i64 (IntKind.wrap .i64 (Int.ofNat (j + 1)))).trans (by rw [hjw]), trivial⟩)
        · intro hc
          exact absurd (Int.ofNat_lt.2 hbd) (of_decide_eq_false hc)
    · intro hlt
      obtain rfl : j = vs.length := by
        have := of_decide_eq_false hlt
        exact Nat.le_antisymm hj (Nat.le_of_not_lt fun h => this (Int.ofNat_lt.2 h))
      have hvo : ov.length = vs.length := by rw [← hov, List.length_map, hll]
      rw [← hvo, List.take_length] at W
      obtain ⟨mx1, mx2⟩ := mex_spec ov
      have hmex : gv d (nn + 1) = mex ov := by rw [← hov]; exact gv_succ d nn
      have hgs := gv_self d (nn + 1)
      rw [← hmex] at mx1 mx2
      refine ok_go 0 ?_
      refine sy_loop 0 lf q (α := Nat) (fun x => [(0, .string (strL (codeS d))), (1, J n), (5, .slice (some ⟨ki, 0, none⟩) (nn + 1) (kc nn)), (6, J (nn + 1)), (7, .slice (some ⟨g.next, 0, none⟩) (2 * n + 4) (2 * (2 * n + 4))), (12, J x)])
        (fun x k => k = q ∧ x ≤ gv d (nn + 1)) (fun x _ => gv d (nn + 1) - x) 0 (by kernel_rfl) (by kernel_rfl)
        ⟨by kernel_rfl, by kernel_rfl, by kernel_rfl, by kernel_rfl, by kernel_rfl, by kernel_rfl, trivial⟩ (show gv d (nn + 1) - 0 < lf by omega) ⟨rfl, Nat.zero_le _⟩ ?_
      rintro m3 x f3 k ⟨rfl, hx⟩ ih3
      have hxw : IntKind.wrap .i64 (Int.ofNat (x + 1)) = Int.ofNat (x + 1) := wrap_nat (by omega)
      refine ok_go 0 ?_
      refine sy_load 0 (r := indexAddrOp Tryz.prog 65 (.slice (some ⟨g.next, 0, none⟩) (2 * n + 4) (2 * (2 * n + 4))) (J x)) (h' := k) (by kernel_rfl) (idxS0 (e := 4) uT69 (by kernel_rfl) (by omega)) ?_
      refine ow_loadF (P := Tryz.prog) (T := 4) (off := x) 0 0 W rfl (by omega) (by kernel_rfl) (by kernel_rfl) ?_
      rcases Nat.lt_or_ge x (gv d (nn + 1)) with hlx | hge
      · rw [List.contains_iff_mem.2 (mx1 x hlx)]
        refine ok_go 2 ?_
        exact sy_next 0 _ k (by kernel_rfl) (by kernel_rfl) (ih3 (x + 1) _ k ⟨rfl, hlx⟩ (show gv d (nn + 1) - (x + 1) < gv d (nn + 1) - x by omega) ⟨by kernel_rfl, by kernel_rfl, by kernel_rfl, by kernel_rfl, by kernel_rfl, (by kernel_rfl : _ = Value.int .i64 (IntKind.wrap .i64 (Int.ofNat (x + 1)))).trans (by rw [hxw]), trivial⟩)
      · obtain rfl : x = gv d (nn + 1) := Nat.le_antisymm hx hge
        have hcf : ov.contains (gv d (nn + 1)) = false := by
          cases hc : ov.contains (gv d (nn + 1)) with
          | false => rfl
          | true => exact absurd (List.contains_iff_mem.1 hc) mx2
        rw [hcf]
        refine ok_go 1 ?_
        refine ow_new 0 W (AObj.cells [J (gv d (nn + 1))] 3 false) (fun q => Value.slice (some { block := q, off := 0 }) 1 2) (by kernel_rfl) fun r1 nr1 W => ?_
        have Wp := (W.perm (List.Perm.cons _ ((List.Perm.cons _ (List.perm_append_comm (l₂ := [_]))).trans (List.Perm.swap _ _ _))))
        obtain ⟨r2, e10, nr2, W⟩ := kn_app (v := J (gv d (nn + 1))) rfl (cellsF_all (N := nn + 1) (f := fun k => J (gv d k)) fun c => rfl) (cellsF_len _ _) (by omega) Wp
        have hcs : cellsF (nn + 1) (fun k => J (gv d k)) ++ [J (gv d (nn + 1))] = cellsF (nn + 2) (fun k => J (gv d k)) := by
          show ((List.range (nn + 1)).map _) ++ _ = (List.range (nn + 1 + 1)).map _
          rw [List.range_succ (n := nn + 1), List.map_append]; rfl
        rw [hcs] at W
        have W := W.sub (l' := [(r1.next, .cells (cellsF (nn + 2) fun k => J (gv d k)) 3 true)]) (List.Sublist.cons_cons _ (List.nil_sublist _))
        refine sy_call 0 (by kernel_rfl) e10 ?_
        refine ok_go 1 ?_
        exact sy_next 0 _ r2 (by kernel_rfl) (by kernel_rfl) (ih (nn + 1, r1.next) _ r2 ⟨hle, W⟩ (show n - (nn + 1) < n - nn by omega) ⟨by kernel_rfl, by kernel_rfl, by kernel_rfl, (by kernel_rfl : _ = Value.int .i64 (IntKind.wrap .i64 (Int.ofNat (nn + 1 + 1)))).trans (by rw [hw]), trivial⟩)
  · intro hle
    have hge : n ≤ nn := by have := of_decide_eq_false hle; exact Nat.le_of_not_lt fun h => this (Int.ofNat_le.2 h)
    obtain rfl : nn = n := by omega
    refine sy_done 0 (v := Value.slice (some { block := Prod.snd (nn, ki), off := 0 }) (Prod.fst (nn, ki) + 1) (kc (Prod.fst (nn, ki)))) (h := g) (by kernel_rfl) ?_
    exact ⟨ki, rfl, W⟩
end Go.Proofs.YtegcmgjldapnmaaGreatDoor
