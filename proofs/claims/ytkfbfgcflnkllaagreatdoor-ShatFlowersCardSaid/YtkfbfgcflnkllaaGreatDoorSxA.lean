/- Whole numbers of 64 bits as natural numbers. -/
import GoSem.Core.View
import Derived.Test.YtkfbfgcflnkllaaGreatDoorProg
import Derived.KernelRfl
import Derived.Test.YtkfbfgcflnkllaaGreatDoorSyF
namespace Go.Proofs.YtkfbfgcflnkllaaGreatDoor.Nim

abbrev andI (x y : Int) : Int := IntKind.wrap .i64 ((BitVec.ofInt 64 x &&& BitVec.ofInt 64 y).toNat : Int)
abbrev orI (x y : Int) : Int := IntKind.wrap .i64 ((BitVec.ofInt 64 x ||| BitVec.ofInt 64 y).toNat : Int)
abbrev shlI (x : Int) (n : Nat) : Int := IntKind.wrap .i64 (x * 2 ^ n)
abbrev shrI (x : Int) (n : Nat) : Int := x.fdiv (2 ^ n)

theorem wrap_nat {n : Nat} (h : n < 2 ^ 63) : IntKind.wrap .i64 (Int.ofNat n) = Int.ofNat n := by
  unfold IntKind.wrap
  have h1 : (Int.ofNat n) % (2 ^ IntKind.i64.bits : Int) = Int.ofNat n := Int.emod_eq_of_lt (by simp) (by
    show (n : Int) < 2 ^ 64
    have : (n : Int) < ((2 ^ 63 : Nat) : Int) := by exact_mod_cast h
    simp at this
    omega)
  simp only [h1]
  have h2 : ¬ ((Int.ofNat n : Int) ≥ (2 ^ (IntKind.i64.bits - 1) : Int)) := by
    show ¬ ((n : Int) ≥ 2 ^ 63)
    have : (n : Int) < ((2 ^ 63 : Nat) : Int) := by exact_mod_cast h
    simp at this
    omega
  have h3 : decide ((Int.ofNat n : Int) ≥ (2 ^ (IntKind.i64.bits - 1) : Int)) = false := decide_eq_false h2
  simp only [h3, Bool.and_false]
  rfl

theorem ofInt_nat (n : Nat) : BitVec.ofInt 64 (Int.ofNat n) = BitVec.ofNat 64 n := by
  simp [BitVec.ofInt_natCast]

theorem and_nat {a b : Nat} (ha : a < 2 ^ 63) : andI (Int.ofNat a) (Int.ofNat b) = Int.ofNat (a &&& b) := by
  unfold andI
  rw [ofInt_nat, ofInt_nat, BitVec.toNat_and, BitVec.toNat_ofNat, BitVec.toNat_ofNat]
  have h1 : a % 2 ^ 64 = a := Nat.mod_eq_of_lt (by omega)
  have h2 : a &&& b % 2 ^ 64 = a &&& b := by
    apply Nat.eq_of_testBit_eq
    intro i
    simp only [Nat.testBit_and, Nat.testBit_mod_two_pow]
    by_cases hi : i < 64
    · simp [hi]
    · have : a.testBit i = false := Nat.testBit_lt_two_pow (Nat.lt_of_lt_of_le (show a < 2 ^ 64 by omega) (Nat.pow_le_pow_right (by omega) (by omega)))
      simp [this]
  rw [h1, h2]
  exact wrap_nat (Nat.lt_of_le_of_lt Nat.and_le_left ha)

theorem shr_nat (a n : Nat) : shrI (Int.ofNat a) n = Int.ofNat (a / 2 ^ n) := by
  show Int.fdiv (a : Int) (2 ^ n) = _
  have : (2 : Int) ^ n = ((2 ^ n : Nat) : Int) := by simp
  rw [this, Int.fdiv_eq_ediv_of_nonneg _ (Int.natCast_nonneg _)]
  exact (Int.natCast_ediv a (2 ^ n)).symm

theorem shl_nat {a n : Nat} (h : a * 2 ^ n < 2 ^ 63) : shlI (Int.ofNat a) n = Int.ofNat (a * 2 ^ n) := by
  unfold shlI
  have : (Int.ofNat a) * (2 : Int) ^ n = Int.ofNat (a * 2 ^ n) := by simp
  rw [this, wrap_nat h]

theorem or_nat {a b : Nat} (ha : a < 2 ^ 63) (hb : b < 2 ^ 63) : orI (Int.ofNat a) (Int.ofNat b) = Int.ofNat (a ||| b) := by
  unfold orI
  rw [ofInt_nat, ofInt_nat, BitVec.toNat_or, BitVec.toNat_ofNat, BitVec.toNat_ofNat]
  rw [Nat.mod_eq_of_lt (show a < 2 ^ 64 by omega), Nat.mod_eq_of_lt (show b < 2 ^ 64 by omega)]
  exact wrap_nat (Nat.or_lt_two_pow ha hb)
end Go.Proofs.YtkfbfgcflnkllaaGreatDoor.Nim
namespace Go.Proofs.YtkfbfgcflnkllaaGreatDoor.Oct
end Go.Proofs.YtkfbfgcflnkllaaGreatDoor.Oct
namespace Go.Proofs.YtkfbfgcflnkllaaGreatDoor
open Go Go.Eng Nim
set_option maxRecDepth 100000
/-- A number that is not less than 0. -/
abbrev J (a : Nat) : Value := .int .i64 (Int.ofNat a)
abbrev I (a : Int) : Value := .int .i64 a
theorem ok_nat {a b : Nat} (h : decide (Int.ofNat a < Int.ofNat b) = true) : a < b := by have := of_decide_eq_true h; simpa using this
theorem no_nat {a b : Nat} (h : decide (Int.ofNat a < Int.ofNat b) = false) : b ≤ a := by have := of_decide_eq_false h; simp at this; omega
theorem wrap_add {a b : Nat} (h : a + b < 2 ^ 62) : IntKind.wrap .i64 (Int.ofNat a + Int.ofNat b) = Int.ofNat (a + b) := wrap_nat (by omega)
theorem wrap_sub {a b : Nat} (h : b ≤ a) (h2 : a < 2 ^ 62) : IntKind.wrap .i64 (Int.ofNat a - Int.ofNat b) = Int.ofNat (a - b) := by
  have : (Int.ofNat a - Int.ofNat b) = Int.ofNat (a - b) := by
    show (a : Int) - (b : Int) = ((a - b : Nat) : Int)
    omega
  rw [this]
  exact wrap_nat (by omega)
theorem slz28 : SlTz Tryz.prog 28 3 1 := ⟨by kernel_rfl, by kernel_rfl, ⟨_, rfl, by kernel_rfl⟩, ⟨_, rfl, by kernel_rfl⟩, by decide⟩
theorem slz22 : SlTz Tryz.prog 22 28 1 := ⟨by kernel_rfl, by kernel_rfl, ⟨_, rfl, by kernel_rfl⟩, ⟨_, rfl, by kernel_rfl⟩, by decide⟩
theorem agI : isAggT Tryz.prog 3 = some false := by kernel_rfl
theorem agB : isAggT Tryz.prog 4 = some false := by kernel_rfl
theorem zB : sizeT Tryz.prog 4 = some 1 := by kernel_rfl
theorem osl_shape (q n : Nat) : ∃ a c, oslV q n = .slice a n c := by
  cases n with
  | zero => exact ⟨_, _, rfl⟩
  | succ n => exact ⟨_, _, rfl⟩
/-- A string of bytes. -/
def strL (l : List Nat) : ByteArray := ⟨(l.map fun n => n.toUInt8).toArray⟩
theorem strL_size (l : List Nat) : (strL l).size = l.length := by
  show ((l.map fun n => n.toUInt8).toArray).size = _
  simp
/-- What a pure operation comes to. -/
noncomputable def pureX (c : Sem Value) : Option Value := match pureRun Tryz.prog (do pure (Next.value (← c)) : Sem Next) with
  | some (.value v) => match flat v with
    | true => some v
    | false => none
  | _ => none
theorem pureX_of {c : Sem Value} {v : Value} (h : pureRun Tryz.prog c = some v) (hf : flat v = true) : pureX c = some v := by
  unfold pureX
  have : pureRun Tryz.prog (do pure (Next.value (← c)) : Sem Next) = some (.value v) := by
    rw [pureRun_bind, h]; rfl
  rw [this]
  simp only [hf]
theorem hu9 : pureRun Tryz.prog (underlying 9) = some .string := by kernel_rfl
theorem strL_get {l : List Nat} {i n : Nat} (h : l[i]? = some n) : (strL l)[i]? = some n.toUInt8 := by
  have hi : i < l.length := (List.getElem?_eq_some_iff.1 h).1
  have hs : i < (strL l).size := by rw [strL_size]; exact hi
  rw [getElem?_pos (strL l) i hs]
  congr 1
  show ((l.map fun n => n.toUInt8).toArray)[i]'_ = _
  have := (List.getElem?_eq_some_iff.1 h).2
  simp [this]
theorem min_v (i : Nat) (hi : i < 64) : min (IntKind.u64.wrap (Int.ofNat i)).toNat IntKind.i64.bits = i := by
  rw [show IntKind.u64.wrap (Int.ofNat i) = Int.ofNat i from Int.emod_eq_of_lt (Int.natCast_nonneg _) (by show ((i : Nat) : Int) < 2 ^ 64; omega)]
  show min i 64 = i
  omega
theorem bit_of (x k : Nat) (hk : k < 64) (hx : x < 2 ^ 62) : andI ((Int.ofNat x).fdiv (2 ^ min (IntKind.u64.wrap (Int.ofNat k)).toNat IntKind.i64.bits)) 1 = Int.ofNat (x / 2 ^ k % 2) := by
  rw [min_v k hk, show (Int.ofNat x).fdiv (2 ^ k) = Int.ofNat (x / 2 ^ k) from shr_nat _ _]
  rw [show (1 : Int) = Int.ofNat 1 from rfl, and_nat (by have := Nat.div_le_self x (2 ^ k); omega), Nat.and_one_is_mod]
theorem one_shl (i : Nat) (hi : i < 62) : IntKind.i64.wrap (1 * 2 ^ min (IntKind.u64.wrap (Int.ofNat i)).toNat IntKind.i64.bits) = Int.ofNat (2 ^ i) := by
  have h2 : 2 ^ i < 2 ^ 62 := Nat.pow_lt_pow_right (by decide) hi
  rw [min_v i (by omega)]
  have := shl_nat (a := 1) (n := i) (by omega)
  rw [Nat.one_mul] at this
  exact this
def keyJ : Value → Int
  | .int _ z => z
  | _ => 0
theorem cells_fn (cs : List Value) : cs = cellsF cs.length fun i => cs.getD i (J 0) := by
  apply List.ext_getElem
  · rw [cellsF_len]
  · intro i h1 h2
    have : (cellsF cs.length fun i => cs.getD i (J 0))[i]? = some (cs.getD i (J 0)) := cellsF_get h1
    rw [List.getElem?_eq_getElem h2] at this
    rw [Option.some.inj this, List.getD_eq_getElem?_getD, List.getElem?_eq_getElem h1]
    rfl
/-- What a slice that stands in an argument looks like. -/
def WfS : Value → Prop
  | .slice none n c => n = 0 ∧ c = 0
  | .slice (some a) n c => (a.spot = none ∧ n ≤ c / 2) ∨ (n = 0 ∧ c = 0)
  | _ => False
theorem takeN_take : ∀ {n : Nat} {l : List Value} {r : List Value}, takeN n l = some r → ∀ k, k ≤ n → takeN k l = some (r.take k)
  | _, _, _, _, 0, _ => by simp [takeN]
  | 0, _, _, _, k + 1, hk => absurd hk (by omega)
  | n + 1, [], _, h, k + 1, _ => by simp [takeN] at h
  | n + 1, v :: l, r, h, k + 1, hk => by
    unfold takeN at h
    split at h
    · rename_i l' hl'
      cases h
      unfold takeN
      rw [takeN_take hl' k (by omega)]
      rfl
    · cases h
theorem u28 : Tryz.prog.underlying 28 = some (.slice 3) := by kernel_rfl
theorem slice_val {i off len cap K : Nat} (h : K ≤ cap / 2) : ∃ c, sliceOp Tryz.prog 28 (.slice (some ⟨i, off, none⟩) len cap) none (some (J K)) none = some (.slice (some ⟨i, off, none⟩) K c) := by
  have hs : sizeT Tryz.prog 3 = some 1 := by kernel_rfl
  simp only [sliceOp, u28, hs, sliceV, Go.Eng.bound, Option.isSome_none, show natOf (J K) = some K from rfl, Bool.false_eq_true, if_false, Nat.ble_eq_true_of_le h, Nat.ble_eq_true_of_le (Nat.zero_le (cap / 2))]
  cases hb : Nat.beq (cap / 2) 0
  · cases hc : Nat.beq (cap % 2) 1
    · exact ⟨2 * (cap / 2), by simp⟩
    · exact ⟨2 * (cap / 2) + 1, by simp⟩
  · cases hc : Nat.beq (cap % 2) 1
    · exact ⟨0, by simp⟩
    · exact ⟨1, by simp⟩
theorem cut_row {h : Hp} {x : Value} {vs : List Value} (hw : WfS x) (hx : Rds h x vs) {K : Nat} (hK : K ≤ vs.length) : ∃ y, sliceOp Tryz.prog 28 x none (some (J K)) none = some y ∧ Rds h y (vs.take K) := by
  have hs : sizeT Tryz.prog 3 = some 1 := by kernel_rfl
  rcases hx with ⟨⟨a, rfl⟩, rfl⟩ | ⟨i, off, c, rfl, hr⟩
  · obtain rfl : K = 0 := by simpa using hK
    rcases a with _ | ⟨i, off, _ | q⟩
    · exact ⟨.slice none 0 0, rfl, .inl ⟨⟨_, rfl⟩, rfl⟩⟩
    · obtain ⟨c, e⟩ := slice_val (i := i) (off := off) (len := 0) (cap := 0) (K := 0) (Nat.zero_le _)
      exact ⟨_, e, .inr ⟨i, off, c, rfl, fun h => absurd rfl h⟩⟩
    · exact ⟨.slice (some ⟨i, off, some q⟩) 0 0, rfl, .inl ⟨⟨_, rfl⟩, rfl⟩⟩
  · have hc : vs.length ≤ c / 2 := by
      rcases hw with ⟨_, h⟩ | ⟨h, h2⟩
      · exact h
      · omega
    obtain ⟨c', e⟩ := slice_val (i := i) (off := off) (len := vs.length) (cap := c) (K := K) (Nat.le_trans hK hc)
    refine ⟨_, e, .inr ⟨i, off, c', by rw [List.length_take, Nat.min_eq_left hK], fun hne => ?_⟩⟩
    have hv : vs ≠ [] := fun h0 => by subst h0; simp at hne
    obtain ⟨h1, h2⟩ := hr hv
    refine ⟨h1, ?_⟩
    rw [List.length_take, Nat.min_eq_left hK]
    unfold loadN at h2 ⊢
    cases hg : h.get i with
    | none => rw [hg] at h2; cases h2
    | some o =>
      rw [hg] at h2
      cases o with
      | cells cs e opn => exact takeN_take h2 K hK
      | ro o cs e =>
        dsimp only at h2 ⊢
        cases hb : Nat.ble o off with
        | true => rw [hb] at h2; exact takeN_take h2 K hK
        | false => rw [hb] at h2; cases h2
      | fro cs e => exact takeN_take h2 K hK
      | _ => cases h2
theorem rds_elems {H : Hp} {x : Value} {vs : List Value} (hx : Rds H x vs) : lenV x = some vs.length ∧ elems H 1 vs.length x = some vs := by
  obtain ⟨a, c, hsh⟩ := hx.shape
  refine ⟨by rw [hsh]; rfl, ?_⟩
  rcases hx with ⟨⟨a, rfl⟩, rfl⟩ | ⟨i, off, c, rfl, hr⟩
  · rcases a with _ | ⟨i, off, _ | q⟩ <;> rfl
  · cases vs with
    | nil => rfl
    | cons v r => simp only [elems, List.length_cons, Nat.mul_one]; exact (hr (by simp)).2
/-- All of a slice appended to none: a block of its own. -/
theorem ow_rds {h H : Hp} {Q : Value → Hp → Prop} {l : List (Nat × AObj)} {P : Program} {t e : TypeId} (n : Nat) {s : SA} {vs : List Value} {x : Value} (W : Sto h H l) (hT : SlTz P t e 1) (hx : Rds H x vs) (hv : vs.all scalar = true) (hn : vs.length < 16777216)
    (he : askR (goS n s) = appendOp P H t (.slice none 0 0) x) (hq : ∀ H' sl, H.next ≤ H'.next → sl = oslV H.next vs.length → scalar sl = true → Sto h H' (l ++ oent H.next e vs) → Ok Q (askK (goS n s) sl H')) : Ok Q s := by
  obtain ⟨h1, h2⟩ := rds_elems hx
  cases vs with
  | nil =>
    obtain ⟨inf, hi1, hi2⟩ := hT.i
    obtain ⟨z, hz1, hz2⟩ := hT.zr
    refine sy_call n (he.trans (?_ : _ = some (.slice none 0 0, H))) rfl (hq H _ (Nat.le_refl _) rfl rfl (by simpa only [oent, List.append_nil] using W))
    simp only [List.length_nil] at h1 h2
    simp only [appendOp, hT.u, hT.s, hi1, hz1, h1, h2, hz2, hi2, List.all_nil]
  | cons v r =>
    obtain ⟨H', e1, e2, W'⟩ := append_sto (P := P) (t := t) (x := x) (i := 0) (n := 0) (m := r.length) (zs := []) (l := l) (by simpa only [oent, List.append_nil] using W) hT (by simp) (by simp) h1 h2 hv (by simp at hn; omega)
    rw [Nat.zero_add] at e1
    exact sy_call n (he.trans e1) rfl (hq H' _ (by omega) rfl rfl W')
theorem sy_any {Q : Value → Hp → Prop} (n : Nat) {t : SA} {p : Value → Prop} {h' : Hp} (he : ∃ v, p v ∧ askR (goS n t) = some (v, h')) (hk : ∀ v, p v → Ok Q (askK (goS n t) v h')) : Ok Q t := by
  obtain ⟨v, hp, e⟩ := he
  exact ok_go n (ok_ask e (hk v hp))
end Go.Proofs.YtkfbfgcflnkllaaGreatDoor
namespace Go.Proofs.YtkfbfgcflnkllaaGreatDoor.Ch
open Go Go.Eng Nim
noncomputable abbrev orc : Orc := noOrc
noncomputable abbrev Ev (lf n f : Nat) (l : List Value) (h : Hp) := evInv Tryz.prog orc lf n (.fn f l) h
end Go.Proofs.YtkfbfgcflnkllaaGreatDoor.Ch
namespace Go.Proofs.YtkfbfgcflnkllaaGreatDoor.Oct
section
variable {α : Type}
def swp (f : Nat → α) (i j : Nat) : Nat → α := fun k => if k = i then f j else if k = j then f i else f k
theorem swp_l (f : Nat → α) (i j : Nat) : swp f i j i = f j := if_pos rfl
theorem swp_r (f : Nat → α) (i j : Nat) : swp f i j j = f i := by
  unfold swp
  by_cases h : j = i
  · rw [if_pos h, h]
  · rw [if_neg h, if_pos rfl]
theorem swp_o (f : Nat → α) {i j k : Nat} (h1 : k ≠ i) (h2 : k ≠ j) : swp f i j k = f k := by unfold swp; rw [if_neg h1, if_neg h2]
inductive Sw (a b : Nat) : (Nat → α) → (Nat → α) → Prop
  | refl (f : Nat → α) : Sw a b f f
  | step {f g : Nat → α} {i j : Nat} : Sw a b f g → a ≤ i → i < b → a ≤ j → j < b → Sw a b f (swp g i j)
variable {a b : Nat} {f g k : Nat → α}
theorem Sw.one {i j : Nat} (h1 : a ≤ i) (h2 : i < b) (h3 : a ≤ j) (h4 : j < b) : Sw a b f (swp f i j) := .step (.refl f) h1 h2 h3 h4
theorem Sw.trans (h : Sw a b f g) (h2 : Sw a b g k) : Sw a b f k := by
  induction h2 with
  | refl => exact h
  | step _ h1 h2 h3 h4 ih => exact .step ih h1 h2 h3 h4
theorem Sw.mono {a' b' : Nat} (h : Sw a b f g) (ha : a' ≤ a) (hb : b ≤ b') : Sw a' b' f g := by
  induction h with
  | refl => exact .refl _
  | step _ h1 h2 h3 h4 ih => exact .step ih (by omega) (by omega) (by omega) (by omega)
theorem Sw.out (h : Sw a b f g) {x : Nat} (hx : x < a ∨ b ≤ x) : g x = f x := by
  induction h with
  | refl => rfl
  | step _ h1 h2 h3 h4 ih => rw [swp_o _ (by omega) (by omega)]; exact ih
theorem Sw.all (h : Sw a b f g) {P : α → Prop} (hf : ∀ x, a ≤ x → x < b → P (f x)) : ∀ x, a ≤ x → x < b → P (g x) := by
  induction h with
  | refl => exact hf
  | @step g i j _ h1 h2 h3 h4 ih =>
    intro x hx1 hx2
    by_cases e1 : x = i
    · subst e1; rw [swp_l]; exact ih j h3 h4
    · by_cases e2 : x = j
      · subst e2; rw [swp_r]; exact ih i h1 h2
      · rw [swp_o _ e1 e2]; exact ih x hx1 hx2
theorem Sw.every (h : Sw a b f g) {N : Nat} (hb : b ≤ N) {P : α → Prop} (hf : ∀ x, x < N → P (f x)) : ∀ x, x < N → P (g x) := (h.mono (Nat.zero_le _) hb).all (a := 0) (b := N) (fun x _ hx => hf x hx) |> fun k x hx => k x (Nat.zero_le _) hx
/-- A strict weak order. -/
structure Ord (lt : α → α → Prop) : Prop where
  asym : ∀ {x y}, lt x y → ¬ lt y x
  letr : ∀ {x y z}, ¬ lt y x → ¬ lt z y → ¬ lt z x
theorem Ord.irr {lt : α → α → Prop} (O : Ord lt) (x : α) : ¬ lt x x := fun h => O.asym h h
def Srt (lt : α → α → Prop) (f : Nat → α) (a b : Nat) : Prop := ∀ i j, a ≤ i → i < j → j < b → ¬ lt (f j) (f i)
/-- Sorted up to i, but for the place j, which is not greater than what follows. -/
structure Ins (lt : α → α → Prop) (f : Nat → α) (a i j : Nat) : Prop where
  oth : ∀ x y, a ≤ x → x < y → y ≤ i → x ≠ j → y ≠ j → ¬ lt (f y) (f x)
  aft : ∀ y, j < y → y ≤ i → ¬ lt (f y) (f j)
theorem Ins.start {lt : α → α → Prop} {i : Nat} (h : Srt lt f a i) : Ins lt f a i i := ⟨fun x y h1 h2 h3 _ h5 => h x y h1 h2 (by omega), fun y h1 h2 => by omega⟩
theorem Ins.swap {lt : α → α → Prop} (O : Ord lt) {i j : Nat} (I : Ins lt f a i (j + 1)) (ha : a ≤ j) (hj : j + 1 ≤ i) (hl : lt (f (j + 1)) (f j)) : Ins lt (swp f (j + 1) j) a i j := by
  refine ⟨fun x y h1 h2 h3 h4 h5 => ?_, fun y h1 h2 => ?_⟩
  · by_cases e1 : x = j + 1
    · subst e1
      rw [swp_l, swp_o _ (by omega) h5]
      exact I.oth j y ha (by omega) h3 (by omega) (by omega)
    · by_cases e2 : y = j + 1
      · subst e2
        rw [swp_l, swp_o _ e1 h4]
        exact I.oth x j h1 (by omega) (by omega) e1 (by omega)
      · rw [swp_o _ e1 h4, swp_o _ e2 h5]
        exact I.oth x y h1 h2 h3 e1 e2
  · rw [swp_r]
    by_cases e : y = j + 1
    · subst e; rw [swp_l]; exact O.asym hl
    · rw [swp_o _ e (by omega)]; exact I.aft y (by omega) h2
theorem Ins.done {lt : α → α → Prop} (O : Ord lt) {i j : Nat} (I : Ins lt f a i j) (h : j = a ∨ (a < j ∧ ¬ lt (f j) (f (j - 1)))) : Srt lt f a (i + 1) := by
  intro x y h1 h2 h3
  by_cases e1 : x = j
  · subst e1; exact I.aft y h2 (by omega)
  · by_cases e2 : y = j
    · subst e2
      rcases h with h | ⟨h4, h5⟩
      · omega
      · by_cases e3 : x = y - 1
        · subst e3; exact h5
        · exact O.letr (I.oth x (y - 1) h1 (by omega) (by omega) (by omega) (by omega)) h5
    · exact I.oth x y h1 h2 (by omega) e1 e2
end
end Go.Proofs.YtkfbfgcflnkllaaGreatDoor.Oct
namespace Go.Proofs.YtkfbfgcflnkllaaGreatDoor.Ch
open Go Go.Eng Nim Oct
set_option maxRecDepth 100000
set_option maxHeartbeats 8000000
/-- The array that is sorted, beside other blocks. -/
abbrev Dat (h : Hp) (l : List (Nat × AObj)) (q N : Nat) (o : Bool) (f : Nat → Value) (g : Hp) : Prop := Sto h g ((q, .cells (cellsF N f) 28 o) :: l)
/-- What compares. -/
structure Cmp (lf m C : Nat) (h : Hp) (l : List (Nat × AObj)) (q N : Nat) (o : Bool) (V : Value → Prop) (lt : Value → Value → Prop) : Prop where
  ord : Ord lt
  sc : ∀ x, V x → scalar x = true
  cmp : ∀ f g x y, Dat h l q N o f g → V x → V y → ∃ z, Ev lf m C [x, y] g = some (I z, g) ∧ (z < 0 ↔ lt x y)
theorem sub_one {n : Nat} (h : n + 1 < 2 ^ 62) : IntKind.wrap .i64 (Int.ofNat (n + 1) - 1) = Int.ofNat n := wrap_sub (a := n + 1) (b := 1) (by omega) h
theorem updF_swp (f : Nat → Value) (i j : Nat) : updF (updF f i (f j)) j (f i) = swp f i j := funext fun k => by
  unfold updF swp
  by_cases h2 : k = j
  · by_cases h1 : k = i
    · subst h1; subst h2; rw [if_pos rfl]
    · rw [if_pos h2, if_neg h1, if_pos h2]
  · by_cases h1 : k = i
    · rw [if_neg h2, if_pos h1, if_pos h1]
    · rw [if_neg h2, if_neg h1, if_neg h1, if_neg h2]
section
variable {lf m C q N : Nat} {h : Hp} {l : List (Nat × AObj)} {o : Bool} {V : Value → Prop} {lt : Value → Value → Prop}
theorem isort_of (K : Cmp lf m C h l q N o V lt) (hlf : 20000 ≤ lf) (hN : N ≤ 10000) (c : Nat) (f : Nat → Value) (hV : ∀ k, k < N → V (f k)) (a b : Nat) (hab : a ≤ b) (hb : b ≤ N) (g : Hp) (W : Dat h l q N o f g) :
    ∃ v g', Ev lf (m + 1) 117 [.slice (some ⟨q, 0, none⟩) N c, J a, J b, .func (.func C) #[] #[]] g = some (v, g') ∧ ∃ f', Dat h l q N o f' g' ∧ Sw a b f f' ∧ Srt lt f' a b := by
  refine fnS_ok (Q := fun v g' => ∃ f', Dat h l q N o f' g' ∧ Sw a b f f' ∧ Srt lt f' a b) ?_
  have hwa : IntKind.wrap .i64 (Int.ofNat a + 1) = Int.ofNat (a + 1) := wrap_add (b := 1) (by omega)
  let SL : Value := .slice (some ⟨q, 0, none⟩) N c
  refine ok_go 1 ?_
  refine sy_loop 0 lf g (α := Nat × (Nat → Value)) (fun x => [(0, SL), (1, J a), (2, J b), (3, .func (.func C) #[] #[]), (8, J x.1)]) (fun x g => a + 1 ≤ x.1 ∧ x.1 ≤ b + 1 ∧ Dat h l q N o x.2 g ∧ Sw a b f x.2 ∧ Srt lt x.2 a x.1) (fun x _ => b + 1 - x.1) (a + 1, f) (by kernel_rfl) (by kernel_rfl)
    ⟨by kernel_rfl, by kernel_rfl, by kernel_rfl, by kernel_rfl, (by kernel_rfl : _ = Value.int .i64 (IntKind.wrap .i64 (Int.ofNat a + 1))).trans (by rw [hwa]), trivial⟩ (show b + 1 - (a + 1) < lf by omega) ⟨Nat.le_refl _, by omega, W, .refl f, fun x y h1 h2 h3 => by omega⟩ ?_
  clear W
  rintro m1 ⟨i, f1⟩ F1 g ⟨hi1, hi2, W, S, R⟩ ih
  dsimp only at hi1 hi2 W S R
  have hw : IntKind.wrap .i64 (Int.ofNat (i + 1)) = Int.ofNat (i + 1) := wrap_nat (by omega)
  refine ok_go 1 ?_
  refine sy_test 0 (decide (Int.ofNat i < Int.ofNat b)) (by kernel_rfl) ?_ ?_
  · intro hlt
    have hlt : i < b := ok_nat hlt
    refine ok_go 0 ?_
    refine sy_loop 0 lf g (α := Nat × (Nat → Value)) (fun x => [(0, SL), (1, J a), (2, J b), (3, .func (.func C) #[] #[]), (8, J i), (9, J x.1)]) (fun x g => a ≤ x.1 ∧ x.1 ≤ i ∧ Dat h l q N o x.2 g ∧ Sw a b f x.2 ∧ Ins lt x.2 a i x.1) (fun x _ => x.1) (i, f1) (by kernel_rfl) (by kernel_rfl)
      ⟨by kernel_rfl, by kernel_rfl, by kernel_rfl, by kernel_rfl, by kernel_rfl, by kernel_rfl, trivial⟩ (show i < lf by omega) ⟨by omega, Nat.le_refl _, W, S, .start R⟩ ?_
    clear W S R
    rintro m2 ⟨j, f2⟩ F2 g ⟨hj1, hj2, W, S, R⟩ ih2
    dsimp only at hj1 hj2 W S R
    refine ok_go 1 ?_
    refine sy_test 0 (decide (Int.ofNat j > Int.ofNat a)) (by kernel_rfl) ?_ ?_
    · intro hja
      have hja : a < j := ok_nat hja
      obtain ⟨j, rfl⟩ : ∃ k, j = k + 1 := ⟨j - 1, by omega⟩
      have hwj : IntKind.wrap .i64 (Int.ofNat (j + 1) - 1) = Int.ofNat j := sub_one (by omega)
      have hV2 := S.every hb hV
      obtain ⟨z, ec, hz⟩ := K.cmp f2 g _ _ W (hV2 (j + 1) (by omega)) (hV2 j (by omega))
      refine ok_go 3 ?_
      refine sy_load 0 (r := indexAddrOp Tryz.prog 22 SL (J (j + 1))) (h' := g) (by kernel_rfl) (idxS0 (e := 28) (by kernel_rfl) (by kernel_rfl) (by omega)) ?_
      refine ok_go 1 ?_
      refine ow_loadF (P := Tryz.prog) (T := 28) (off := j + 1) 0 0 W rfl (by omega) (by kernel_rfl) (by kernel_rfl) ?_
      refine ok_go 5 ?_
      refine sy_load 0 (r := indexAddrOp Tryz.prog 22 SL (I (IntKind.wrap .i64 (Int.ofNat (j + 1) - 1)))) (h' := g) (v := ptr q j) (by kernel_rfl) (by rw [hwj]; exact idxS0 (e := 28) (by kernel_rfl) (by kernel_rfl) (by omega)) ?_
      refine ok_go 1 ?_
      refine ow_loadF (P := Tryz.prog) (T := 28) (off := j) 0 0 W rfl (by omega) (by kernel_rfl) (by kernel_rfl) ?_
      refine ok_go 1 ?_
      refine sy_call 0 (by kernel_rfl) ec ?_
      refine ok_go 3 ?_
      refine sy_test 0 (decide (z < 0)) (by kernel_rfl) ?_ ?_
      · intro hz0
        have hz0 : lt (f2 (j + 1)) (f2 j) := hz.1 (of_decide_eq_true hz0)
        refine ok_go 2 ?_
        refine sy_load 0 (r := indexAddrOp Tryz.prog 22 SL (I (IntKind.wrap .i64 (Int.ofNat (j + 1) - 1)))) (h' := g) (v := ptr q (j)) (by kernel_rfl) (by rw [hwj]; exact idxS0 (e := 28) (by kernel_rfl) (by kernel_rfl) (by omega)) ?_
        refine ok_go 0 ?_
        refine ow_loadF (P := Tryz.prog) (T := 28) (off := j) 0 0 W rfl (by omega) (by kernel_rfl) (by kernel_rfl) ?_
        refine ok_go 0 ?_
        refine sy_load 0 (r := indexAddrOp Tryz.prog 22 SL (J (j + 1))) (h' := g) (v := ptr q (j + 1)) (by kernel_rfl) (idxS0 (e := 28) (by kernel_rfl) (by kernel_rfl) (by omega)) ?_
        refine ok_go 0 ?_
        refine ow_loadF (P := Tryz.prog) (T := 28) (off := j + 1) 0 0 W rfl (by omega) (by kernel_rfl) (by kernel_rfl) ?_
        refine ok_go 0 ?_
        refine sy_load 0 (r := indexAddrOp Tryz.prog 22 SL (J (j + 1))) (h' := g) (v := ptr q (j + 1)) (by kernel_rfl) (idxS0 (e := 28) (by kernel_rfl) (by kernel_rfl) (by omega)) ?_
        refine ok_go 0 ?_
        refine ow_storeF (P := Tryz.prog) (T := 28) (off := j + 1) (v := f2 (j)) 0 0 W rfl (by omega) (by kernel_rfl) (K.sc _ (hV2 _ (by omega))) (by kernel_rfl) fun ga nga W => ?_
        refine ok_go 0 ?_
        refine sy_load 0 (r := indexAddrOp Tryz.prog 22 SL (I (IntKind.wrap .i64 (Int.ofNat (j + 1) - 1)))) (h' := ga) (v := ptr q (j)) (by kernel_rfl) (by rw [hwj]; exact idxS0 (e := 28) (by kernel_rfl) (by kernel_rfl) (by omega)) ?_
        refine ok_go 0 ?_
        refine ow_storeF (P := Tryz.prog) (T := 28) (off := j) (v := f2 (j + 1)) 0 0 W rfl (by omega) (by kernel_rfl) (K.sc _ (hV2 _ (by omega))) (by kernel_rfl) fun g3 ng3 W => ?_
        refine ok_go 1 ?_
        have W : Dat h l q N o (swp f2 (j + 1) (j)) g3 := by rw [← updF_swp]; exact W
        exact sy_next 0 _ g3 (by kernel_rfl) (by kernel_rfl) (ih2 (j, swp f2 (j + 1) j) _ g3 ⟨by omega, by omega, W, S.trans (.one (by omega) (by omega) (by omega) (by omega)), R.swap K.ord (by omega) (by omega) hz0⟩ (show j < j + 1 by omega) ⟨by kernel_rfl, by kernel_rfl, by kernel_rfl, by kernel_rfl, by kernel_rfl, (by kernel_rfl : _ = Value.int .i64 (IntKind.wrap .i64 (Int.ofNat (j + 1) - 1))).trans (by rw [hwj]), trivial⟩)
      · intro hz0
        have hz0 : ¬ lt (f2 (j + 1)) (f2 j) := fun h => (of_decide_eq_false hz0) (hz.2 h)
        refine ok_go 1 ?_
        exact sy_next 0 _ g (by kernel_rfl) (by kernel_rfl) (ih (i + 1, f2) _ g ⟨by omega, by omega, W, S, R.done K.ord (.inr ⟨hja, hz0⟩)⟩ (show b + 1 - (i + 1) < b + 1 - i by omega) ⟨by kernel_rfl, by kernel_rfl, by kernel_rfl, by kernel_rfl, (by kernel_rfl : _ = Value.int .i64 (IntKind.wrap .i64 (Int.ofNat (i + 1)))).trans (by rw [hw]), trivial⟩)
    · intro hja
      have hja : j = a := Nat.le_antisymm (no_nat hja) hj1
      refine ok_go 14 ?_
      exact sy_next 0 _ g (by kernel_rfl) (by kernel_rfl) (ih (i + 1, f2) _ g ⟨by omega, by omega, W, S, R.done K.ord (.inl hja)⟩ (show b + 1 - (i + 1) < b + 1 - i by omega) ⟨by kernel_rfl, by kernel_rfl, by kernel_rfl, by kernel_rfl, (by kernel_rfl : _ = Value.int .i64 (IntKind.wrap .i64 (Int.ofNat (i + 1)))).trans (by rw [hw]), trivial⟩)
  · intro hlt
    have hlt : b ≤ i := no_nat hlt
    refine sy_done 0 (v := Value.tuple { toList := [] }) (h := g) (by kernel_rfl) ?_
    exact ⟨f1, W, S, fun x y h1 h2 h3 => R x y h1 h2 (by omega)⟩
end
end Go.Proofs.YtkfbfgcflnkllaaGreatDoor.Ch
namespace Go.Proofs.YtkfbfgcflnkllaaGreatDoor.Oct
section
variable {α : Type} {lt : α → α → Prop} {f : Nat → α}
/-- From s on, every place i from lo to hi is not less than its children. -/
def HpF (lt : α → α → Prop) (f : Nat → α) (s lo hi : Nat) : Prop := ∀ i c, lo ≤ i → (c = 2 * i + 1 ∨ c = 2 * i + 2) → c < hi → ¬ lt (f (s + i)) (f (s + c))
/-- All but the place r. -/
structure HpX (lt : α → α → Prop) (f : Nat → α) (s lo hi r : Nat) : Prop where
  oth : ∀ i c, lo ≤ i → i ≠ r → (c = 2 * i + 1 ∨ c = 2 * i + 2) → c < hi → ¬ lt (f (s + i)) (f (s + c))
  gr : ∀ p c, lo ≤ p → (r = 2 * p + 1 ∨ r = 2 * p + 2) → (c = 2 * r + 1 ∨ c = 2 * r + 2) → c < hi → ¬ lt (f (s + p)) (f (s + c))
theorem HpX.start {s lo hi : Nat} (H : HpF lt f s (lo + 1) hi) : HpX lt f s lo hi lo := ⟨fun i c h1 h2 h3 h4 => H i c (by omega) h3 h4, fun p c h1 h2 => by omega⟩
theorem HpX.leaf {s lo hi r : Nat} (H : HpX lt f s lo hi r) (h : hi ≤ 2 * r + 1) : HpF lt f s lo hi := fun i c h1 h2 h3 => by
  by_cases e : i = r
  · omega
  · exact H.oth i c h1 e h2 h3
theorem HpX.stop (O : Ord lt) {s lo hi r d : Nat} (H : HpX lt f s lo hi r) (hm : ∀ c, (c = 2 * r + 1 ∨ c = 2 * r + 2) → c < hi → ¬ lt (f (s + d)) (f (s + c))) (h : ¬ lt (f (s + r)) (f (s + d))) : HpF lt f s lo hi := fun i c h1 h2 h3 => by
  by_cases e : i = r
  · subst e; exact O.letr (hm c h2 h3) h
  · exact H.oth i c h1 e h2 h3
theorem HpX.swap (O : Ord lt) {s lo hi r d : Nat} (H : HpX lt f s lo hi r) (hl : lo ≤ r) (hd : d = 2 * r + 1 ∨ d = 2 * r + 2) (hdh : d < hi) (hm : ∀ c, (c = 2 * r + 1 ∨ c = 2 * r + 2) → c < hi → ¬ lt (f (s + d)) (f (s + c)))
    (h : lt (f (s + r)) (f (s + d))) : HpX lt (swp f (s + r) (s + d)) s lo hi d := by
  refine ⟨fun i c h1 h2 h3 h4 => ?_, fun p c h1 h2 h3 h4 => ?_⟩
  · by_cases e1 : i = r
    · subst e1
      rw [swp_l]
      by_cases e2 : c = d
      · subst e2; rw [swp_r]; exact O.asym h
      · rw [swp_o _ (by omega) (by omega)]; exact hm c h3 h4
    · rw [swp_o _ (by omega) (by omega)]
      by_cases e2 : c = r
      · subst e2; rw [swp_l]; exact H.gr i d h1 h3 hd hdh
      · rw [swp_o _ (by omega) (by omega)]
        exact H.oth i c h1 e1 h3 h4
  · obtain rfl : p = r := by omega
    rw [swp_l, swp_o _ (by omega) (by omega)]
    exact H.oth d c (by omega) (by omega) h3 h4
theorem HpF.root (O : Ord lt) {s hi : Nat} (H : HpF lt f s 0 hi) : ∀ k, k < hi → ¬ lt (f s) (f (s + k)) := by
  intro k
  induction k using Nat.strongRecOn with
  | ind k ih =>
    intro hk
    by_cases h0 : k = 0
    · subst h0; exact O.irr _
    · have h1 := ih ((k - 1) / 2) (by omega) (by omega)
      have h2 := H ((k - 1) / 2) k (Nat.zero_le _) (by omega) hk
      exact O.letr h2 h1
/-- What holds in the second half of a heap sort. -/
structure HpS (lt : α → α → Prop) (f : Nat → α) (s hi k : Nat) : Prop where
  heap : HpF lt f s 0 k
  srt : Srt lt f (s + k) (s + hi)
  le : ∀ i j, i < k → k ≤ j → j < hi → ¬ lt (f (s + j)) (f (s + i))
theorem HpS.start {s hi : Nat} (H : HpF lt f s 0 hi) : HpS lt f s hi hi := ⟨H, fun i j h1 h2 h3 => by omega, fun i j h1 h2 h3 => by omega⟩
/-- After the root was swapped behind. -/
theorem HpS.mid (O : Ord lt) {s hi k : Nat} (H : HpS lt f s hi (k + 1)) (hk : k < hi) : HpF lt (swp f s (s + k)) s 1 k ∧ Srt lt (swp f s (s + k)) (s + k) (s + hi) ∧ ∀ i j, i < k → k ≤ j → j < hi → ¬ lt (swp f s (s + k) (s + j)) (swp f s (s + k) (s + i)) := by
  have hroot := H.heap.root O
  have hin : ∀ i, i < k → ∃ i', i' < k + 1 ∧ swp f s (s + k) (s + i) = f (s + i') := by
    intro i hi
    by_cases e : i = 0
    · subst e; exact ⟨k, by omega, swp_l f s (s + k)⟩
    · exact ⟨i, by omega, swp_o _ (by omega) (by omega)⟩
  refine ⟨fun i c h1 h2 h3 => ?_, fun i j h1 h2 h3 => ?_, fun i j h1 h2 h3 => ?_⟩
  · rw [swp_o _ (by omega) (by omega), swp_o _ (by omega) (by omega)]
    exact H.heap i c (Nat.zero_le _) h2 (by omega)
  · rw [swp_o f (show j ≠ s by omega) (show j ≠ s + k by omega)]
    by_cases e : i = s + k
    · subst e
      rw [swp_r]
      have := H.le 0 (j - s) (by omega) (by omega) (by omega)
      rw [show s + (j - s) = j by omega] at this
      exact this
    · rw [swp_o f (show i ≠ s by omega) e]
      exact H.srt i j (by omega) h2 h3
  · obtain ⟨i', hi', e⟩ := hin i h1
    rw [e]
    by_cases e2 : j = k
    · subst e2; rw [swp_r]; exact hroot i' hi'
    · rw [swp_o f (show s + j ≠ s by omega) (show s + j ≠ s + k by omega)]
      exact H.le i' j hi' (by omega) h3
/-- After the sifting of the first k. -/
theorem HpS.next {s hi k : Nat} {g : Nat → α} (S : Sw s (s + k) f g) (H : HpF lt g s 0 k) (h1 : Srt lt f (s + k) (s + hi)) (h2 : ∀ i j, i < k → k ≤ j → j < hi → ¬ lt (f (s + j)) (f (s + i))) : HpS lt g s hi k := by
  refine ⟨H, fun i j h3 h4 h5 => ?_, fun i j h3 h4 h5 => ?_⟩
  · rw [S.out (.inr h3), S.out (.inr (by omega))]; exact h1 i j h3 h4 h5
  · rw [S.out (x := s + j) (.inr (by omega))]
    exact S.all (P := fun v => ¬ lt (f (s + j)) v) (fun x hx1 hx2 => by
      have := h2 (x - s) j (by omega) h4 h5
      rw [show s + (x - s) = x by omega] at this
      exact this) (s + i) (by omega) (by omega)
end
end Go.Proofs.YtkfbfgcflnkllaaGreatDoor.Oct
namespace Go.Proofs.YtkfbfgcflnkllaaGreatDoor.Ch
open Go Go.Eng Nim Oct
set_option maxRecDepth 100000
set_option maxHeartbeats 8000000
section
variable {lf m C q N : Nat} {h : Hp} {l : List (Nat × AObj)} {o : Bool} {V : Value → Prop} {lt : Value → Value → Prop}
theorem sift_of (K : Cmp lf m C h l q N o V lt) (hlf : 20000 ≤ lf) (hN : N ≤ 10000) (c : Nat) (f : Nat → Value) (hV : ∀ k, k < N → V (f k)) (s lo hi : Nat) (hlo : lo ≤ hi) (hb : s + hi ≤ N) (g : Hp) (W : Dat h l q N o f g) (H : HpF lt f s (lo + 1) hi) :
    ∃ v g', Ev lf (m + 1) 158 [.slice (some ⟨q, 0, none⟩) N c, J lo, J hi, J s, .func (.func C) #[] #[]] g = some (v, g') ∧ ∃ f', Dat h l q N o f' g' ∧ Sw (s + lo) (s + hi) f f' ∧ HpF lt f' s lo hi := by
  refine fnS_ok (Q := fun v g' => ∃ f', Dat h l q N o f' g' ∧ Sw (s + lo) (s + hi) f f' ∧ HpF lt f' s lo hi) ?_
  let SL : Value := .slice (some ⟨q, 0, none⟩) N c
  refine ok_go 0 ?_
  refine sy_loop 0 lf g (α := Nat × (Nat → Value)) (fun x => [(0, SL), (1, J lo), (2, J hi), (3, J s), (4, .func (.func C) #[] #[]), (10, J x.1)]) (fun x g => lo ≤ x.1 ∧ x.1 ≤ hi ∧ Dat h l q N o x.2 g ∧ Sw (s + lo) (s + hi) f x.2 ∧ HpX lt x.2 s lo hi x.1) (fun x _ => hi - x.1) (lo, f) (by kernel_rfl) (by kernel_rfl)
    ⟨by kernel_rfl, by kernel_rfl, by kernel_rfl, by kernel_rfl, by kernel_rfl, by kernel_rfl, trivial⟩ (show hi - lo < lf by omega) ⟨Nat.le_refl _, hlo, W, .refl f, .start H⟩ ?_
  clear W
  rintro m1 ⟨r, f1⟩ F1 g ⟨h1, h2, W, S, X⟩ ih
  dsimp only at h1 h2 W S X
  have hV1 := S.every hb hV
  have hc1 : IntKind.wrap .i64 (IntKind.wrap .i64 (2 * Int.ofNat r) + 1) = Int.ofNat (2 * r + 1) := by rw [show IntKind.wrap .i64 (2 * Int.ofNat r) = Int.ofNat (2 * r) from wrap_nat (n := 2 * r) (by omega)]; exact wrap_add (b := 1) (by omega)
  have hc2 : IntKind.wrap .i64 (IntKind.wrap .i64 (IntKind.wrap .i64 (2 * Int.ofNat r) + 1) + 1) = Int.ofNat (2 * r + 2) := by rw [hc1]; exact wrap_add (b := 1) (by omega)
  have hwr : IntKind.wrap .i64 (Int.ofNat s + Int.ofNat r) = Int.ofNat (s + r) := wrap_add (by omega)
  have hw1 : IntKind.wrap .i64 (Int.ofNat s + IntKind.wrap .i64 (IntKind.wrap .i64 (2 * Int.ofNat r) + 1)) = Int.ofNat (s + (2 * r + 1)) := by rw [hc1]; exact wrap_add (by omega)
  have hw2 : IntKind.wrap .i64 (IntKind.wrap .i64 (Int.ofNat s + IntKind.wrap .i64 (IntKind.wrap .i64 (2 * Int.ofNat r) + 1)) + 1) = Int.ofNat (s + (2 * r + 2)) := by rw [hw1]; exact wrap_add (b := 1) (by omega)
  refine ok_go 3 ?_
  refine sy_test 0 (decide (IntKind.wrap .i64 (IntKind.wrap .i64 (2 * Int.ofNat r) + 1) ≥ Int.ofNat hi)) (by kernel_rfl) ?_ ?_
  · intro ht
    have ht : hi ≤ 2 * r + 1 := by rw [hc1] at ht; exact Int.ofNat_le.1 (of_decide_eq_true ht)
    refine sy_done 0 (v := Value.tuple { toList := [] }) (h := g) (by kernel_rfl) ?_
    exact ⟨f1, W, S, X.leaf ht⟩
  intro ht
  have ht : 2 * r + 1 < hi := by rw [hc1] at ht; exact Nat.lt_of_not_le fun h => (of_decide_eq_false ht) (Int.ofNat_le.2 h)
  refine ok_go 2 ?_
  refine sy_test 0 (decide (IntKind.wrap .i64 (IntKind.wrap .i64 (IntKind.wrap .i64 (2 * Int.ofNat r) + 1) + 1) < Int.ofNat hi)) (by kernel_rfl) ?_ ?_
  · intro ht2
    have ht2 : 2 * r + 2 < hi := by rw [hc2] at ht2; exact ok_nat ht2
    obtain ⟨z, ec, hz⟩ := K.cmp f1 g _ _ W (hV1 (s + (2 * r + 1)) (by omega)) (hV1 (s + (2 * r + 2)) (by omega))
    refine ok_go 6 ?_
    refine sy_load 0 (r := indexAddrOp Tryz.prog 22 SL (I (IntKind.wrap .i64 (Int.ofNat s + IntKind.wrap .i64 (IntKind.wrap .i64 (2 * Int.ofNat r) + 1))))) (h' := g) (v := ptr q (s + (2 * r + 1))) (by kernel_rfl) (by rw [hw1]; exact idxS0 (e := 28) (by kernel_rfl) (by kernel_rfl) (by omega)) ?_
    refine ok_go 1 ?_
    refine ow_loadF (P := Tryz.prog) (T := 28) (off := s + (2 * r + 1)) 0 0 W rfl (by omega) (by kernel_rfl) (by kernel_rfl) ?_
    refine ok_go 8 ?_
    refine sy_load 0 (r := indexAddrOp Tryz.prog 22 SL (I (IntKind.wrap .i64 (IntKind.wrap .i64 (Int.ofNat s + IntKind.wrap .i64 (IntKind.wrap .i64 (2 * Int.ofNat r) + 1)) + 1)))) (h' := g) (v := ptr q (s + (2 * r + 2))) (by kernel_rfl) (by rw [hw2]; exact idxS0 (e := 28) (by kernel_rfl) (by kernel_rfl) (by omega)) ?_
    refine ok_go 1 ?_
    refine ow_loadF (P := Tryz.prog) (T := 28) (off := s + (2 * r + 2)) 0 0 W rfl (by omega) (by kernel_rfl) (by kernel_rfl) ?_
    refine ok_go 1 ?_
    refine sy_call 0 (by kernel_rfl) ec ?_
    refine ok_go 3 ?_
    refine sy_test 0 (decide (z < 0)) (by kernel_rfl) ?_ ?_
    · intro hz0
      have hz0 : lt (f1 (s + (2 * r + 1))) (f1 (s + (2 * r + 2))) := hz.1 (of_decide_eq_true hz0)
      have hm : ∀ c, (c = 2 * r + 1 ∨ c = 2 * r + 2) → c < hi → ¬ lt (f1 (s + (2 * r + 2))) (f1 (s + c)) := by
        rintro c (rfl | rfl) _
        · exact K.ord.asym hz0
        · exact K.ord.irr _
      refine ok_go 2 ?_
      have hwD : IntKind.wrap .i64 (Int.ofNat s + IntKind.wrap .i64 (IntKind.wrap .i64 (IntKind.wrap .i64 (2 * Int.ofNat r) + 1) + 1)) = Int.ofNat (s + (2 * r + 2)) := by rw [hc2]; exact wrap_add (by omega)
      obtain ⟨z2, ec2, hz2⟩ := K.cmp f1 g _ _ W (hV1 (s + r) (by omega)) (hV1 (s + (2 * r + 2)) (by omega))
      refine sy_load 0 (r := indexAddrOp Tryz.prog 22 SL (I (IntKind.wrap .i64 (Int.ofNat s + Int.ofNat r)))) (h' := g) (v := ptr q (s + r)) (by kernel_rfl) (by rw [hwr]; exact idxS0 (e := 28) (by kernel_rfl) (by kernel_rfl) (by omega)) ?_
      refine ok_go 0 ?_
      refine ow_loadF (P := Tryz.prog) (T := 28) (off := s + r) 0 0 W rfl (by omega) (by kernel_rfl) (by kernel_rfl) ?_
      refine ok_go 1 ?_
      refine sy_load 0 (r := indexAddrOp Tryz.prog 22 SL (I (IntKind.wrap .i64 (Int.ofNat s + IntKind.wrap .i64 (IntKind.wrap .i64 (IntKind.wrap .i64 (2 * Int.ofNat r) + 1) + 1))))) (h' := g) (v := ptr q (s + (2 * r + 2))) (by kernel_rfl) (by rw [hwD]; exact idxS0 (e := 28) (by kernel_rfl) (by kernel_rfl) (by omega)) ?_
      refine ok_go 0 ?_
      refine ow_loadF (P := Tryz.prog) (T := 28) (off := s + (2 * r + 2)) 0 0 W rfl (by omega) (by kernel_rfl) (by kernel_rfl) ?_
      refine ok_go 0 ?_
      refine sy_call 0 (by kernel_rfl) ec2 ?_
      refine ok_go 2 ?_
      refine sy_test 0 (!decide (z2 < 0)) (by kernel_rfl) ?_ ?_
      · intro hzz
        have hzz : ¬ lt (f1 (s + r)) (f1 (s + (2 * r + 2))) := fun h => by rw [decide_eq_true (hz2.2 h)] at hzz; cases hzz
        refine sy_done 0 (v := Value.tuple { toList := [] }) (h := g) (by kernel_rfl) ?_
        exact ⟨f1, W, S, X.stop K.ord (d := 2 * r + 2) hm hzz⟩
      · intro hzz
        have hzz : lt (f1 (s + r)) (f1 (s + (2 * r + 2))) := hz2.1 (by
          cases hd : decide (z2 < 0) with
          | true => exact of_decide_eq_true hd
          | false => rw [hd] at hzz; cases hzz)
        refine ok_go 3 ?_
        refine sy_load 0 (r := indexAddrOp Tryz.prog 22 SL (I (IntKind.wrap .i64 (Int.ofNat s + IntKind.wrap .i64 (IntKind.wrap .i64 (IntKind.wrap .i64 (2 * Int.ofNat r) + 1) + 1))))) (h' := g) (v := ptr q (s + (2 * r + 2))) (by kernel_rfl) (by rw [hwD]; exact idxS0 (e := 28) (by kernel_rfl) (by kernel_rfl) (by omega)) ?_
        refine ok_go 0 ?_
        refine ow_loadF (P := Tryz.prog) (T := 28) (off := s + (2 * r + 2)) 0 0 W rfl (by omega) (by kernel_rfl) (by kernel_rfl) ?_
        refine ok_go 1 ?_
        refine sy_load 0 (r := indexAddrOp Tryz.prog 22 SL (I (IntKind.wrap .i64 (Int.ofNat s + Int.ofNat r)))) (h' := g) (v := ptr q (s + r)) (by kernel_rfl) (by rw [hwr]; exact idxS0 (e := 28) (by kernel_rfl) (by kernel_rfl) (by omega)) ?_
        refine ok_go 0 ?_
        refine ow_loadF (P := Tryz.prog) (T := 28) (off := s + r) 0 0 W rfl (by omega) (by kernel_rfl) (by kernel_rfl) ?_
        refine ok_go 0 ?_
        refine sy_load 0 (r := indexAddrOp Tryz.prog 22 SL (I (IntKind.wrap .i64 (Int.ofNat s + Int.ofNat r)))) (h' := g) (v := ptr q (s + r)) (by kernel_rfl) (by rw [hwr]; exact idxS0 (e := 28) (by kernel_rfl) (by kernel_rfl) (by omega)) ?_
        refine ok_go 0 ?_
        refine ow_storeF (P := Tryz.prog) (T := 28) (off := s + r) (v := f1 (s + (2 * r + 2))) 0 0 W rfl (by omega) (by kernel_rfl) (K.sc _ (hV1 _ (by omega))) (by kernel_rfl) fun ga nga W => ?_
        refine ok_go 0 ?_
        refine sy_load 0 (r := indexAddrOp Tryz.prog 22 SL (I (IntKind.wrap .i64 (Int.ofNat s + IntKind.wrap .i64 (IntKind.wrap .i64 (IntKind.wrap .i64 (2 * Int.ofNat r) + 1) + 1))))) (h' := ga) (v := ptr q (s + (2 * r + 2))) (by kernel_rfl) (by rw [hwD]; exact idxS0 (e := 28) (by kernel_rfl) (by kernel_rfl) (by omega)) ?_
        refine ok_go 0 ?_
        refine ow_storeF (P := Tryz.prog) (T := 28) (off := s + (2 * r + 2)) (v := f1 (s + r)) 0 0 W rfl (by omega) (by kernel_rfl) (K.sc _ (hV1 _ (by omega))) (by kernel_rfl) fun g3 ng3 W => ?_
        refine ok_go 0 ?_
        have W : Dat h l q N o (swp f1 (s + r) (s + (2 * r + 2))) g3 := by rw [← updF_swp]; exact W
        exact sy_next 0 _ g3 (by kernel_rfl) (by kernel_rfl) (ih (2 * r + 2, swp f1 (s + r) (s + (2 * r + 2))) _ g3 ⟨by omega, by omega, W, S.trans (.one (by omega) (by omega) (by omega) (by omega)), X.swap K.ord h1 (by omega) (by omega) hm hzz⟩ (show hi - (2 * r + 2) < hi - r by omega) ⟨by kernel_rfl, by kernel_rfl, by kernel_rfl, by kernel_rfl, by kernel_rfl, (by kernel_rfl : _ = Value.int .i64 (IntKind.wrap .i64 (IntKind.wrap .i64 (IntKind.wrap .i64 (2 * Int.ofNat r) + 1) + 1))).trans (by rw [hc2]), trivial⟩)
    · intro hz0
      have hz0 : ¬ lt (f1 (s + (2 * r + 1))) (f1 (s + (2 * r + 2))) := fun h => (of_decide_eq_false hz0) (hz.2 h)
      have hm : ∀ c, (c = 2 * r + 1 ∨ c = 2 * r + 2) → c < hi → ¬ lt (f1 (s + (2 * r + 1))) (f1 (s + c)) := by
        rintro c (rfl | rfl) _
        · exact K.ord.irr _
        · exact hz0
      refine ok_go 1 ?_
      have hwD : IntKind.wrap .i64 (Int.ofNat s + IntKind.wrap .i64 (IntKind.wrap .i64 (2 * Int.ofNat r) + 1)) = Int.ofNat (s + (2 * r + 1)) := by rw [hc1]; exact wrap_add (by omega)
      obtain ⟨z2, ec2, hz2⟩ := K.cmp f1 g _ _ W (hV1 (s + r) (by omega)) (hV1 (s + (2 * r + 1)) (by omega))
      refine sy_load 0 (r := indexAddrOp Tryz.prog 22 SL (I (IntKind.wrap .i64 (Int.ofNat s + Int.ofNat r)))) (h' := g) (v := ptr q (s + r)) (by kernel_rfl) (by rw [hwr]; exact idxS0 (e := 28) (by kernel_rfl) (by kernel_rfl) (by omega)) ?_
      refine ok_go 0 ?_
      refine ow_loadF (P := Tryz.prog) (T := 28) (off := s + r) 0 0 W rfl (by omega) (by kernel_rfl) (by kernel_rfl) ?_
      refine ok_go 1 ?_
      refine sy_load 0 (r := indexAddrOp Tryz.prog 22 SL (I (IntKind.wrap .i64 (Int.ofNat s + IntKind.wrap .i64 (IntKind.wrap .i64 (2 * Int.ofNat r) + 1))))) (h' := g) (v := ptr q (s + (2 * r + 1))) (by kernel_rfl) (by rw [hwD]; exact idxS0 (e := 28) (by kernel_rfl) (by kernel_rfl) (by omega)) ?_
      refine ok_go 0 ?_
      refine ow_loadF (P := Tryz.prog) (T := 28) (off := s + (2 * r + 1)) 0 0 W rfl (by omega) (by kernel_rfl) (by kernel_rfl) ?_
      refine ok_go 0 ?_
      refine sy_call 0 (by kernel_rfl) ec2 ?_
      refine ok_go 2 ?_
      refine sy_test 0 (!decide (z2 < 0)) (by kernel_rfl) ?_ ?_
      · intro hzz
        have hzz : ¬ lt (f1 (s + r)) (f1 (s + (2 * r + 1))) := fun h => by rw [decide_eq_true (hz2.2 h)] at hzz; cases hzz
        refine sy_done 0 (v := Value.tuple { toList := [] }) (h := g) (by kernel_rfl) ?_
        exact ⟨f1, W, S, X.stop K.ord (d := 2 * r + 1) hm hzz⟩
      · intro hzz
        have hzz : lt (f1 (s + r)) (f1 (s + (2 * r + 1))) := hz2.1 (by
          cases hd : decide (z2 < 0) with
          | true => exact of_decide_eq_true hd
          | false => rw [hd] at hzz; cases hzz)
        refine ok_go 3 ?_
        refine sy_load 0 (r := indexAddrOp Tryz.prog 22 SL (I (IntKind.wrap .i64 (Int.ofNat s + IntKind.wrap .i64 (IntKind.wrap .i64 (2 * Int.ofNat r) + 1))))) (h' := g) (v := ptr q (s + (2 * r + 1))) (by kernel_rfl) (by rw [hwD]; exact idxS0 (e := 28) (by kernel_rfl) (by kernel_rfl) (by omega)) ?_
        refine ok_go 0 ?_
        refine ow_loadF (P := Tryz.prog) (T := 28) (off := s + (2 * r + 1)) 0 0 W rfl (by omega) (by kernel_rfl) (by kernel_rfl) ?_
        refine ok_go 1 ?_
        refine sy_load 0 (r := indexAddrOp Tryz.prog 22 SL (I (IntKind.wrap .i64 (Int.ofNat s + Int.ofNat r)))) (h' := g) (v := ptr q (s + r)) (by kernel_rfl) (by rw [hwr]; exact idxS0 (e := 28) (by kernel_rfl) (by kernel_rfl) (by omega)) ?_
        refine ok_go 0 ?_
        refine ow_loadF (P := Tryz.prog) (T := 28) (off := s + r) 0 0 W rfl (by omega) (by kernel_rfl) (by kernel_rfl) ?_
        refine ok_go 0 ?_
        refine sy_load 0 (r := indexAddrOp Tryz.prog 22 SL (I (IntKind.wrap .i64 (Int.ofNat s + Int.ofNat r)))) (h' := g) (v := ptr q (s + r)) (by kernel_rfl) (by rw [hwr]; exact idxS0 (e := 28) (by kernel_rfl) (by kernel_rfl) (by omega)) ?_
        refine ok_go 0 ?_
        refine ow_storeF (P := Tryz.prog) (T := 28) (off := s + r) (v := f1 (s + (2 * r + 1))) 0 0 W rfl (by omega) (by kernel_rfl) (K.sc _ (hV1 _ (by omega))) (by kernel_rfl) fun ga nga W => ?_
        refine ok_go 0 ?_
        refine sy_load 0 (r := indexAddrOp Tryz.prog 22 SL (I (IntKind.wrap .i64 (Int.ofNat s + IntKind.wrap .i64 (IntKind.wrap .i64 (2 * Int.ofNat r) + 1))))) (h' := ga) (v := ptr q (s + (2 * r + 1))) (by kernel_rfl) (by rw [hwD]; exact idxS0 (e := 28) (by kernel_rfl) (by kernel_rfl) (by omega)) ?_
        refine ok_go 0 ?_
        refine ow_storeF (P := Tryz.prog) (T := 28) (off := s + (2 * r + 1)) (v := f1 (s + r)) 0 0 W rfl (by omega) (by kernel_rfl) (K.sc _ (hV1 _ (by omega))) (by kernel_rfl) fun g3 ng3 W => ?_
        refine ok_go 0 ?_
        have W : Dat h l q N o (swp f1 (s + r) (s + (2 * r + 1))) g3 := by rw [← updF_swp]; exact W
        exact sy_next 0 _ g3 (by kernel_rfl) (by kernel_rfl) (ih (2 * r + 1, swp f1 (s + r) (s + (2 * r + 1))) _ g3 ⟨by omega, by omega, W, S.trans (.one (by omega) (by omega) (by omega) (by omega)), X.swap K.ord h1 (by omega) (by omega) hm hzz⟩ (show hi - (2 * r + 1) < hi - r by omega) ⟨by kernel_rfl, by kernel_rfl, by kernel_rfl, by kernel_rfl, by kernel_rfl, (by kernel_rfl : _ = Value.int .i64 (IntKind.wrap .i64 (IntKind.wrap .i64 (2 * Int.ofNat r) + 1))).trans (by rw [hc1]), trivial⟩)
  · intro ht2
    have ht2 : hi ≤ 2 * r + 2 := by rw [hc2] at ht2; exact no_nat ht2
    have hm : ∀ c, (c = 2 * r + 1 ∨ c = 2 * r + 2) → c < hi → ¬ lt (f1 (s + (2 * r + 1))) (f1 (s + c)) := by
      rintro c (rfl | rfl) _
      · exact K.ord.irr _
      · omega
    refine ok_go 18 ?_
    have hwD : IntKind.wrap .i64 (Int.ofNat s + IntKind.wrap .i64 (IntKind.wrap .i64 (2 * Int.ofNat r) + 1)) = Int.ofNat (s + (2 * r + 1)) := by rw [hc1]; exact wrap_add (by omega)
    obtain ⟨z2, ec2, hz2⟩ := K.cmp f1 g _ _ W (hV1 (s + r) (by omega)) (hV1 (s + (2 * r + 1)) (by omega))
    refine sy_load 0 (r := indexAddrOp Tryz.prog 22 SL (I (IntKind.wrap .i64 (Int.ofNat s + Int.ofNat r)))) (h' := g) (v := ptr q (s + r)) (by kernel_rfl) (by rw [hwr]; exact idxS0 (e := 28) (by kernel_rfl) (by kernel_rfl) (by omega)) ?_
    refine ok_go 0 ?_
    refine ow_loadF (P := Tryz.prog) (T := 28) (off := s + r) 0 0 W rfl (by omega) (by kernel_rfl) (by kernel_rfl) ?_
    refine ok_go 1 ?_
    refine sy_load 0 (r := indexAddrOp Tryz.prog 22 SL (I (IntKind.wrap .i64 (Int.ofNat s + IntKind.wrap .i64 (IntKind.wrap .i64 (2 * Int.ofNat r) + 1))))) (h' := g) (v := ptr q (s + (2 * r + 1))) (by kernel_rfl) (by rw [hwD]; exact idxS0 (e := 28) (by kernel_rfl) (by kernel_rfl) (by omega)) ?_
    refine ok_go 0 ?_
    refine ow_loadF (P := Tryz.prog) (T := 28) (off := s + (2 * r + 1)) 0 0 W rfl (by omega) (by kernel_rfl) (by kernel_rfl) ?_
    refine ok_go 0 ?_
    refine sy_call 0 (by kernel_rfl) ec2 ?_
    refine ok_go 2 ?_
    refine sy_test 0 (!decide (z2 < 0)) (by kernel_rfl) ?_ ?_
    · intro hzz
      have hzz : ¬ lt (f1 (s + r)) (f1 (s + (2 * r + 1))) := fun h => by rw [decide_eq_true (hz2.2 h)] at hzz; cases hzz
      refine sy_done 0 (v := Value.tuple { toList := [] }) (h := g) (by kernel_rfl) ?_
      exact ⟨f1, W, S, X.stop K.ord (d := 2 * r + 1) hm hzz⟩
    · intro hzz
      have hzz : lt (f1 (s + r)) (f1 (s + (2 * r + 1))) := hz2.1 (by
        cases hd : decide (z2 < 0) with
        | true => exact of_decide_eq_true hd
        | false => rw [hd] at hzz; cases hzz)
      refine ok_go 3 ?_
      refine sy_load 0 (r := indexAddrOp Tryz.prog 22 SL (I (IntKind.wrap .i64 (Int.ofNat s + IntKind.wrap .i64 (IntKind.wrap .i64 (2 * Int.ofNat r) + 1))))) (h' := g) (v := ptr q (s + (2 * r + 1))) (by kernel_rfl) (by rw [hwD]; exact idxS0 (e := 28) (by kernel_rfl) (by kernel_rfl) (by omega)) ?_
      refine ok_go 0 ?_
      refine ow_loadF (P := Tryz.prog) (T := 28) (off := s + (2 * r + 1)) 0 0 W rfl (by omega) (by kernel_rfl) (by kernel_rfl) ?_
      refine ok_go 1 ?_
      refine sy_load 0 (r := indexAddrOp Tryz.prog 22 SL (I (IntKind.wrap .i64 (Int.ofNat s + Int.ofNat r)))) (h' := g) (v := ptr q (s + r)) (by kernel_rfl) (by rw [hwr]; exact idxS0 (e := 28) (by kernel_rfl) (by kernel_rfl) (by omega)) ?_
      refine ok_go 0 ?_
      refine ow_loadF (P := Tryz.prog) (T := 28) (off := s + r) 0 0 W rfl (by omega) (by kernel_rfl) (by kernel_rfl) ?_
      refine ok_go 0 ?_
      refine sy_load 0 (r := indexAddrOp Tryz.prog 22 SL (I (IntKind.wrap .i64 (Int.ofNat s + Int.ofNat r)))) (h' := g) (v := ptr q (s + r)) (by kernel_rfl) (by rw [hwr]; exact idxS0 (e := 28) (by kernel_rfl) (by kernel_rfl) (by omega)) ?_
      refine ok_go 0 ?_
      refine ow_storeF (P := Tryz.prog) (T := 28) (off := s + r) (v := f1 (s + (2 * r + 1))) 0 0 W rfl (by omega) (by kernel_rfl) (K.sc _ (hV1 _ (by omega))) (by kernel_rfl) fun ga nga W => ?_
      refine ok_go 0 ?_
      refine sy_load 0 (r := indexAddrOp Tryz.prog 22 SL (I (IntKind.wrap .i64 (Int.ofNat s + IntKind.wrap .i64 (IntKind.wrap .i64 (2 * Int.ofNat r) + 1))))) (h' := ga) (v := ptr q (s + (2 * r + 1))) (by kernel_rfl) (by rw [hwD]; exact idxS0 (e := 28) (by kernel_rfl) (by kernel_rfl) (by omega)) ?_
      refine ok_go 0 ?_
      refine ow_storeF (P := Tryz.prog) (T := 28) (off := s + (2 * r + 1)) (v := f1 (s + r)) 0 0 W rfl (by omega) (by kernel_rfl) (K.sc _ (hV1 _ (by omega))) (by kernel_rfl) fun g3 ng3 W => ?_
      refine ok_go 0 ?_
      have W : Dat h l q N o (swp f1 (s + r) (s + (2 * r + 1))) g3 := by rw [← updF_swp]; exact W
      exact sy_next 0 _ g3 (by kernel_rfl) (by kernel_rfl) (ih (2 * r + 1, swp f1 (s + r) (s + (2 * r + 1))) _ g3 ⟨by omega, by omega, W, S.trans (.one (by omega) (by omega) (by omega) (by omega)), X.swap K.ord h1 (by omega) (by omega) hm hzz⟩ (show hi - (2 * r + 1) < hi - r by omega) ⟨by kernel_rfl, by kernel_rfl, by kernel_rfl, by kernel_rfl, by kernel_rfl, (by kernel_rfl : _ = Value.int .i64 (IntKind.wrap .i64 (IntKind.wrap .i64 (2 * Int.ofNat r) + 1))).trans (by rw [hc1]), trivial⟩)
end
end Go.Proofs.YtkfbfgcflnkllaaGreatDoor.Ch
namespace Go.Proofs.YtkfbfgcflnkllaaGreatDoor.Ch
open Go Go.Eng Nim Oct
set_option maxRecDepth 100000
set_option maxHeartbeats 8000000
def zk (k : Nat) : Int := Int.ofNat k - 1
theorem zk_succ (k : Nat) : zk (k + 1) = Int.ofNat k := by unfold zk; simp
theorem zk_dec {k : Nat} (h : k < 2 ^ 60) : IntKind.wrap .i64 (zk (k + 1) - 1) = zk k := by
  rw [zk_succ]
  cases k with
  | zero => rfl
  | succ k => rw [zk_succ]; exact wrap_sub (a := k + 1) (b := 1) (by omega) (by omega)
section
variable {lf m C q N : Nat} {h : Hp} {l : List (Nat × AObj)} {o : Bool} {V : Value → Prop} {lt : Value → Value → Prop}
theorem hsort_of (hlf : 20000 ≤ lf) (K : Cmp lf m C h l q N o V lt) (hN : N ≤ 10000) (c : Nat) (f : Nat → Value) (hV : ∀ k, k < N → V (f k)) (a b : Nat) (hab : a < b) (hb : b ≤ N) (g : Hp) (W : Dat h l q N o f g) :
    ∃ v g', Ev lf (m + 2) 118 [.slice (some ⟨q, 0, none⟩) N c, J a, J b, .func (.func C) #[] #[]] g = some (v, g') ∧ ∃ f', Dat h l q N o f' g' ∧ Sw a b f f' ∧ Srt lt f' a b := by
  refine fnS_ok (Q := fun v g' => ∃ f', Dat h l q N o f' g' ∧ Sw a b f f' ∧ Srt lt f' a b) ?_
  let SL : Value := .slice (some ⟨q, 0, none⟩) N c
  obtain ⟨n, rfl⟩ : ∃ n, b = a + n := ⟨b - a, by omega⟩
  have hn : IntKind.wrap .i64 (Int.ofNat (a + n) - Int.ofNat a) = Int.ofNat n := by rw [wrap_sub (by omega) (by omega), Nat.add_sub_cancel_left]
  have hn1 : IntKind.wrap .i64 (Int.ofNat n - 1) = Int.ofNat (n - 1) := wrap_sub (a := n) (b := 1) (by omega) (by omega)
  have hst : IntKind.wrap .i64 ((IntKind.wrap .i64 (IntKind.wrap .i64 (Int.ofNat (a + n) - Int.ofNat a) - 1)).tdiv 2) = zk ((n - 1) / 2 + 1) := by
    rw [hn, hn1, zk_succ]
    exact wrap_nat (n := (n - 1) / 2) (by omega)
  refine ok_go 3 ?_
  refine sy_loop 0 lf g (α := Nat × (Nat → Value)) (fun x => [(0, SL), (1, J a), (2, J (a + n)), (3, .func (.func C) #[] #[]), (8, J a), (9, J 0), (10, J n), (11, I (zk x.1))]) (fun x g => x.1 ≤ n ∧ Dat h l q N o x.2 g ∧ Sw a (a + n) f x.2 ∧ HpF lt x.2 a x.1 n) (fun x _ => x.1) ((n - 1) / 2 + 1, f) (by kernel_rfl) (by kernel_rfl)
    ⟨by kernel_rfl, by kernel_rfl, by kernel_rfl, by kernel_rfl, by kernel_rfl, by kernel_rfl, (by kernel_rfl : _ = Value.int .i64 (IntKind.wrap .i64 (Int.ofNat (a + n) - Int.ofNat a))).trans (by rw [hn]), (by kernel_rfl : _ = Value.int .i64 (IntKind.wrap .i64 ((IntKind.wrap .i64 (IntKind.wrap .i64 (Int.ofNat (a + n) - Int.ofNat a) - 1)).tdiv 2))).trans (by rw [hst]), trivial⟩ (show (n - 1) / 2 + 1 < lf by omega) ⟨by show (n - 1) / 2 + 1 ≤ n; omega, W, .refl f, fun i c h1 h2 h3 => by dsimp only at h1; omega⟩ ?_
  clear W
  rintro m1 ⟨k, f1⟩ F1 g ⟨hk, W, S, H⟩ ih
  dsimp only at hk W S H
  have hV1 := S.every hb hV
  refine ok_go 1 ?_
  refine sy_test 0 (decide (zk k ≥ 0)) (by kernel_rfl) ?_ ?_
  · intro ht
    obtain ⟨k, rfl⟩ : ∃ j, k = j + 1 := by
      cases k with
      | zero => exact absurd (of_decide_eq_true ht) (by decide)
      | succ k => exact ⟨k, rfl⟩
    obtain ⟨v2, g2, e, f2, W2, S2, H2⟩ := sift_of K hlf hN c f1 hV1 a k n (by omega) hb g W H
    have e : Ev lf (m + 1) 158 [SL, I (zk (k + 1)), J n, J a, .func (.func C) #[] #[]] g = some (v2, g2) := by rw [zk_succ]; exact e
    refine ok_go 0 ?_
    refine sy_call 0 (by kernel_rfl) e ?_
    refine ok_go 1 ?_
    exact sy_next 0 _ g2 (by kernel_rfl) (by kernel_rfl) (ih (k, f2) _ g2 ⟨by omega, W2, S.trans (S2.mono (by omega) (Nat.le_refl _)), H2⟩ (show k < k + 1 by omega) ⟨by kernel_rfl, by kernel_rfl, by kernel_rfl, by kernel_rfl, by kernel_rfl, by kernel_rfl, by kernel_rfl, (by kernel_rfl : _ = Value.int .i64 (IntKind.wrap .i64 (zk (k + 1) - 1))).trans (by rw [zk_dec (by omega)]), trivial⟩)
  · intro ht
    obtain rfl : k = 0 := by
      cases k with
      | zero => rfl
      | succ k => exact absurd (show zk (k + 1) ≥ 0 by rw [zk_succ]; exact Int.natCast_nonneg k) (of_decide_eq_false ht)
    have hz2 : IntKind.wrap .i64 (Int.ofNat n - 1) = zk n := by
      obtain ⟨n, rfl⟩ : ∃ j, n = j + 1 := ⟨n - 1, by omega⟩
      rw [zk_succ]
      exact hn1
    refine ok_go 1 ?_
    refine sy_loop 0 lf g (α := Nat × (Nat → Value)) (fun x => [(0, SL), (1, J a), (2, J (a + n)), (3, .func (.func C) #[] #[]), (8, J a), (9, J 0), (10, J n), (12, I (zk x.1))]) (fun x g => x.1 ≤ n ∧ Dat h l q N o x.2 g ∧ Sw a (a + n) f x.2 ∧ HpS lt x.2 a n x.1) (fun x _ => x.1) (n, f1) (by kernel_rfl) (by kernel_rfl)
      ⟨by kernel_rfl, by kernel_rfl, by kernel_rfl, by kernel_rfl, by kernel_rfl, by kernel_rfl, by kernel_rfl, (by kernel_rfl : _ = Value.int .i64 (IntKind.wrap .i64 (Int.ofNat n - 1))).trans (by rw [hz2]), trivial⟩ (show n < lf by omega) ⟨Nat.le_refl _, W, S, .start H⟩ ?_
    clear W S H ih hk hV1
    rintro m2 ⟨k, f2⟩ F2 g ⟨hk, W, S, H⟩ ih
    dsimp only at hk W S H
    have hV2 := S.every hb hV
    refine ok_go 1 ?_
    refine sy_test 0 (decide (zk k ≥ 0)) (by kernel_rfl) ?_ ?_
    · intro ht
      obtain ⟨k, rfl⟩ : ∃ j, k = j + 1 := by
        cases k with
        | zero => exact absurd (of_decide_eq_true ht) (by decide)
        | succ k => exact ⟨k, rfl⟩
      have hwk : IntKind.wrap .i64 (Int.ofNat a + zk (k + 1)) = Int.ofNat (a + k) := by rw [zk_succ]; exact wrap_add (by omega)
      obtain ⟨h1, h2, h3⟩ := H.mid K.ord hk
      refine ok_go 2 ?_
      refine sy_load 0 (r := indexAddrOp Tryz.prog 22 SL (I (IntKind.wrap .i64 (Int.ofNat a + zk (k + 1))))) (h' := g) (v := ptr q (a + k)) (by kernel_rfl) (by rw [hwk]; exact idxS0 (e := 28) (by kernel_rfl) (by kernel_rfl) (by omega)) ?_
      refine ok_go 0 ?_
      refine ow_loadF (P := Tryz.prog) (T := 28) (off := a + k) 0 0 W rfl (by omega) (by kernel_rfl) (by kernel_rfl) ?_
      refine ok_go 0 ?_
      refine sy_load 0 (r := indexAddrOp Tryz.prog 22 SL (J a)) (h' := g) (v := ptr q (a)) (by kernel_rfl) (idxS0 (e := 28) (by kernel_rfl) (by kernel_rfl) (by omega)) ?_
      refine ok_go 0 ?_
      refine ow_loadF (P := Tryz.prog) (T := 28) (off := a) 0 0 W rfl (by omega) (by kernel_rfl) (by kernel_rfl) ?_
      refine ok_go 0 ?_
      refine sy_load 0 (r := indexAddrOp Tryz.prog 22 SL (J a)) (h' := g) (v := ptr q (a)) (by kernel_rfl) (idxS0 (e := 28) (by kernel_rfl) (by kernel_rfl) (by omega)) ?_
      refine ok_go 0 ?_
      refine ow_storeF (P := Tryz.prog) (T := 28) (off := a) (v := f2 (a + k)) 0 0 W rfl (by omega) (by kernel_rfl) (K.sc _ (hV2 _ (by omega))) (by kernel_rfl) fun ga nga W => ?_
      refine ok_go 0 ?_
      refine sy_load 0 (r := indexAddrOp Tryz.prog 22 SL (I (IntKind.wrap .i64 (Int.ofNat a + zk (k + 1))))) (h' := ga) (v := ptr q (a + k)) (by kernel_rfl) (by rw [hwk]; exact idxS0 (e := 28) (by kernel_rfl) (by kernel_rfl) (by omega)) ?_
      refine ok_go 0 ?_
      refine ow_storeF (P := Tryz.prog) (T := 28) (off := a + k) (v := f2 (a)) 0 0 W rfl (by omega) (by kernel_rfl) (K.sc _ (hV2 _ (by omega))) (by kernel_rfl) fun g3 ng3 W => ?_
      refine ok_go 0 ?_
      have W : Dat h l q N o (swp f2 (a) (a + k)) g3 := by rw [← updF_swp]; exact W
      have Sa : Sw a (a + n) f2 (swp f2 a (a + k)) := .one (by omega) (by omega) (by omega) (by omega)
      obtain ⟨v4, g4, e, f4, W4, S4, H4⟩ := sift_of K hlf hN c (swp f2 a (a + k)) (Sa.every hb hV2) a 0 k (by omega) (by omega) g3 W h1
      have e : Ev lf (m + 1) 158 [SL, J 0, I (zk (k + 1)), J a, .func (.func C) #[] #[]] g3 = some (v4, g4) := by rw [zk_succ]; exact e
      refine sy_call 0 (by kernel_rfl) e ?_
      refine ok_go 1 ?_
      exact sy_next 0 _ g4 (by kernel_rfl) (by kernel_rfl) (ih (k, f4) _ g4 ⟨by omega, W4, (S.trans Sa).trans (S4.mono (by omega) (by omega)), .next S4 H4 h2 h3⟩ (show k < k + 1 by omega) ⟨by kernel_rfl, by kernel_rfl, by kernel_rfl, by kernel_rfl, by kernel_rfl, by kernel_rfl, by kernel_rfl, (by kernel_rfl : _ = Value.int .i64 (IntKind.wrap .i64 (zk (k + 1) - 1))).trans (by rw [zk_dec (by omega)]), trivial⟩)
    · intro ht
      obtain rfl : k = 0 := by
        cases k with
        | zero => rfl
        | succ k => exact absurd (show zk (k + 1) ≥ 0 by rw [zk_succ]; exact Int.natCast_nonneg k) (of_decide_eq_false ht)
      refine sy_done 0 (v := Value.tuple { toList := [] }) (h := g) (by kernel_rfl) ?_
      exact ⟨f2, W, S, H.srt⟩
end
end Go.Proofs.YtkfbfgcflnkllaaGreatDoor.Ch
namespace Go.Proofs.YtkfbfgcflnkllaaGreatDoor.Ch
open Go Go.Eng Nim Oct
set_option maxRecDepth 100000
set_option maxHeartbeats 8000000
section
variable {h : Hp} {L : List (Nat × AObj)}
theorem rnext_of (lf m r : Nat) (z : Int) (e : TypeId) (o : Bool) (g : Hp) (W : Sto h g ((r, .cells [.int .u64 z] e o) :: L)) :
    ∃ v g', Ev lf (m + 1) 160 [ptr r 0] g = some (v, g') ∧ ∃ z', v = .int .u64 z' ∧ Sto h g' ((r, .cells [.int .u64 z'] e o) :: L) := by
  refine fnS_ok (Q := fun v g' => ∃ z', v = .int .u64 z' ∧ Sto h g' ((r, .cells [.int .u64 z'] e o) :: L)) ?_
  refine ow_load (P := Tryz.prog) (T := 180) (off := 0) 1 0 W rfl rfl (by kernel_rfl) (by kernel_rfl) ?_
  refine ow_load (P := Tryz.prog) (T := 180) (off := 0) 1 0 W rfl rfl (by kernel_rfl) (by kernel_rfl) ?_
  refine ow_store (P := Tryz.prog) (T := 180) (off := 0) (v := Value.int IntKind.u64 (IntKind.wrap IntKind.u64 (Int.ofNat (BitVec.toNat (BitVec.ofInt (IntKind.bits IntKind.u64) z ^^^ BitVec.ofInt (IntKind.bits IntKind.u64) (IntKind.wrap IntKind.u64 (z * 2 ^ min (Int.toNat 13) (IntKind.bits IntKind.u64)))))))) 3 0 W rfl (Nat.le_of_ble_eq_true (by kernel_rfl)) (by kernel_rfl) (by first | rfl | assumption) (by kernel_rfl) fun s1 ns1 Ws1 => ?_
  have W := Ws1
  refine ow_load (P := Tryz.prog) (T := 180) (off := 0) 1 0 W rfl rfl (by kernel_rfl) (by kernel_rfl) ?_
  refine ow_load (P := Tryz.prog) (T := 180) (off := 0) 1 0 W rfl rfl (by kernel_rfl) (by kernel_rfl) ?_
  refine ow_store (P := Tryz.prog) (T := 180) (off := 0) (v := Value.int IntKind.u64 (IntKind.wrap IntKind.u64 (Int.ofNat (BitVec.toNat (BitVec.ofInt (IntKind.bits IntKind.u64) (IntKind.wrap IntKind.u64 (Int.ofNat (BitVec.toNat (BitVec.ofInt (IntKind.bits IntKind.u64) z ^^^ BitVec.ofInt (IntKind.bits IntKind.u64) (IntKind.wrap IntKind.u64 (z * 2 ^ min (Int.toNat 13) (IntKind.bits IntKind.u64))))))) ^^^ BitVec.ofInt (IntKind.bits IntKind.u64) (Int.fdiv (IntKind.wrap IntKind.u64 (Int.ofNat (BitVec.toNat (BitVec.ofInt (IntKind.bits IntKind.u64) z ^^^ BitVec.ofInt (IntKind.bits IntKind.u64) (IntKind.wrap IntKind.u64 (z * 2 ^ min (Int.toNat 13) (IntKind.bits IntKind.u64))))))) (2 ^ min (Int.toNat 7) (IntKind.bits IntKind.u64)))))))) 3 0 W rfl (Nat.le_of_ble_eq_true (by kernel_rfl)) (by kernel_rfl) (by first | rfl | assumption) (by kernel_rfl) fun s2 ns2 Ws2 => ?_
  have W := Ws2
  refine ow_load (P := Tryz.prog) (T := 180) (off := 0) 1 0 W rfl rfl (by kernel_rfl) (by kernel_rfl) ?_
  refine ow_load (P := Tryz.prog) (T := 180) (off := 0) 1 0 W rfl rfl (by kernel_rfl) (by kernel_rfl) ?_
  refine ow_store (P := Tryz.prog) (T := 180) (off := 0) (v := Value.int IntKind.u64 (IntKind.wrap IntKind.u64 (Int.ofNat (BitVec.toNat (BitVec.ofInt (IntKind.bits IntKind.u64) (IntKind.wrap IntKind.u64 (Int.ofNat (BitVec.toNat (BitVec.ofInt (IntKind.bits IntKind.u64) (IntKind.wrap IntKind.u64 (Int.ofNat (BitVec.toNat (BitVec.ofInt (IntKind.bits IntKind.u64) z ^^^ BitVec.ofInt (IntKind.bits IntKind.u64) (IntKind.wrap IntKind.u64 (z * 2 ^ min (Int.toNat 13) (IntKind.bits IntKind.u64))))))) ^^^ BitVec.ofInt (IntKind.bits IntKind.u64) (Int.fdiv (IntKind.wrap IntKind.u64 (Int.ofNat (BitVec.toNat (BitVec.ofInt (IntKind.bits IntKind.u64) z ^^^ BitVec.ofInt (IntKind.bits IntKind.u64) (IntKind.wrap IntKind.u64 (z * 2 ^ min (Int.toNat 13) (IntKind.bits IntKind.u64))))))) (2 ^ min (Int.toNat 7) (IntKind.bits IntKind.u64))))))) ^^^ BitVec.ofInt (IntKind.bits IntKind.u64) (IntKind.wrap IntKind.u64 (IntKind.wrap IntKind.u64 (Int.ofNat (BitVec.toNat (BitVec.ofInt (IntKind.bits IntKind.u64) (IntKind.wrap IntKind.u64 (Int.ofNat (BitVec.toNat (BitVec.ofInt (IntKind.bits IntKind.u64) z ^^^ BitVec.ofInt (IntKind.bits IntKind.u64) (IntKind.wrap IntKind.u64 (z * 2 ^ min (Int.toNat 13) (IntKind.bits IntKind.u64))))))) ^^^ BitVec.ofInt (IntKind.bits IntKind.u64) (Int.fdiv (IntKind.wrap IntKind.u64 (Int.ofNat (BitVec.toNat (BitVec.ofInt (IntKind.bits IntKind.u64) z ^^^ BitVec.ofInt (IntKind.bits IntKind.u64) (IntKind.wrap IntKind.u64 (z * 2 ^ min (Int.toNat 13) (IntKind.bits IntKind.u64))))))) (2 ^ min (Int.toNat 7) (IntKind.bits IntKind.u64)))))) * 2 ^ min (Int.toNat 17) (IntKind.bits IntKind.u64)))))))) 3 0 W rfl (Nat.le_of_ble_eq_true (by kernel_rfl)) (by kernel_rfl) (by first | rfl | assumption) (by kernel_rfl) fun s3 ns3 Ws3 => ?_
  have W := Ws3
  refine ow_load (P := Tryz.prog) (T := 180) (off := 0) 1 0 W rfl rfl (by kernel_rfl) (by kernel_rfl) ?_
  refine sy_done 0 (v := Value.int IntKind.u64 (IntKind.wrap IntKind.u64 (Int.ofNat (BitVec.toNat (BitVec.ofInt (IntKind.bits IntKind.u64) (IntKind.wrap IntKind.u64 (Int.ofNat (BitVec.toNat (BitVec.ofInt (IntKind.bits IntKind.u64) (IntKind.wrap IntKind.u64 (Int.ofNat (BitVec.toNat (BitVec.ofInt (IntKind.bits IntKind.u64) z ^^^ BitVec.ofInt (IntKind.bits IntKind.u64) (IntKind.wrap IntKind.u64 (z * 2 ^ min (Int.toNat 13) (IntKind.bits IntKind.u64))))))) ^^^ BitVec.ofInt (IntKind.bits IntKind.u64) (Int.fdiv (IntKind.wrap IntKind.u64 (Int.ofNat (BitVec.toNat (BitVec.ofInt (IntKind.bits IntKind.u64) z ^^^ BitVec.ofInt (IntKind.bits IntKind.u64) (IntKind.wrap IntKind.u64 (z * 2 ^ min (Int.toNat 13) (IntKind.bits IntKind.u64))))))) (2 ^ min (Int.toNat 7) (IntKind.bits IntKind.u64))))))) ^^^ BitVec.ofInt (IntKind.bits IntKind.u64) (IntKind.wrap IntKind.u64 (IntKind.wrap IntKind.u64 (Int.ofNat (BitVec.toNat (BitVec.ofInt (IntKind.bits IntKind.u64) (IntKind.wrap IntKind.u64 (Int.ofNat (BitVec.toNat (BitVec.ofInt (IntKind.bits IntKind.u64) z ^^^ BitVec.ofInt (IntKind.bits IntKind.u64) (IntKind.wrap IntKind.u64 (z * 2 ^ min (Int.toNat 13) (IntKind.bits IntKind.u64))))))) ^^^ BitVec.ofInt (IntKind.bits IntKind.u64) (Int.fdiv (IntKind.wrap IntKind.u64 (Int.ofNat (BitVec.toNat (BitVec.ofInt (IntKind.bits IntKind.u64) z ^^^ BitVec.ofInt (IntKind.bits IntKind.u64) (IntKind.wrap IntKind.u64 (z * 2 ^ min (Int.toNat 13) (IntKind.bits IntKind.u64))))))) (2 ^ min (Int.toNat 7) (IntKind.bits IntKind.u64)))))) * 2 ^ min (Int.toNat 17) (IntKind.bits IntKind.u64)))))))) (h := s3) (by kernel_rfl) ?_
  exact ⟨_, rfl, W⟩
end
def tv (i : Nat) : Nat := if i = 0 then 0 else Nat.log2 i + 1
def tabL : List Nat := (List.range 256).map tv
theorem tab_get {i : Nat} (h : i < 256) : tabL[i]? = some (tv i) := by unfold tabL; rw [List.getElem?_map, List.getElem?_range h]; rfl
theorem tv_all : ∀ i, i < 256 → tv i ≤ 8 ∧ (1 ≤ i → 2 ^ tv i ≤ 2 * i) := by decide +kernel
theorem x_indexK {l : List Nat} {i n : Nat} {kd : IntKind} (h : l[i]? = some n) (hn : n < 256) : pureX (Instr.index 9 (.string (strL l)) (.int kd (Int.ofNat i))) = some (.int .u8 (Int.ofNat n)) := by
  refine pureX_of ?_ rfl
  have e : (strL l)[(Int.ofNat i).toNat]? = some n.toUInt8 := strL_get h
  have h0 : (0 : Int) ≤ Int.ofNat i := Int.natCast_nonneg i
  have hm : n.toUInt8.toNat = n := by simp; omega
  unfold Instr.index
  simp only [asIntOf, pureRun_bind, hu9, pure, pureRun, Option.bind_some, if_pos h0, e]
  rw [hm]
  rfl
theorem wrap_u64 {n : Nat} (h : n < 2 ^ 64) : IntKind.wrap .u64 (Int.ofNat n) = Int.ofNat n := by
  show (Int.ofNat n) % 2 ^ 64 = _
  exact Int.emod_eq_of_lt (Int.natCast_nonneg n) (by show (n : Int) < 2 ^ 64; omega)
theorem wrap_u8 {n : Nat} (h : n < 256) : IntKind.wrap .u8 (Int.ofNat n) = Int.ofNat n := by
  show (Int.ofNat n) % 2 ^ 8 = _
  exact Int.emod_eq_of_lt (Int.natCast_nonneg n) (by show (n : Int) < 2 ^ 8; omega)
theorem len64_of (lf m n : Nat) (hn : n ≤ 10000) (h : Hp) : ∃ v h', Ev lf (m + 1) 126 [.int .u64 (Int.ofNat n)] h = some (v, h') ∧ h' = h ∧ ∃ k, v = J k ∧ k ≤ 16 ∧ (1 ≤ n → 2 ^ k ≤ 2 * n) := by
  refine fnS_ok (Q := fun v h' => h' = h ∧ ∃ k, v = J k ∧ k ≤ 16 ∧ (1 ≤ n → 2 ^ k ≤ 2 * n)) ?_
  refine ok_go 1 ?_
  refine sy_no 0 (b := decide (Int.ofNat n ≥ 4294967296)) (by kernel_rfl) (decide_eq_false (by show ¬ (4294967296 : Int) ≤ (n : Int); omega)) ?_
  refine ok_go 1 ?_
  refine sy_no 0 (b := decide (Int.ofNat n ≥ 65536)) (by kernel_rfl) (decide_eq_false (by show ¬ (65536 : Int) ≤ (n : Int); omega)) ?_
  refine ok_go 1 ?_
  refine sy_test 0 (decide (Int.ofNat n ≥ 256)) (by kernel_rfl) ?_ ?_
  · intro h2
    have h2 : 256 ≤ n := Int.ofNat_le.1 (of_decide_eq_true h2)
    have hd : IntKind.wrap .u8 ((Int.ofNat n).fdiv (2 ^ min (Int.toNat 8) IntKind.u64.bits)) = Int.ofNat (n / 256) := by
      have : (Int.ofNat n).fdiv (2 ^ min (Int.toNat 8) IntKind.u64.bits) = Int.ofNat (n / 256) := by
        rw [show ((2 : Int) ^ min (Int.toNat 8) IntKind.u64.bits) = 256 from rfl, Int.fdiv_eq_ediv_of_nonneg _ (by decide)]
        rfl
      rw [this]
      exact wrap_u8 (by omega)
    obtain ⟨t1, t2⟩ := tv_all (n / 256) (by omega)
    refine ok_go 3 ?_
    refine sy_load 0 (r := pureX (Instr.index 9 (.string (strL tabL)) (.int .u8 (IntKind.wrap .u8 ((Int.ofNat n).fdiv (2 ^ min (Int.toNat 8) IntKind.u64.bits)))))) (h' := h) (by kernel_rfl) (by rw [hd]; exact x_indexK (tab_get (by omega)) (by omega)) ?_
    refine sy_done 6 (v := .int .i64 (IntKind.wrap .i64 (IntKind.wrap .i64 (0 + 8) + IntKind.wrap .i64 (Int.ofNat (tv (n / 256)))))) (h := h) (by kernel_rfl) ⟨rfl, 8 + tv (n / 256), ?_, by omega, fun _ => ?_⟩
    · rw [wrap_nat (n := tv (n / 256)) (by omega), show IntKind.wrap .i64 (0 + 8) = Int.ofNat 8 from rfl, wrap_add (by omega)]
    · have := t2 (by omega)
      rw [Nat.pow_add, show 2 ^ 8 = 256 from rfl]
      omega
  · intro h2
    have h2 : n < 256 := Nat.lt_of_not_le fun h => (of_decide_eq_false h2) (Int.ofNat_le.2 h)
    obtain ⟨t1, t2⟩ := tv_all n h2
    refine ok_go 1 ?_
    refine sy_load 0 (r := pureX (Instr.index 9 (.string (strL tabL)) (.int .u8 (IntKind.wrap .u8 (Int.ofNat n))))) (h' := h) (by kernel_rfl) (by rw [wrap_u8 h2]; exact x_indexK (tab_get h2) (by omega)) ?_
    refine sy_done 6 (v := .int .i64 (IntKind.wrap .i64 (0 + IntKind.wrap .i64 (Int.ofNat (tv n))))) (h := h) (by kernel_rfl) ⟨rfl, tv n, ?_, by omega, t2⟩
    rw [wrap_nat (n := tv n) (by omega), Int.zero_add, wrap_nat (by omega)]
theorem len_of (lf m n : Nat) (hn : n ≤ 10000) (h : Hp) : ∃ v h', Ev lf (m + 2) 91 [.int .u64 (Int.ofNat n)] h = some (v, h') ∧ h' = h ∧ ∃ k, v = J k ∧ k ≤ 16 ∧ (1 ≤ n → 2 ^ k ≤ 2 * n) := by
  refine fnS_ok (Q := fun v h' => h' = h ∧ ∃ k, v = J k ∧ k ≤ 16 ∧ (1 ≤ n → 2 ^ k ≤ 2 * n)) ?_
  obtain ⟨_, h', e, hh, k, rfl, h1, h2⟩ := len64_of lf m n hn h
  rw [hh] at e
  refine ok_go 1 ?_
  refine sy_call 0 (by kernel_rfl) e ?_
  refine sy_done 0 (v := Value.int IntKind.i64 (Int.ofNat k)) (h := h) (by kernel_rfl) ?_
  exact ⟨rfl, k, rfl, h1, h2⟩
theorem pow2_of (lf m n : Nat) (hn : n ≤ 10000) (h : Hp) : ∃ v h', Ev lf (m + 3) 159 [J n] h = some (v, h') ∧ h' = h ∧ ∃ k, v = .int .u64 (Int.ofNat (2 ^ k)) ∧ k ≤ 16 ∧ (1 ≤ n → 2 ^ k ≤ 2 * n) := by
  refine fnS_ok (Q := fun v h' => h' = h ∧ ∃ k, v = .int .u64 (Int.ofNat (2 ^ k)) ∧ k ≤ 16 ∧ (1 ≤ n → 2 ^ k ≤ 2 * n)) ?_
  obtain ⟨_, h', e, hh, k, rfl, h1, h2⟩ := len_of lf m n hn h
  rw [hh] at e
  have hw : IntKind.wrap .u64 (Int.ofNat n) = Int.ofNat n := by
    show (Int.ofNat n) % 2 ^ 64 = _
    exact Int.emod_eq_of_lt (Int.natCast_nonneg n) (by show (n : Int) < 2 ^ 64; omega)
  have e : Ev lf (m + 2) 91 [.int .u64 (IntKind.wrap .u64 (Int.ofNat n))] h = some (J k, h) := by rw [hw]; exact e
  refine ok_go 1 ?_
  refine sy_call 0 (by kernel_rfl) e ?_
  refine sy_done 1 (v := .int .u64 (IntKind.wrap .u64 (1 * 2 ^ min (Int.ofNat k).toNat IntKind.u64.bits))) (h := h) (by kernel_rfl) ⟨rfl, k, ?_, h1, h2⟩
  rw [show min (Int.ofNat k).toNat IntKind.u64.bits = k from Nat.min_eq_left (by show k ≤ 64; omega), Int.one_mul]
  have h64 : (2 : Nat) ^ k < 2 ^ 64 := Nat.pow_lt_pow_right (by decide) (by omega)
  have hc : ((2 : Int) ^ k) = Int.ofNat (2 ^ k) := by
    show ((2 : Int) ^ k) = ((2 ^ k : Nat) : Int)
    norm_cast
  rw [hc, wrap_u64 (by omega)]
end Go.Proofs.YtkfbfgcflnkllaaGreatDoor.Ch
namespace Go.Proofs.YtkfbfgcflnkllaaGreatDoor.Ch
open Go Go.Eng Nim Oct
set_option maxRecDepth 100000
set_option maxHeartbeats 8000000
section
variable {lf m C q N : Nat} {h : Hp} {l : List (Nat × AObj)} {o : Bool} {V : Value → Prop} {lt : Value → Value → Prop}
theorem break_of (hlf : 20000 ≤ lf) (K : Cmp lf m C h l q N o V lt) (hN : N ≤ 10000) (c : Nat) (f : Nat → Value) (hV : ∀ k, k < N → V (f k)) (a n : Nat) (hn : 13 ≤ n) (hb : a + n ≤ N) (g : Hp) (W : Dat h l q N o f g) :
    ∃ v g', Ev lf (m + 4) 119 [.slice (some ⟨q, 0, none⟩) N c, J a, J (a + n), .func (.func C) #[] #[]] g = some (v, g') ∧ ∃ f', Dat h l q N o f' g' ∧ Sw a (a + n) f f' := by
  refine fnS_ok (Q := fun v g' => ∃ f', Dat h l q N o f' g' ∧ Sw a (a + n) f f') ?_
  let SL : Value := .slice (some ⟨q, 0, none⟩) N c
  have hw1 : IntKind.wrap .i64 (Int.ofNat (a + n) - Int.ofNat a) = Int.ofNat n := by rw [wrap_sub (by omega) (by omega), Nat.add_sub_cancel_left]
  refine ok_go 2 ?_
  refine sy_yes 0 (b := decide (IntKind.wrap .i64 (Int.ofNat (a + n) - Int.ofNat a) ≥ 8)) (by kernel_rfl) (decide_eq_true (by rw [hw1]; show (8 : Int) ≤ (n : Int); omega)) ?_
  refine ow_new 1 W (AObj.cells [Value.int IntKind.u64 (Int.ofNat 0)] 180 false) (fun q => Value.pointer (some { block := q, off := 0 })) (by kernel_rfl) fun s1 ns1 Ws1 => ?_
  have W := Ws1
  refine ow_store (P := Tryz.prog) (T := 180) (off := 0) (v := Value.int IntKind.u64 (IntKind.wrap IntKind.u64 (IntKind.wrap IntKind.i64 (Int.ofNat (a + n) - Int.ofNat a)))) 0 0 W rfl (Nat.le_of_ble_eq_true (by kernel_rfl)) (by kernel_rfl) (by first | rfl | assumption) (by kernel_rfl) fun s2 ns2 Ws2 => ?_
  have W := Ws2
  obtain ⟨_, gx, e93, hgx, k, rfl, hk1, hk2⟩ := pow2_of lf m n (by omega) s2
  subst hgx
  have e93 : Ev lf (m + 3) 159 [I (IntKind.wrap .i64 (Int.ofNat (a + n) - Int.ofNat a))] gx = some (.int .u64 (Int.ofNat (2 ^ k)), gx) := by rw [hw1]; exact e93
  refine sy_call 0 (by kernel_rfl) e93 ?_
  have hmid : IntKind.wrap .i64 (Int.ofNat a + IntKind.wrap .i64 (IntKind.wrap .i64 ((Int.ofNat n).tdiv 4) * 2)) = Int.ofNat (a + n / 4 * 2) := by
    rw [show IntKind.wrap .i64 ((Int.ofNat n).tdiv 4) = Int.ofNat (n / 4) from wrap_nat (n := n / 4) (by omega)]
    rw [show IntKind.wrap .i64 (Int.ofNat (n / 4) * 2) = Int.ofNat (n / 4 * 2) from wrap_nat (n := n / 4 * 2) (by omega)]
    exact wrap_add (by omega)
  have h11 : IntKind.wrap .i64 (IntKind.wrap .i64 (Int.ofNat a + IntKind.wrap .i64 (IntKind.wrap .i64 ((IntKind.wrap .i64 (Int.ofNat (a + n) - Int.ofNat a)).tdiv 4) * 2)) - 1) = Int.ofNat (a + n / 4 * 2 - 1 + 0) := by
    rw [hw1, hmid]
    exact wrap_sub (b := 1) (by omega) (by omega)
  have hee : IntKind.wrap .i64 (IntKind.wrap .i64 (Int.ofNat a + IntKind.wrap .i64 (IntKind.wrap .i64 ((Int.ofNat n).tdiv 4) * 2)) + 1) = Int.ofNat (a + n / 4 * 2 + 1) := by
    rw [hmid]
    exact wrap_add (b := 1) (by omega)
  generalize g.next = r at *
  refine ok_go 4 ?_
  refine sy_loop 0 lf gx (α := Nat × Int × (Nat → Value)) (fun x => [(0, SL), (1, J a), (8, J n), (9, ptr r 0), (10, .int .u64 (Int.ofNat (2 ^ k))), (11, J (a + n / 4 * 2 - 1 + x.1))]) (fun x g => x.1 ≤ 3 ∧ Sto h g ((r, .cells [.int .u64 x.2.1] 180 false) :: (q, .cells (cellsF N x.2.2) 28 o) :: l) ∧ Sw a (a + n) f x.2.2) (fun x _ => 3 - x.1) (0, IntKind.wrap .u64 (IntKind.wrap .i64 (Int.ofNat (a + n) - Int.ofNat a)), f) (by kernel_rfl) (by kernel_rfl)
    ⟨by kernel_rfl, by kernel_rfl, (by kernel_rfl : _ = Value.int .i64 (IntKind.wrap .i64 (Int.ofNat (a + n) - Int.ofNat a))).trans (by rw [hw1]), by kernel_rfl, by kernel_rfl, (by kernel_rfl : _ = Value.int .i64 (IntKind.wrap .i64 (IntKind.wrap .i64 (Int.ofNat a + IntKind.wrap .i64 (IntKind.wrap .i64 ((IntKind.wrap .i64 (Int.ofNat (a + n) - Int.ofNat a)).tdiv 4) * 2)) - 1))).trans (by rw [h11]), trivial⟩ (show 3 - 0 < lf by omega) ⟨Nat.zero_le 3, W, .refl f⟩ ?_
  clear W
  rintro m1 ⟨j, z, f1⟩ F1 g1 ⟨hj, W, S⟩ ih
  dsimp only at hj W S
  have hV1 := S.every hb hV
  have hwj : IntKind.wrap .i64 (Int.ofNat (a + n / 4 * 2 - 1 + j) + 1) = Int.ofNat (a + n / 4 * 2 - 1 + (j + 1)) := wrap_add (b := 1) (by omega)
  refine ok_go 5 ?_
  refine sy_test 0 (decide (Int.ofNat (a + n / 4 * 2 - 1 + j) ≤ IntKind.wrap .i64 (IntKind.wrap .i64 (Int.ofNat a + IntKind.wrap .i64 (IntKind.wrap .i64 ((Int.ofNat n).tdiv 4) * 2)) + 1))) (by kernel_rfl) ?_ ?_
  · intro ht
    have ht : j < 3 := by rw [hee] at ht; have := Int.ofNat_le.1 (of_decide_eq_true ht); omega
    obtain ⟨_, g2, e94, z2, rfl, W⟩ := rnext_of lf (m + 2) r z 180 false g1 W
    refine ok_go 0 ?_
    refine sy_call 0 (by kernel_rfl) e94 ?_
    refine ok_go 4 ?_
    have hO : ∃ x, x < 2 * n ∧ IntKind.wrap .i64 (IntKind.wrap .u64 (Int.ofNat (BitVec.ofInt IntKind.u64.bits z2 &&& BitVec.ofInt IntKind.u64.bits (IntKind.wrap .u64 (Int.ofNat (2 ^ k) - 1))).toNat)) = Int.ofNat x := by
      have h64 : (2 : Nat) ^ k ≤ 2 ^ 16 := Nat.pow_le_pow_right (by decide) hk1
      have hp : 1 ≤ 2 ^ k := Nat.one_le_two_pow
      have h1 : IntKind.wrap .u64 (Int.ofNat (2 ^ k) - 1) = Int.ofNat (2 ^ k - 1) := by
        rw [show Int.ofNat (2 ^ k) - 1 = Int.ofNat (2 ^ k - 1) by show ((2 ^ k : Nat) : Int) - 1 = ((2 ^ k - 1 : Nat) : Int); omega]
        exact wrap_u64 (by omega)
      have h2 : (BitVec.ofInt IntKind.u64.bits (Int.ofNat (2 ^ k - 1))).toNat = 2 ^ k - 1 := by
        show (BitVec.ofInt 64 ((2 ^ k - 1 : Nat) : Int)).toNat = _
        rw [BitVec.ofInt_natCast, BitVec.toNat_ofNat]
        exact Nat.mod_eq_of_lt (by omega)
      rw [h1]
      generalize hx : (BitVec.ofInt IntKind.u64.bits z2 &&& BitVec.ofInt IntKind.u64.bits (Int.ofNat (2 ^ k - 1))).toNat = x
      have hxl : x ≤ 2 ^ k - 1 := by
        rw [← hx, BitVec.toNat_and, h2]
        exact Nat.and_le_right
      refine ⟨x, by have := hk2 (by omega); omega, ?_⟩
      rw [wrap_u64 (by omega)]
      exact wrap_nat (by omega)
    obtain ⟨x, hx, hO⟩ := hO
    refine sy_test 0 (decide (IntKind.wrap .i64 (IntKind.wrap .u64 (Int.ofNat (BitVec.ofInt IntKind.u64.bits z2 &&& BitVec.ofInt IntKind.u64.bits (IntKind.wrap .u64 (Int.ofNat (2 ^ k) - 1))).toNat)) ≥ Int.ofNat n)) (by kernel_rfl) ?_ ?_
    · intro hox
      have hox : n ≤ x := by rw [hO] at hox; exact Int.ofNat_le.1 (of_decide_eq_true hox)
      have hi : IntKind.wrap .i64 (Int.ofNat a + IntKind.wrap .i64 (IntKind.wrap .i64 (IntKind.wrap .u64 (Int.ofNat (BitVec.ofInt IntKind.u64.bits z2 &&& BitVec.ofInt IntKind.u64.bits (IntKind.wrap .u64 (Int.ofNat (2 ^ k) - 1))).toNat)) - Int.ofNat n)) = Int.ofNat (a + (x - n)) := by rw [hO, wrap_sub (by omega) (by omega)]; exact wrap_add (by omega)
      refine ok_go 3 ?_
      refine sy_load 0 (r := indexAddrOp Tryz.prog 22 SL (I (IntKind.wrap .i64 (Int.ofNat a + IntKind.wrap .i64 (IntKind.wrap .i64 (IntKind.wrap .u64 (Int.ofNat (BitVec.ofInt IntKind.u64.bits z2 &&& BitVec.ofInt IntKind.u64.bits (IntKind.wrap .u64 (Int.ofNat (2 ^ k) - 1))).toNat)) - Int.ofNat n))))) (h' := g2) (v := ptr q (a + (x - n))) (by kernel_rfl) (by rw [hi]; exact idxS0 (e := 28) (by kernel_rfl) (by kernel_rfl) (by omega)) ?_
      refine ok_go 0 ?_
      refine ow_loadF (P := Tryz.prog) (T := 28) (off := a + (x - n)) 0 1 W rfl (by omega) (by kernel_rfl) (by kernel_rfl) ?_
      refine ok_go 0 ?_
      refine sy_load 0 (r := indexAddrOp Tryz.prog 22 SL (J (a + n / 4 * 2 - 1 + j))) (h' := g2) (v := ptr q (a + n / 4 * 2 - 1 + j)) (by kernel_rfl) (idxS0 (e := 28) (by kernel_rfl) (by kernel_rfl) (by omega)) ?_
      refine ok_go 0 ?_
      refine ow_loadF (P := Tryz.prog) (T := 28) (off := a + n / 4 * 2 - 1 + j) 0 1 W rfl (by omega) (by kernel_rfl) (by kernel_rfl) ?_
      refine ok_go 0 ?_
      refine sy_load 0 (r := indexAddrOp Tryz.prog 22 SL (J (a + n / 4 * 2 - 1 + j))) (h' := g2) (v := ptr q (a + n / 4 * 2 - 1 + j)) (by kernel_rfl) (idxS0 (e := 28) (by kernel_rfl) (by kernel_rfl) (by omega)) ?_
      refine ok_go 0 ?_
      refine ow_storeF (P := Tryz.prog) (T := 28) (off := a + n / 4 * 2 - 1 + j) (v := f1 (a + (x - n))) 0 1 W rfl (by omega) (by kernel_rfl) (K.sc _ (hV1 _ (by omega))) (by kernel_rfl) fun g2a ng2a W => ?_
      refine ok_go 0 ?_
      refine sy_load 0 (r := indexAddrOp Tryz.prog 22 SL (I (IntKind.wrap .i64 (Int.ofNat a + IntKind.wrap .i64 (IntKind.wrap .i64 (IntKind.wrap .u64 (Int.ofNat (BitVec.ofInt IntKind.u64.bits z2 &&& BitVec.ofInt IntKind.u64.bits (IntKind.wrap .u64 (Int.ofNat (2 ^ k) - 1))).toNat)) - Int.ofNat n))))) (h' := g2a) (v := ptr q (a + (x - n))) (by kernel_rfl) (by rw [hi]; exact idxS0 (e := 28) (by kernel_rfl) (by kernel_rfl) (by omega)) ?_
      refine ok_go 0 ?_
      refine ow_storeF (P := Tryz.prog) (T := 28) (off := a + (x - n)) (v := f1 (a + n / 4 * 2 - 1 + j)) 0 1 W rfl (by omega) (by kernel_rfl) (K.sc _ (hV1 _ (by omega))) (by kernel_rfl) fun g3 ng3 W => ?_
      refine ok_go 1 ?_
      have W : Sto h g3 ((r, .cells [.int .u64 z2] 180 false) :: (q, .cells (cellsF N (swp f1 (a + n / 4 * 2 - 1 + j) (a + (x - n)))) 28 o) :: l) := by rw [← updF_swp]; exact W
      exact sy_next 0 _ g3 (by kernel_rfl) (by kernel_rfl) (ih (j + 1, z2, swp f1 (a + n / 4 * 2 - 1 + j) (a + (x - n))) _ g3 ⟨ht, W, S.trans (.one (by omega) (by omega) (by omega) (by omega))⟩ (show 3 - (j + 1) < 3 - j by omega) ⟨by kernel_rfl, by kernel_rfl, by kernel_rfl, by kernel_rfl, by kernel_rfl, (by kernel_rfl : _ = Value.int .i64 (IntKind.wrap .i64 (Int.ofNat (a + n / 4 * 2 - 1 + j) + 1))).trans (by rw [hwj]), trivial⟩)
    · intro hox
      have hox : x < n := by rw [hO] at hox; exact Nat.lt_of_not_le fun h => (of_decide_eq_false hox) (Int.ofNat_le.2 h)
      have hi : IntKind.wrap .i64 (Int.ofNat a + IntKind.wrap .i64 (IntKind.wrap .u64 (Int.ofNat (BitVec.ofInt IntKind.u64.bits z2 &&& BitVec.ofInt IntKind.u64.bits (IntKind.wrap .u64 (Int.ofNat (2 ^ k) - 1))).toNat))) = Int.ofNat (a + x) := by rw [hO]; exact wrap_add (by omega)
      refine ok_go 2 ?_
      refine sy_load 0 (r := indexAddrOp Tryz.prog 22 SL (I (IntKind.wrap .i64 (Int.ofNat a + IntKind.wrap .i64 (IntKind.wrap .u64 (Int.ofNat (BitVec.ofInt IntKind.u64.bits z2 &&& BitVec.ofInt IntKind.u64.bits (IntKind.wrap .u64 (Int.ofNat (2 ^ k) - 1))).toNat)))))) (h' := g2) (v := ptr q (a + (x))) (by kernel_rfl) (by rw [hi]; exact idxS0 (e := 28) (by kernel_rfl) (by kernel_rfl) (by omega)) ?_
      refine ok_go 0 ?_
      refine ow_loadF (P := Tryz.prog) (T := 28) (off := a + (x)) 0 1 W rfl (by omega) (by kernel_rfl) (by kernel_rfl) ?_
      refine ok_go 0 ?_
      refine sy_load 0 (r := indexAddrOp Tryz.prog 22 SL (J (a + n / 4 * 2 - 1 + j))) (h' := g2) (v := ptr q (a + n / 4 * 2 - 1 + j)) (by kernel_rfl) (idxS0 (e := 28) (by kernel_rfl) (by kernel_rfl) (by omega)) ?_
      refine ok_go 0 ?_
      refine ow_loadF (P := Tryz.prog) (T := 28) (off := a + n / 4 * 2 - 1 + j) 0 1 W rfl (by omega) (by kernel_rfl) (by kernel_rfl) ?_
      refine ok_go 0 ?_
      refine sy_load 0 (r := indexAddrOp Tryz.prog 22 SL (J (a + n / 4 * 2 - 1 + j))) (h' := g2) (v := ptr q (a + n / 4 * 2 - 1 + j)) (by kernel_rfl) (idxS0 (e := 28) (by kernel_rfl) (by kernel_rfl) (by omega)) ?_
      refine ok_go 0 ?_
      refine ow_storeF (P := Tryz.prog) (T := 28) (off := a + n / 4 * 2 - 1 + j) (v := f1 (a + (x))) 0 1 W rfl (by omega) (by kernel_rfl) (K.sc _ (hV1 _ (by omega))) (by kernel_rfl) fun g2a ng2a W => ?_
      refine ok_go 0 ?_
      refine sy_load 0 (r := indexAddrOp Tryz.prog 22 SL (I (IntKind.wrap .i64 (Int.ofNat a + IntKind.wrap .i64 (IntKind.wrap .u64 (Int.ofNat (BitVec.ofInt IntKind.u64.bits z2 &&& BitVec.ofInt IntKind.u64.bits (IntKind.wrap .u64 (Int.ofNat (2 ^ k) - 1))).toNat)))))) (h' := g2a) (v := ptr q (a + (x))) (by kernel_rfl) (by rw [hi]; exact idxS0 (e := 28) (by kernel_rfl) (by kernel_rfl) (by omega)) ?_
      refine ok_go 0 ?_
      refine ow_storeF (P := Tryz.prog) (T := 28) (off := a + (x)) (v := f1 (a + n / 4 * 2 - 1 + j)) 0 1 W rfl (by omega) (by kernel_rfl) (K.sc _ (hV1 _ (by omega))) (by kernel_rfl) fun g3 ng3 W => ?_
      refine ok_go 1 ?_
      have W : Sto h g3 ((r, .cells [.int .u64 z2] 180 false) :: (q, .cells (cellsF N (swp f1 (a + n / 4 * 2 - 1 + j) (a + (x)))) 28 o) :: l) := by rw [← updF_swp]; exact W
      exact sy_next 0 _ g3 (by kernel_rfl) (by kernel_rfl) (ih (j + 1, z2, swp f1 (a + n / 4 * 2 - 1 + j) (a + (x))) _ g3 ⟨ht, W, S.trans (.one (by omega) (by omega) (by omega) (by omega))⟩ (show 3 - (j + 1) < 3 - j by omega) ⟨by kernel_rfl, by kernel_rfl, by kernel_rfl, by kernel_rfl, by kernel_rfl, (by kernel_rfl : _ = Value.int .i64 (IntKind.wrap .i64 (Int.ofNat (a + n / 4 * 2 - 1 + j) + 1))).trans (by rw [hwj]), trivial⟩)
  · intro ht
    refine sy_done 0 (v := Value.tuple { toList := [] }) (h := g1) (by kernel_rfl) ?_
    exact ⟨f1, W.drop 1, S⟩
end
end Go.Proofs.YtkfbfgcflnkllaaGreatDoor.Ch
namespace Go.Proofs.YtkfbfgcflnkllaaGreatDoor.Ch
open Go Go.Eng Nim Oct
set_option maxRecDepth 100000
set_option maxHeartbeats 8000000
section
variable {lf m C q N : Nat} {h : Hp} {l : List (Nat × AObj)} {o : Bool} {V : Value → Prop} {lt : Value → Value → Prop}
theorem ord2_of (K : Cmp lf m C h l q N o V lt) (c : Nat) (f : Nat → Value) (hV : ∀ k, k < N → V (f k)) (a b p : Nat) (z : Int) (ha : a < N) (hb : b < N) (g : Hp) (W : Sto h g ((p, .cells [I z] 3 false) :: (q, .cells (cellsF N f) 28 o) :: l)) :
    ∃ v g', Ev lf (m + 1) 180 [.slice (some ⟨q, 0, none⟩) N c, J a, J b, ptr p 0, .func (.func C) #[] #[]] g = some (v, g') ∧ ∃ x y z', v = .tuple #[J x, J y] ∧ ((x = a ∧ y = b) ∨ (x = b ∧ y = a)) ∧ Sto h g' ((p, .cells [I z'] 3 false) :: (q, .cells (cellsF N f) 28 o) :: l) := by
  refine fnS_ok (Q := fun v g' => ∃ x y z', v = .tuple #[J x, J y] ∧ ((x = a ∧ y = b) ∨ (x = b ∧ y = a)) ∧ Sto h g' ((p, .cells [I z'] 3 false) :: (q, .cells (cellsF N f) 28 o) :: l)) ?_
  let SL : Value := .slice (some ⟨q, 0, none⟩) N c
  obtain ⟨z2, ec, hz⟩ := K.cmp f g _ _ (W.drop 1) (hV b hb) (hV a ha)
  refine ok_go 0 ?_
  refine sy_load 0 (r := indexAddrOp Tryz.prog 22 SL (J b)) (h' := g) (v := ptr q (b)) (by kernel_rfl) (idxS0 (e := 28) (by kernel_rfl) (by kernel_rfl) (by omega)) ?_
  refine ok_go 0 ?_
  refine ow_loadF (P := Tryz.prog) (T := 28) (off := b) 0 1 W rfl (by omega) (by kernel_rfl) (by kernel_rfl) ?_
  refine ok_go 0 ?_
  refine sy_load 0 (r := indexAddrOp Tryz.prog 22 SL (J a)) (h' := g) (v := ptr q (a)) (by kernel_rfl) (idxS0 (e := 28) (by kernel_rfl) (by kernel_rfl) (by omega)) ?_
  refine ok_go 0 ?_
  refine ow_loadF (P := Tryz.prog) (T := 28) (off := a) 0 1 W rfl (by omega) (by kernel_rfl) (by kernel_rfl) ?_
  refine ok_go 0 ?_
  refine sy_call 0 (by kernel_rfl) ec ?_
  refine ok_go 1 ?_
  refine sy_test 0 (decide (z2 < 0)) (by kernel_rfl) ?_ ?_
  · intro _
    refine ow_load (P := Tryz.prog) (T := 3) (off := 0) 1 0 W rfl rfl (by kernel_rfl) (by kernel_rfl) ?_
    refine ow_store (P := Tryz.prog) (T := 3) (off := 0) (v := Value.int IntKind.i64 (IntKind.wrap IntKind.i64 (z + 1))) 2 0 W rfl (Nat.le_of_ble_eq_true (by kernel_rfl)) (by kernel_rfl) (by first | rfl | assumption) (by kernel_rfl) fun s1 ns1 Ws1 => ?_
    have W := Ws1
    refine sy_done 0 (v := Value.tuple { toList := [Value.int IntKind.i64 (Int.ofNat b), Value.int IntKind.i64 (Int.ofNat a)] }) (h := s1) (by kernel_rfl) ?_
    exact ⟨b, a, _, rfl, .inr ⟨rfl, rfl⟩, W⟩
  · intro _
    refine sy_done 0 (v := Value.tuple { toList := [Value.int IntKind.i64 (Int.ofNat a), Value.int IntKind.i64 (Int.ofNat b)] }) (h := g) (by kernel_rfl) ?_
    exact ⟨a, b, z, rfl, .inl ⟨rfl, rfl⟩, W⟩
theorem med_of (K : Cmp lf m C h l q N o V lt) (c : Nat) (f : Nat → Value) (hV : ∀ k, k < N → V (f k)) (P : Nat → Prop) (hP : ∀ x, P x → x < N) (a b d p : Nat) (z : Int) (ha : P a) (hb : P b) (hd : P d) (g : Hp) (W : Sto h g ((p, .cells [I z] 3 false) :: (q, .cells (cellsF N f) 28 o) :: l)) :
    ∃ v g', Ev lf (m + 2) 162 [.slice (some ⟨q, 0, none⟩) N c, J a, J b, J d, ptr p 0, .func (.func C) #[] #[]] g = some (v, g') ∧ ∃ x z', v = J x ∧ P x ∧ Sto h g' ((p, .cells [I z'] 3 false) :: (q, .cells (cellsF N f) 28 o) :: l) := by
  refine fnS_ok (Q := fun v g' => ∃ x z', v = J x ∧ P x ∧ Sto h g' ((p, .cells [I z'] 3 false) :: (q, .cells (cellsF N f) 28 o) :: l)) ?_
  obtain ⟨_, g1, e1, x1, y1, z1, rfl, h1, W⟩ := ord2_of K c f hV a b p z (hP a ha) (hP b hb) g W
  have p1 : P x1 ∧ P y1 := by rcases h1 with ⟨rfl, rfl⟩ | ⟨rfl, rfl⟩ <;> exact ⟨by assumption, by assumption⟩
  obtain ⟨_, g2, e2, x2, y2, z2, rfl, h2, W⟩ := ord2_of K c f hV y1 d p z1 (hP y1 p1.2) (hP d hd) g1 W
  have p2 : P x2 ∧ P y2 := by rcases h2 with ⟨rfl, rfl⟩ | ⟨rfl, rfl⟩ <;> exact ⟨by first | exact p1.2 | assumption, by first | assumption | exact p1.2⟩
  obtain ⟨_, g3, e3, x3, y3, z3, rfl, h3, W⟩ := ord2_of K c f hV x1 x2 p z2 (hP x1 p1.1) (hP x2 p2.1) g2 W
  have p3 : P x3 ∧ P y3 := by rcases h3 with ⟨rfl, rfl⟩ | ⟨rfl, rfl⟩ <;> exact ⟨by first | exact p1.1 | exact p2.1, by first | exact p2.1 | exact p1.1⟩
  refine ok_go 0 ?_
  refine sy_call 0 (by kernel_rfl) e1 ?_
  refine ok_go 2 ?_
  refine sy_call 0 (by kernel_rfl) e2 ?_
  refine ok_go 2 ?_
  refine sy_call 0 (by kernel_rfl) e3 ?_
  refine sy_done 2 (v := Value.int IntKind.i64 (Int.ofNat y3)) (h := g3) (by kernel_rfl) ?_
  exact ⟨y3, z3, rfl, p3.2, W⟩
theorem adj_of (K : Cmp lf m C h l q N o V lt) (hN : N ≤ 10000) (c : Nat) (f : Nat → Value) (hV : ∀ k, k < N → V (f k)) (P : Nat → Prop) (hP : ∀ x, P x → x < N) (a p : Nat) (z : Int) (ha : P a) (hb : P (a + 1)) (hd : P (a + 2)) (g : Hp) (W : Sto h g ((p, .cells [I z] 3 false) :: (q, .cells (cellsF N f) 28 o) :: l)) :
    ∃ v g', Ev lf (m + 3) 161 [.slice (some ⟨q, 0, none⟩) N c, J (a + 1), ptr p 0, .func (.func C) #[] #[]] g = some (v, g') ∧ ∃ x z', v = J x ∧ P x ∧ Sto h g' ((p, .cells [I z'] 3 false) :: (q, .cells (cellsF N f) 28 o) :: l) := by
  refine fnS_ok (Q := fun v g' => ∃ x z', v = J x ∧ P x ∧ Sto h g' ((p, .cells [I z'] 3 false) :: (q, .cells (cellsF N f) 28 o) :: l)) ?_
  have h1 := hP _ hd
  obtain ⟨_, g1, e1, x, z', rfl, hx, W⟩ := med_of K c f hV P hP a (a + 1) (a + 2) p z ha hb hd g W
  have e1 : Ev lf (m + 2) 162 [.slice (some ⟨q, 0, none⟩) N c, I (IntKind.wrap .i64 (Int.ofNat (a + 1) - 1)), J (a + 1), I (IntKind.wrap .i64 (Int.ofNat (a + 1) + 1)), ptr p 0, .func (.func C) #[] #[]] g = some (J x, g1) := by
    rw [sub_one (by omega), show IntKind.wrap .i64 (Int.ofNat (a + 1) + 1) = Int.ofNat (a + 2) from wrap_add (a := a + 1) (b := 1) (by omega)]
    exact e1
  refine ok_go 2 ?_
  refine sy_call 0 (by kernel_rfl) e1 ?_
  refine sy_done 0 (v := Value.int IntKind.i64 (Int.ofNat x)) (h := g1) (by kernel_rfl) ?_
  exact ⟨x, z', rfl, hx, W⟩
end
end Go.Proofs.YtkfbfgcflnkllaaGreatDoor.Ch
