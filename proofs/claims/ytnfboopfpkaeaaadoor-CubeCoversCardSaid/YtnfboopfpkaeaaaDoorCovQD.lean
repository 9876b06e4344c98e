/- A cover of as few as possible: the plain law; the law as the program asks it; pairs as an argument. -/
import Derived.Test.YtnfboopfpkaeaaaDoorProg
import Derived.KernelRfl
import Derived.Test.YtnfboopfpkaeaaaDoorSyF
import Derived.Test.YtnfboopfpkaeaaaDoorCovQC
import Derived.ChangeSlices
import Derived.ChangeArms
import Derived.Deep.Slices
import Derived.Test.YtnfboopfpkaeaaaDoorEngN
namespace Go.Proofs.YtnfboopfpkaeaaaDoor
open Go Go.Eng Nim
set_option maxRecDepth 100000
theorem fs1_some {f d : Nat → Bool} : ∀ (k x y : Nat), fs1 f d k x = some y → f y = true ∧ d y = false ∧ x ≤ y ∧ y < x + k
  | 0, x, y, h => by cases h
  | k + 1, x, y, h => by
    unfold fs1 at h
    split at h
    · rename_i hc
      cases h
      simp only [Bool.and_eq_true, Bool.not_eq_true'] at hc
      exact ⟨hc.1, hc.2, Nat.le_refl _, by omega⟩
    · obtain ⟨h1, h2, h3, h4⟩ := fs1_some k (x + 1) y h
      exact ⟨h1, h2, by omega, by omega⟩
theorem fs1_none {f d : Nat → Bool} : ∀ (k x : Nat), fs1 f d k x = none → ∀ y, x ≤ y → y < x + k → f y = true → d y = true
  | 0, x, _ => fun y h1 h2 => by omega
  | k + 1, x, h => fun y h1 h2 hf => by
    unfold fs1 at h
    split at h
    · cases h
    · rename_i hc
      by_cases hyx : y = x
      · subst hyx
        rw [hf] at hc
        simpa using hc
      · exact fs1_none k (x + 1) h y (by omega) (by omega) hf
theorem find_some {α : Type} {L : List (Nat × Nat)} {r : Nat × Nat → Option α} {res : α} (h : L.findSome? r = some res) : ∃ p ∈ L, r p = some res := List.exists_of_findSome?_eq_some h
theorem find_is {α : Type} {L : List (Nat × Nat)} {r : Nat × Nat → Option α} {p : Nat × Nat} (hp : p ∈ L) (h : (r p).isSome = true) : (L.findSome? r).isSome = true := by
  rw [List.findSome?_isSome_iff]
  exact ⟨p, hp, h⟩
/-- What a search tells. -/
theorem srch_spec (f : Nat → Bool) (N : Nat) (L : List (Nat × Nat)) : ∀ (n : Nat) (sm res : List (Nat × Nat)), srch f N L n sm = some res →
    (∃ m, m ≤ n ∧ res.length = sm.length + m ∧ (srch f N L m sm).isSome = true) ∧ (∀ p ∈ res, p ∈ sm ∨ p ∈ L) ∧ (sm.Nodup → res.Nodup) ∧ ∀ y, y < N → f y = true → don res y = true := by
  have stop : ∀ (sm : List (Nat × Nat)), fs1 f (don sm) N 0 = none → ∀ n, (∃ m, m ≤ n ∧ sm.length = sm.length + m ∧ (srch f N L m sm).isSome = true) ∧ (∀ p ∈ sm, p ∈ sm ∨ p ∈ L) ∧ (sm.Nodup → sm.Nodup) ∧ ∀ y, y < N → f y = true → don sm y = true := fun sm h n =>
    ⟨⟨0, Nat.zero_le _, rfl, by rw [srch, h]; rfl⟩, fun p hp => .inl hp, id, fun y hy hf => fs1_none N 0 h y (Nat.zero_le _) (by omega) hf⟩
  intro n
  induction n with
  | zero =>
    intro sm res h
    rw [srch] at h
    split at h
    · rename_i e
      cases h
      exact stop sm e 0
    · cases h
  | succ n ih =>
    intro sm res h
    rw [srch] at h
    split at h
    · rename_i e
      cases h
      exact stop sm e (n + 1)
    · rename_i x e
      obtain ⟨p, hp, hr⟩ := find_some h
      split at hr
      · rename_i hin
        obtain ⟨⟨m, h1, h2, h3⟩, h4, h5, h6⟩ := ih (sm ++ [p]) res hr
        refine ⟨⟨m + 1, by omega, by rw [h2, List.length_append, List.length_singleton]; omega, ?_⟩, fun q hq => ?_, fun nd => h5 ?_, h6⟩
        · rw [srch, e]
          exact find_is hp (by rw [if_pos hin]; exact h3)
        · rcases h4 q hq with hq | hq
          · rcases List.mem_append.1 hq with hq | hq
            · exact .inl hq
            · exact .inr (by rw [List.mem_singleton.1 hq]; exact hp)
          · exact .inr hq
        · rw [List.nodup_append]
          refine ⟨nd, by simp, fun a ha b hb => ?_⟩
          rw [List.mem_singleton.1 hb]
          rintro rfl
          have := (fs1_some N 0 x e).2.1
          unfold don at this
          rw [List.any_eq_false] at this
          exact this a ha hin
      · cases hr
/-- Rising, and no two alike: strictly rising. -/
theorem srt_strict {l : List (Nat × Nat)} (h : Srt l) (nd : l.Nodup) : l.Pairwise plt := by
  have := List.pairwise_and_iff.2 ⟨h, nd⟩
  refine this.imp fun {a b} hab => ?_
  obtain ⟨h1, h2⟩ := hab
  unfold plt at *
  have : a.1 ≠ b.1 ∨ a.2 ≠ b.2 := by
    by_cases h3 : a.1 = b.1
    · right
      intro h4
      exact h2 (Prod.ext h3 h4)
    · exact .inl h3
  omega
end Go.Proofs.YtnfboopfpkaeaaaDoor
namespace Go.Proofs.YtnfboopfpkaeaaaDoor
open Go Go.Eng Nim
set_option maxRecDepth 100000
theorem rowP_mem (pr : Nat → Nat → Bool) (m : Nat) (p : Nat × Nat) : ∀ k, p ∈ rowP pr m k ↔ p.1 = m ∧ p.2 < k ∧ (sub p.2 m && pr m p.2) = true
  | 0 => by simp [rowP]
  | k + 1 => by
    have ih := rowP_mem pr m p k
    unfold rowP
    split
    · rename_i h
      rw [List.mem_append, ih, List.mem_singleton]
      constructor
      · rintro (⟨h1, h2, h3⟩ | rfl)
        · exact ⟨h1, by omega, h3⟩
        · exact ⟨rfl, by simp, h⟩
      · rintro ⟨h1, h2, h3⟩
        by_cases hk : p.2 = k
        · exact .inr (Prod.ext h1 hk)
        · exact .inl ⟨h1, by omega, h3⟩
    · rename_i h
      rw [ih]
      constructor
      · rintro ⟨h1, h2, h3⟩
        exact ⟨h1, by omega, h3⟩
      · rintro ⟨h1, h2, h3⟩
        by_cases hk : p.2 = k
        · rw [hk] at h3; exact absurd h3 h
        · exact ⟨h1, by omega, h3⟩
theorem accP_mem (pr : Nat → Nat → Bool) (p : Nat × Nat) : ∀ M, p ∈ accP pr M ↔ p.1 < M ∧ p.2 &&& p.1 = p.2 ∧ pr p.1 p.2 = true
  | 0 => by simp [accP]
  | M + 1 => by
    rw [accP, List.mem_append, accP_mem pr p M, rowP_mem]
    unfold sub
    simp only [Bool.and_eq_true, beq_iff_eq]
    constructor
    · rintro (⟨h1, h2, h3⟩ | ⟨h1, h2, h3, h4⟩)
      · exact ⟨by omega, h2, h3⟩
      · subst h1
        exact ⟨by omega, h3, h4⟩
    · rintro ⟨h1, h2, h3⟩
      by_cases hM : p.1 = M
      · subst hM
        have := Nat.and_le_right (n := p.2) (m := p.1)
        exact .inr ⟨rfl, by omega, h2, h3⟩
      · exact .inl ⟨by omega, h2, h3⟩
/-- What a part that is no prime has: a bit that may go. -/
theorem pb_no {f : Nat → Bool} {N m v : Nat} : ∀ {n : Nat}, pb f N m v n = false → ∃ i, i < n ∧ m &&& 2 ^ i ≠ 0 ∧ IM f N (m ^^^ (m &&& 2 ^ i)) (v ^^^ (v &&& 2 ^ i)) = true
  | 0, h => by cases h
  | n + 1, h => by
    unfold pb at h
    rw [Bool.and_eq_false_iff] at h
    rcases h with h | h
    · obtain ⟨i, h1, h2⟩ := pb_no h
      exact ⟨i, by omega, h2⟩
    · simp only [Bool.or_eq_false_iff, beq_eq_false_iff_ne, Bool.not_eq_false'] at h
      exact ⟨n, by omega, h⟩
end Go.Proofs.YtnfboopfpkaeaaaDoor
namespace Go.Proofs.YtnfboopfpkaeaaaDoor
open Go Go.Eng Nim
set_option maxRecDepth 100000
theorem part_more {x m v b : Nat} (h : x &&& m = v) : x &&& (m ^^^ (m &&& b)) = v ^^^ (v &&& b) := by
  subst h
  refine Nat.eq_of_testBit_eq fun j => ?_
  simp only [Nat.testBit_and, Nat.testBit_xor]
  cases x.testBit j <;> cases m.testBit j <;> cases b.testBit j <;> rfl
/-- Every implicant lies in a prime one. -/
theorem prime_over (f : Nat → Bool) (n : Nat) (hn : n ≤ 6) : ∀ k m, m < k → m < 2 ^ n → ∀ v, v &&& m = v → IM f (2 ^ n) m v = true → ∃ p ∈ accP (prm f (2 ^ n) n) (2 ^ n), ∀ x, x &&& m = v → inP p x = true := by
  have hp64 : 2 ^ n ≤ 64 := Nat.pow_le_pow_right (n := 2) (by decide) hn
  intro k
  induction k with
  | zero => intro m h; omega
  | succ k ih =>
    intro m hk hm v hs hI
    cases hb : pb f (2 ^ n) m v n with
    | true =>
      refine ⟨(m, v), (accP_mem _ _ _).2 ⟨hm, hs, ?_⟩, fun x hx => by unfold inP; rw [hx]; exact beq_self_eq_true _⟩
      unfold prm
      rw [hI, hb]; rfl
    | false =>
      obtain ⟨i, h1, h2, h3⟩ := pb_no hb
      have hi64 : 2 ^ i < 64 := Nat.lt_of_lt_of_le (Nat.pow_lt_pow_right (by decide) h1) hp64
      have hle := les (a := m) (b := 2 ^ i) (by omega) hi64
      have hne : m ^^^ (m &&& 2 ^ i) ≠ m := fun e => by
        have : m &&& 2 ^ i = 0 := by
          have e2 := congrArg (fun z => m ^^^ z) e
          simp only [← Nat.xor_assoc, Nat.xor_self, Nat.zero_xor] at e2
          exact e2
        exact h2 this
      obtain ⟨p, hp, hx⟩ := ih (m ^^^ (m &&& 2 ^ i)) (by omega) (by omega) (v ^^^ (v &&& 2 ^ i)) (sub_less hs) h3
      exact ⟨p, hp, fun x h => hx x (part_more h)⟩
end Go.Proofs.YtnfboopfpkaeaaaDoor
namespace Go.Proofs.YtnfboopfpkaeaaaDoor
open Go Go.Eng Nim
set_option maxRecDepth 100000
/-- A true input that is not covered. -/
def lft (f : Nat → Bool) (N : Nat) (d : Nat → Bool) (x : Nat) : Bool := decide (x < N) && f x && !d x
def lfp (f : Nat → Bool) (N : Nat) (d : Nat → Bool) (j : Nat) : Bool := lft f N d (2 * j) || lft f N d (2 * j + 1)
/-- How many pairs of inputs have one. -/
def meas (f : Nat → Bool) (N : Nat) (d : Nat → Bool) : Nat := ((List.range 8).filter (lfp f N d)).length
theorem filter_less {l : List Nat} {q r : Nat → Bool} (h : ∀ j, q j = true → r j = true) {j0 : Nat} (h0 : j0 ∈ l) (h1 : r j0 = true) (h2 : q j0 = false) : (l.filter q).length < (l.filter r).length := by
  have e : l.filter q = (l.filter r).filter q := by
    rw [List.filter_filter]
    apply List.filter_congr
    intro j _
    cases hq : q j with
    | false => simp
    | true => simp [h j hq]
  rw [e, List.length_filter_lt_length_iff_exists]
  exact ⟨j0, List.mem_filter.2 ⟨h0, h1⟩, by simp [h2]⟩
theorem srch_in (f : Nat → Bool) (N : Nat) (hN : N ≤ 16) (L : List (Nat × Nat)) (hL : ∀ x, x < N → f x = true → ∃ p ∈ L, inP p x = true ∧ ∀ y, y < N → y / 2 = x / 2 → f y = true → inP p y = true) :
    ∀ (k : Nat) (sm : List (Nat × Nat)), meas f N (don sm) ≤ k → (srch f N L k sm).isSome = true := by
  have less : ∀ (sm : List (Nat × Nat)) (x : Nat), fs1 f (don sm) N 0 = some x → ∃ p ∈ L, inP p x = true ∧ meas f N (don (sm ++ [p])) < meas f N (don sm) := fun sm x e => by
    obtain ⟨h1, h2, _, h4⟩ := fs1_some N 0 x e
    obtain ⟨p, hp, hx, hy⟩ := hL x (by omega) h1
    have gone : ∀ y, y / 2 = x / 2 → lft f N (don (sm ++ [p])) y = false := fun y hxy => by
      unfold lft
      rw [don_app]
      by_cases hyN : y < N
      · cases hf : f y with
        | false => simp
        | true => rw [hy y hyN hxy hf]; simp
      · simp [hyN]
    have mono : ∀ y, lft f N (don (sm ++ [p])) y = true → lft f N (don sm) y = true := fun y h => by
      unfold lft at h ⊢
      rw [don_app] at h
      revert h
      cases decide (y < N) <;> cases f y <;> cases don sm y <;> cases inP p y <;> simp
    have here : lft f N (don sm) x = true := by
      unfold lft
      rw [h1, h2, decide_eq_true (show x < N by omega)]; rfl
    refine ⟨p, hp, hx, filter_less (fun j hj => ?_) (j0 := x / 2) (List.mem_range.2 (by omega)) ?_ ?_⟩
    · unfold lfp at hj ⊢
      rw [Bool.or_eq_true] at hj ⊢
      exact hj.imp (mono _) (mono _)
    · unfold lfp
      rw [Bool.or_eq_true]
      rcases (by omega : x = 2 * (x / 2) ∨ x = 2 * (x / 2) + 1) with hh | hh
      · exact .inl (by rw [← hh]; exact here)
      · exact .inr (by rw [← hh]; exact here)
    · unfold lfp
      rw [gone (2 * (x / 2)) (by omega), gone (2 * (x / 2) + 1) (by omega)]; rfl
  intro k
  induction k with
  | zero =>
    intro sm hm
    rw [srch]
    cases e : fs1 f (don sm) N 0 with
    | none => rfl
    | some x =>
      obtain ⟨p, _, _, h⟩ := less sm x e
      omega
  | succ k ih =>
    intro sm hm
    rw [srch]
    cases e : fs1 f (don sm) N 0 with
    | none => rfl
    | some x =>
      obtain ⟨p, hp, hx, h⟩ := less sm x e
      exact find_is hp (by rw [if_pos hx]; exact ih (sm ++ [p]) (by omega))
theorem meas_le (f : Nat → Bool) (N : Nat) (d : Nat → Bool) : meas f N d ≤ 8 := by
  have := List.length_filter_le (lfp f N d) (List.range 8)
  simpa [meas] using this
end Go.Proofs.YtnfboopfpkaeaaaDoor
namespace Go.Proofs.YtnfboopfpkaeaaaDoor
open Go Go.Eng Nim
set_option maxRecDepth 100000
noncomputable def pairB (N : Nat) : Bool := allB N fun x => allB N fun y => (Nat.beq (y &&& (N - 2)) (x &&& (N - 2)) == Nat.beq (y / 2) (x / 2)) && (Nat.beq (y &&& (N - 1)) y)
theorem pair_all : pairB 1 = true ∧ pairB 2 = true ∧ pairB 4 = true ∧ pairB 8 = true ∧ pairB 16 = true := ⟨by kernel_rfl, by kernel_rfl, by kernel_rfl, by kernel_rfl, by kernel_rfl⟩
theorem pair_ok (n : Nat) (hn : n ≤ 4) {x y : Nat} (hx : x < 2 ^ n) (hy : y < 2 ^ n) : (y &&& (2 ^ n - 2) = x &&& (2 ^ n - 2) ↔ y / 2 = x / 2) ∧ y &&& (2 ^ n - 1) = y := by
  have h : pairB (2 ^ n) = true := by
    obtain ⟨h0, h1, h2, h3, h4⟩ := pair_all
    rcases (by omega : n = 0 ∨ n = 1 ∨ n = 2 ∨ n = 3 ∨ n = 4) with rfl | rfl | rfl | rfl | rfl <;> assumption
  have := allB_ok (allB_ok h x hx) y hy
  simp only [Bool.and_eq_true, beq_iff_eq] at this
  obtain ⟨h1, h2⟩ := this
  refine ⟨?_, Nat.eq_of_beq_eq_true h2⟩
  rw [Bool.eq_iff_iff] at h1
  simpa using h1
theorem prime_two (f : Nat → Bool) (n : Nat) (hn : n ≤ 4) (x : Nat) (hx : x < 2 ^ n) (hf : f x = true) : ∃ p ∈ accP (prm f (2 ^ n) n) (2 ^ n), inP p x = true ∧ ∀ y, y < 2 ^ n → y / 2 = x / 2 → f y = true → inP p y = true := by
  by_cases hall : ∀ y, y < 2 ^ n → y / 2 = x / 2 → f y = true
  · have hv : x &&& (2 ^ n - 2) < 2 ^ n := Nat.lt_of_le_of_lt Nat.and_le_left hx
    have hvv : (x &&& (2 ^ n - 2)) &&& (2 ^ n - 2) = x &&& (2 ^ n - 2) := by rw [Nat.and_assoc, Nat.and_self]
    have fv := hall _ hv ((pair_ok n hn hx hv).1.1 hvv)
    obtain ⟨p, hp, hin⟩ := prime_over f n (by omega) (2 ^ n) (2 ^ n - 2) (by omega) (by omega) (x &&& (2 ^ n - 2)) hvv (by
      unfold IM
      rw [Bool.and_eq_true]
      refine ⟨al_iff.2 fun y hy => ?_, fv⟩
      unfold cq
      by_cases e : y &&& (2 ^ n - 2) = x &&& (2 ^ n - 2)
      · rw [hall y hy ((pair_ok n hn hx hy).1.1 e), fv]; simp
      · simp [e])
    exact ⟨p, hp, hin x rfl, fun y hy hxy _ => hin y ((pair_ok n hn hx hy).1.2 hxy)⟩
  · have hz : ∃ z, z < 2 ^ n ∧ z / 2 = x / 2 ∧ f z ≠ true := by
      refine Classical.byContradiction fun hh => hall fun y hy hxy => Classical.byContradiction fun hfy => hh ⟨y, hy, hxy, hfy⟩
    obtain ⟨z, hz1, hz2, hz3⟩ := hz
    have hzx : z ≠ x := fun e => hz3 (e ▸ hf)
    obtain ⟨p, hp, hin⟩ := prime_over f n (by omega) (2 ^ n) (2 ^ n - 1) (by omega) (by omega) x (pair_ok n hn hx hx).2 (by
      unfold IM
      rw [Bool.and_eq_true]
      refine ⟨al_iff.2 fun y hy => ?_, hf⟩
      unfold cq
      rw [(pair_ok n hn hx hy).2]
      by_cases e : y = x
      · rw [e]; simp
      · simp [e])
    refine ⟨p, hp, hin x (pair_ok n hn hx hx).2, fun y hy hxy hfy => ?_⟩
    have hyz : y ≠ z := fun e => hz3 (e ▸ hfy)
    have : y = x := by omega
    rw [this]
    exact hin x (pair_ok n hn hx hx).2
/-- The search finds, with eight parts at most. -/
theorem srch_8 (f : Nat → Bool) (n : Nat) (hn : n ≤ 4) : (srch f (2 ^ n) (accP (prm f (2 ^ n) n) (2 ^ n)) 8 []).isSome = true :=
  srch_in f (2 ^ n) (Nat.pow_le_pow_right (n := 2) (by decide) hn) _ (fun x hx hf => prime_two f n hn x hx hf) 8 [] (meas_le _ _ _)
end Go.Proofs.YtnfboopfpkaeaaaDoor
namespace Go.Proofs.YtnfboopfpkaeaaaDoor
open Go Go.Eng Nim
set_option maxRecDepth 100000
theorem least_ex (q : Nat → Bool) : ∀ k, q k = true → ∃ n, n ≤ k ∧ q n = true ∧ ∀ m, m < n → q m = false := by
  intro k
  induction k using Nat.strongRecOn with
  | _ k ih =>
    intro hk
    by_cases hm : ∃ m, m < k ∧ q m = true
    · obtain ⟨m, h1, h2⟩ := hm
      obtain ⟨n, a1, a2, a3⟩ := ih m h1 h2
      exact ⟨n, by omega, a2, a3⟩
    · refine ⟨k, Nat.le_refl _, hk, fun m h => ?_⟩
      rw [Bool.eq_false_iff]
      exact fun h2 => hm ⟨m, h, h2⟩
/-- The least number of parts, and what is found with it. -/
theorem srch_least (f : Nat → Bool) (n : Nat) (hn : n ≤ 4) : ∃ n0 res, n0 ≤ 8 ∧ srch f (2 ^ n) (accP (prm f (2 ^ n) n) (2 ^ n)) n0 [] = some res ∧ (∀ m, m < n0 → srch f (2 ^ n) (accP (prm f (2 ^ n) n) (2 ^ n)) m [] = none) ∧ res.length = n0 ∧ res.Nodup ∧ (∀ p ∈ res, p ∈ accP (prm f (2 ^ n) n) (2 ^ n)) ∧ ∀ y, y < 2 ^ n → f y = true → don res y = true := by
  obtain ⟨n0, h1, h2, h3⟩ := least_ex (fun k => (srch f (2 ^ n) (accP (prm f (2 ^ n) n) (2 ^ n)) k []).isSome) 8 (srch_8 f n hn)
  obtain ⟨res, hr⟩ := Option.isSome_iff_exists.1 h2
  obtain ⟨⟨m, a1, a2, a3⟩, a4, a5, a6⟩ := srch_spec f (2 ^ n) _ n0 [] res hr
  have hm : m = n0 := by
    rcases Nat.lt_or_ge m n0 with hlt | hge
    · have := h3 m hlt
      rw [a3] at this
      cases this
    · omega
  refine ⟨n0, res, h1, hr, fun k hk => ?_, by rw [a2, hm]; simp, a5 List.nodup_nil, fun p hp => (a4 p hp).resolve_left (by simp), a6⟩
  have := h3 k hk
  simpa using this
end Go.Proofs.YtnfboopfpkaeaaaDoor
namespace Go.Proofs.YtnfboopfpkaeaaaDoor
open Go Go.Eng Nim
set_option maxRecDepth 100000
def toZ (l : List (Nat × Nat)) : List (Int × Int) := l.map fun p => (Int.ofNat p.1, Int.ofNat p.2)
theorem toZ_get (l : List (Nat × Nat)) {j : Nat} (hj : j < l.length) : (toZ l).getD j (0, 0) = (Int.ofNat l[j].1, Int.ofNat l[j].2) := by
  unfold toZ
  simp [List.getD, List.getElem?_map, List.getElem?_eq_getElem hj]
/-- A found list, sorted, is a cover as the law asks for it. -/
theorem gdp_of (f : Nat → Bool) (n : Nat) (res qs : List (Nat × Nat)) (P : qs.Perm res) (S : Srt qs) (nd : res.Nodup) (hL : ∀ p ∈ res, p ∈ accP (prm f (2 ^ n) n) (2 ^ n)) (hc : ∀ y, y < 2 ^ n → f y = true → don res y = true) : GdP f (2 ^ n) (toZ qs) := by
  have st := srt_strict S ((P.nodup_iff).2 nd)
  refine ⟨fun j hj => ?_, fun x hx hf => ?_⟩
  · have hj : j < qs.length := by simpa [toZ] using hj
    refine ⟨?_, fun h0 => ?_⟩
    · rw [toZ_get qs hj]
      obtain ⟨h1, h2, h3⟩ := (accP_mem _ _ _).1 (hL qs[j] (P.mem_iff.1 (List.getElem_mem hj)))
      unfold prm at h3
      rw [Bool.and_eq_true] at h3
      unfold okp
      have d1 : decide ((0 : Int) ≤ (Int.ofNat qs[j].1, Int.ofNat qs[j].2).1) = true := decide_eq_true (Int.natCast_nonneg _)
      have d2 : decide ((Int.ofNat qs[j].1, Int.ofNat qs[j].2).1 < Int.ofNat (2 ^ n)) = true := decide_eq_true (Int.ofNat_lt.2 h1)
      have d3 : decide ((0 : Int) ≤ (Int.ofNat qs[j].1, Int.ofNat qs[j].2).2) = true := decide_eq_true (Int.natCast_nonneg _)
      rw [d1, d2, d3]
      show (true && true && true && (qs[j].2 &&& qs[j].1 == qs[j].2) && IM f (2 ^ n) qs[j].1 qs[j].2) = true
      rw [h3.1, h2]
      simp
    · rw [toZ_get qs hj, toZ_get qs (show j - 1 < qs.length by omega)]
      exact (c2_lt qs[j - 1] qs[j]).2 (List.pairwise_iff_getElem.1 st (j - 1) j (by omega) hj (by omega))
  · have h1 := hc x hx hf
    unfold don at h1
    obtain ⟨p, hp, hin⟩ := List.any_eq_true.1 h1
    refine ⟨(Int.ofNat p.1, Int.ofNat p.2), List.mem_map.2 ⟨p, P.mem_iff.2 hp, rfl⟩, ?_⟩
    unfold inZ
    unfold inP at hin
    have : x &&& p.1 = p.2 := by simpa using hin
    show (Int.ofNat (x &&& p.1) == Int.ofNat p.2) = true
    rw [this]
    exact beq_self_eq_true _
end Go.Proofs.YtnfboopfpkaeaaaDoor
namespace Go.Proofs.YtnfboopfpkaeaaaDoor
open Go Go.Eng Nim
set_option maxRecDepth 100000
set_option maxHeartbeats 4000000
/-- Appending to an empty slice that has no room. -/
theorem appendEmpty {P : Program} {h : Hp} {t e : TypeId} {x : Value} {vs : List Value} {i : Nat} {opn : Bool} (hT : SlT P t e) (hi : h.get i = some (.cells [] e opn)) (hx : Rds h x vs) (hv : vs.all scalar = true) (h1 : vs ≠ []) (hn : vs.length < 16777216) :
    appendOp P h t (.slice (some ⟨i, 0, none⟩) 0 0) x = some (.slice (some ⟨h.next, 0, none⟩) vs.length (2 * vs.length + 1), h.new (.cells vs e true)) := by
  obtain ⟨inf, hi1, hi2⟩ := hT.i
  obtain ⟨z, hz1, hz2⟩ := hT.z
  obtain ⟨a, c, hsh⟩ := hx.shape
  have hlen : lenV x = some vs.length := by rw [hsh]; rfl
  have hel : elems h 1 vs.length x = some vs := by
    rcases hx with ⟨⟨a, rfl⟩, rfl⟩ | ⟨i, off, c, rfl, hr⟩
    · exact absurd rfl h1
    · cases vs with
      | nil => exact absurd rfl h1
      | cons v r => simp only [elems, List.length_cons, Nat.mul_one]; exact (hr (by simp)).2
  cases vs with
  | nil => exact absurd rfl h1
  | cons v r =>
    simp only [List.length_cons] at hlen hel hn ⊢
    have b1 : Nat.ble (0 + (r.length + 1)) most = true := Nat.ble_eq_true_of_le (by unfold most; omega)
    have b2 : Nat.ble (0 + (r.length + 1)) (0 / 2) = false := by
      cases hb : Nat.ble (0 + (r.length + 1)) (0 / 2) with
      | false => rfl
      | true => have := Nat.le_of_ble_eq_true hb; omega
    have b3 : loadN h i 0 (0 * 1) = some [] := by
      unfold loadN
      rw [hi]
      rfl
    have b4 : Nat.beq (0 % 2) 0 = true := rfl
    simp only [appendOp, hT.u, hT.s, hi1, hz1, hlen, hel, hz2, hi2, hv, b1, b2, b3, b4, List.nil_append]
    rw [Nat.zero_add]
theorem cloneB_of (v : Nat → Bool) (N lf m b c : Nat) (hN : 1 ≤ N) (hN2 : N ≤ 64) (h : Hp) (A : ArB b N v h) :
    ∃ x h', Ev lf (m + 1) 39 [.slice (some ⟨b, 0, none⟩) N c] h = some (x, h') ∧ ∃ b', x = .slice (some ⟨b', 0, none⟩) N (2 * N + 1) ∧ h.next ≤ b' ∧ h.Ext h' ∧ ArB b' N v h' := by
  refine fnS_ok (Q := fun x h' => ∃ b', x = .slice (some ⟨b', 0, none⟩) N (2 * N + 1) ∧ h.next ≤ b' ∧ h.Ext h' ∧ ArB b' N v h') ?_
  have X : h.Ext (h.new (.cells [] 4 false)) := Hp.Ext.new _ _
  have hl : (cellsF N fun x => Value.bool (v x)).length = N := cellsF_len _ _
  have e := appendEmpty (P := Tryd.prog) (h := h.new (.cells [] 4 false)) (i := h.next) slB (get_new _ _) ((A.rds c).ext X) (by simp [cellsF, scalar]) (fun hc => by rw [hc] at hl; simp at hl; omega) (by rw [hl]; omega)
  rw [hl] at e
  refine ok_go 3 ?_
  refine sy_call 0 (r := appendOp Tryd.prog (h.new (.cells [] 4 false)) 24 (.slice (some ⟨h.next, 0, none⟩) 0 0) (.slice (some ⟨b, 0, none⟩) N c)) (v := .slice (some ⟨h.next + 1, 0, none⟩) N (2 * N + 1)) (h' := (h.new (.cells [] 4 false)).new (.cells (cellsF N fun x => Value.bool (v x)) 4 true)) (by kernel_rfl) e ?_
  refine ok_go 0 ?_
  exact sy_done 0 (v := .slice (some ⟨h.next + 1, 0, none⟩) N (2 * N + 1)) (h := (h.new (.cells [] 4 false)).new (.cells (cellsF N fun x => Value.bool (v x)) 4 true)) (by kernel_rfl) ⟨h.next + 1, rfl, Nat.le_succ _, X.trans (Hp.Ext.new _ _), ⟨Nat.lt_succ_self _, true, get_new _ _⟩⟩
end Go.Proofs.YtnfboopfpkaeaaaDoor
namespace Go.Proofs.YtnfboopfpkaeaaaDoor
open Go Go.Eng Nim
set_option maxRecDepth 100000
set_option maxHeartbeats 4000000
theorem rp_all : ∀ n, n ≤ 4 → ((rp n).all fun r => r.all fun x => Nat.blt x n) = true ∧ (rp n).length ≠ 0 := by
  intro n hn
  rcases (by omega : n = 0 ∨ n = 1 ∨ n = 2 ∨ n = 3 ∨ n = 4) with rfl | rfl | rfl | rfl | rfl <;> decide +kernel
theorem rcheck_of (N n : Nat) (a : Option Addr) (c lf m : Nat) (h : Hp) (bt : ∀ h, Ev lf m 45 [J N] h = some (J n, h)) : Ev lf (m + 1) 33 [.slice a N c] h = some (J 0, h) := by
  refine fn_eq ?_
  refine ok_go 1 ?_
  refine sy_call 0 (by kernel_rfl) (bt h) ?_
  refine ok_go 2 ?_
  exact sy_done 0 (v := J 0) (h := h) (by kernel_rfl) ⟨rfl, rfl⟩
/-- What the law calls, all at one level. -/
structure UpC (lf m : Nat) : Prop where
  hlf : 5000 ≤ lf
  U : UpP lf m
  b4 : ∀ z, ∃ k, k ≤ 4 ∧ ∀ h, Ev lf m 6 [I z, J 4] h = some (J k, h)
  cf : ∀ f n, n ≤ 4 → ∃ n0, n0 ≤ 8 ∧ (∀ b c h, ArB b (2 ^ n) f h → ∃ x h', Ev lf m 13 [.slice (some ⟨b, 0, none⟩) (2 ^ n) c] h = some (x, h') ∧ Exc [b] h h' ∧ ArB b (2 ^ n) f h' ∧ ∃ v qs, x = .tuple #[v, J 0] ∧ qs.length = n0 ∧ Sl2 h' 23 v qs ∧ GdP f (2 ^ n) (toZ qs) ∧ ∀ p ∈ qs, p.1 < 64 ∧ p.2 < 64) ∧
    ∀ b c h, ArB b (2 ^ n) f h → ∃ y h', Ev lf m 16 [.slice (some ⟨b, 0, none⟩) (2 ^ n) c] h = some (y, h') ∧ y = J n0 ∧ h.Ext h'
  ris : ∀ f n b c v l h, n ≤ 4 → l.length ≤ 200 → ArB b (2 ^ n) f h → RdZ h v l → ∃ y h', Ev lf m 14 [.slice (some ⟨b, 0, none⟩) (2 ^ n) c, v] h = some (y, h') ∧ h.Ext h' ∧ ∃ t, y = .bool t ∧ (t = true ↔ GdP f (2 ^ n) l)
  is : ∀ f n b c v l h, n ≤ 4 → l.length ≤ 200 → (∀ z ∈ l, z.2 < 2 ^ 63) → ArB b (2 ^ n) f h → RdZ h v l → ∃ y h', Ev lf m 15 [.slice (some ⟨b, 0, none⟩) (2 ^ n) c, v] h = some (y, h') ∧ h.Ext h' ∧ ∃ t, y = .bool t ∧ (t = true ↔ GdP f (2 ^ n) l)
  tn : ∀ f n b c h, n ≤ 4 → ArB b (2 ^ n) f h → ∃ v h', Ev lf m 17 [.slice (some ⟨b, 0, none⟩) (2 ^ n) c] h = some (v, h') ∧ ∃ b cb, v = .tuple #[.slice (some ⟨b, 0, none⟩) (2 ^ n) cb, J 0] ∧ h.next ≤ b ∧ h.Ext h' ∧ ArB b (2 ^ n) (twF f n) h'
  rt : ∀ f n b c h, n ≤ 4 → ArB b (2 ^ n) f h → ∃ v h', Ev lf m 19 [.slice (some ⟨b, 0, none⟩) (2 ^ n) c] h = some (v, h') ∧ ∃ b cb, v = .slice (some ⟨b, 0, none⟩) (2 ^ n) cb ∧ h.Ext h' ∧ ArB b (2 ^ n) (twF f n) h'
  bo : ∀ f N a ca b cb h, N ≤ 64 → ArB a N f h → ArB b N f h → Ev lf m 18 [.slice (some ⟨a, 0, none⟩) N ca, .slice (some ⟨b, 0, none⟩) N cb] h = some (.bool true, h)
theorem upC (k : Nat) : UpC 100000 (k + 200) where
  hlf := by decide
  U := upP (k + 140)
  b4 := fun z => by
    obtain ⟨j, hj, e⟩ := bits4_of z
    exact ⟨j, hj, fun h => e 100000 (k + 199) h⟩
  cf := fun f n hn => by
    have hp16 : 2 ^ n ≤ 16 := Nat.pow_le_pow_right (n := 2) (by decide) hn
    have hp0 := Nat.two_pow_pos n
    obtain ⟨n0, res, hn0, hres, hmin, hlen, hnd, hin, hcov⟩ := srch_least f n hn
    have hL := accP_len (prm f (2 ^ n) n) (2 ^ n) (by omega)
    have hsm := accP_small (prm f (2 ^ n) n) (2 ^ n) (by omega)
    refine ⟨n0, hn0, fun b c h A => ?_, fun b c h A => ?_⟩
    · obtain ⟨x, h', e, E, A', v, qs, rfl, P, S, K⟩ := cover_of f (2 ^ n) 100000 (k + 199) (by decide) b c h A _ n0 (by omega) res hres (by omega) hmin
        (few4_of n hn 100000 (k + 198) (some ⟨b, 0, none⟩) c h (check_of n (some ⟨b, 0, none⟩) c 100000 (k + 197) h fun h => size_of n (by omega) (k + 187) h))
        (fun bd h A D => primes_of f n (by omega) 100000 (k + 192) b c bd (by decide) h A D fun F mm v h hF => io_of f n (by omega) b c bd F (by omega) mm v h)
        (fun j bo l v0 h hj A K hbo hg => by
          have e := cov_all f (2 ^ n) (by omega) b c bo l _ (by omega) j (k + 169 - 4 * j) [] 0 (.slice none 0 0) v0 h (by simpa using hj) rfl A K (fun p hp => by cases hp) hbo hg
          rwa [show 4 * j + (k + 169 - 4 * j) + 30 = k + 199 by omega] at e)
        (fun l ps h hps O => by
          obtain ⟨v, h', e, O', X, _⟩ := pairs_of 100000 (k + 198) (by decide) h l ps hps O
          exact ⟨v, h', e, O', X⟩)
      refine ⟨_, h', e, E, A', v, qs, rfl, by rw [P.length_eq, hlen], K, gdp_of f n res qs P S hnd hin hcov, fun p hp => hsm p (hin p (P.mem_iff.1 hp))⟩
    · exact fewest_of f (2 ^ n) (by omega) 100000 (k + 199) (by decide) b c h A _ n0 (by omega) (by rw [hres]; rfl) hmin (fun h A => (upP (k + 139)).rp f n b c h (by omega) A)
        (fun j bd cd d l h hj A B hd K => by
          have e := rcov_all f (2 ^ n) (by omega) hp0 b c l _ (by omega) hsm j (k + 198 - j) [] bd cd d h hj A B hd K
          rwa [show j + (k + 198 - j) + 1 = k + 199 by omega] at e)
  ris := fun f n b c v l h hn hl A R => by
    have hp16 : 2 ^ n ≤ 16 := Nat.pow_le_pow_right (n := 2) (by decide) hn
    exact riscov_of f (2 ^ n) hp16 100000 (k + 199) (by decide) b c v l hl h A R (fun h => rcheck_of (2 ^ n) n _ c 100000 (k + 198) h fun h => rbits_of n (by omega) (k + 178) h) (fun z h A => gimpl_of f (2 ^ n) (by omega) 100000 (k + 198) (by decide) b c z h A)
  is := fun f n b c v l h hn hl hr A R => by
    have hp16 : 2 ^ n ≤ 16 := Nat.pow_le_pow_right (n := 2) (by decide) hn
    exact iscov_of f (2 ^ n) hp16 100000 (k + 199) (by decide) b c v l hl hr h A R (fun h => check_of n (some ⟨b, 0, none⟩) c 100000 (k + 198) h fun h => size_of n (by omega) (k + 188) h)
      (fun a b c d x y h X Y => cmp2_of 100000 (k + 196) (by decide) a b c d x y h X Y)
      (fun bd mm v h hm hv A D => io_of f n (by omega) b c bd (k + 199) (by omega) mm v h hm hv A D)
      (fun b1 c1 v h B A => equal_of 100000 (k + 198) (2 ^ n) (by decide) (by omega) b1 c1 b c v f h B A)
  tn := fun f n b c h hn A => by
    have hp16 : 2 ^ n ≤ 16 := Nat.pow_le_pow_right (n := 2) (by decide) hn
    have e := twin_of f n hn 100000 (k + 195 - n) (by decide) b c h A
      (fun h => by
        have e := few4_of n hn 100000 (k + 198) (some ⟨b, 0, none⟩) c h (check_of n (some ⟨b, 0, none⟩) c 100000 (k + 197) h fun h => size_of n (by omega) (k + 187) h)
        rwa [show k + 198 + 1 = k + 195 - n + n + 4 by omega] at e)
      (fun h => by
        have e := size_of n (by omega) (k + 189) h
        rwa [show k + 189 + 10 = k + 195 - n + n + 4 by omega] at e)
      (fun v b c j h A => cloneB_of v (2 ^ n) 100000 j b c (Nat.two_pow_pos n) (by omega) h A)
      (fun b1 c1 b2 c2 v w h A B => comp_of 100000 (k + 195 - n) (2 ^ n) (by decide) hp16 b1 c1 b2 c2 v w h A B fun a b h => by
        have e := less2_of a b (k + 183 - n) h
        rwa [show k + 183 - n + 12 = k + 195 - n by omega] at e)
    rwa [show k + 195 - n + n + 5 = k + 200 by omega] at e
  rt := fun f n b c h hn A => by
    have hp16 : 2 ^ n ≤ 16 := Nat.pow_le_pow_right (n := 2) (by decide) hn
    obtain ⟨v, h', e, b', cb, w, rfl, X, A', B⟩ := rtwin_of f n hn 100000 (k + 199) (by decide) b c h A (fun h => rbits_of n (by omega) (k + 179) h)
      (fun h => by
        have e := perms_of 100000 (k + 198 - n) (by decide) n hn h
        rwa [show k + 198 - n + n + 1 = k + 199 by omega] at e)
      (fun mask p pa pc o h hm hp A R => by
        exact turned_of f n hn 100000 (k + 198) (by decide) b c mask hm p (rp_row n p hp) (fun x hx => by
          have h1 := (List.all_eq_true.1 ((rp_all n hn).1)) p hp
          exact Nat.le_of_ble_eq_true (List.all_eq_true.1 h1 x hx)) pa pc o h A R)
      (fun b1 c1 b2 c2 v w h A B => rless_of 100000 (k + 198) (2 ^ n) (by decide) hp16 b1 c1 b2 c2 v w h A B)
    have hs := twin_same f n hn w B
    refine ⟨_, h', e, b', cb, rfl, X, ?_⟩
    obtain ⟨o, eo⟩ := A'.get
    exact ⟨A'.lt, o, by rw [eo]; congr 2; exact cellsF_congr fun i hi => by rw [hs i hi]⟩
  bo := fun f N a ca b cb h hN A B => bools_of f N 100000 (k + 199) a ca b cb hN (by decide) h A B
end Go.Proofs.YtnfboopfpkaeaaaDoor
namespace Go.Proofs.YtnfboopfpkaeaaaDoor
open Go Go.Eng Nim
set_option maxRecDepth 100000
set_option maxHeartbeats 4000000
theorem slz27 : SlTz Tryd.prog 27 23 2 := ⟨by kernel_rfl, by kernel_rfl, ⟨_, rfl, by kernel_rfl⟩, ⟨_, rfl, by kernel_rfl⟩, by decide⟩
theorem flatZ_all : ∀ l, (flatZ l).all scalar = true
  | [] => rfl
  | p :: r => by simp only [flatZ, List.all_cons, flatZ_all r, Bool.and_true]; rfl
theorem app_Z {h : Hp} {x : Value} {l : List (Int × Int)} (hx : RdZ h x l) (hn : l.length ≤ 1000) : ∃ l' h', appendOp Tryd.prog h 27 (.slice none 0 0) x = some (l', h') ∧ RdZ h' l' l ∧ h.Ext h' := by
  rcases hx with ⟨rfl, a, c, rfl⟩ | ⟨i, off, c, rfl, hne, hi, hr⟩
  · refine ⟨.slice none 0 0, h, ?_, .inl ⟨rfl, none, 0, rfl⟩, Hp.Ext.refl _⟩
    rcases a with _ | ⟨i, off, _ | q⟩ <;> kernel_rfl
  · cases l with
    | nil => exact absurd rfl hne
    | cons z r =>
      have W : Sto h h ([] ++ oent 0 23 []) := Sto.start h
      have hel : elems h 2 (r.length + 1) (.slice (some ⟨i, off, none⟩) (r.length + 1) c) = some (flatZ (z :: r)) := by
        simp only [elems]; exact hr
      obtain ⟨H', e, hn', V⟩ := append_sto (n := 0) (m := r.length) (i := 0) (zs := []) (new := flatZ (z :: r)) (x := .slice (some ⟨i, off, none⟩) (r.length + 1) c) W slz27 rfl (flatZ_len _) rfl hel (flatZ_all _) (by simp at hn; omega)
      refine ⟨_, H', e, ?_, V.ext⟩
      rw [Nat.zero_add]
      rw [List.nil_append, List.nil_append] at V
      refine .inr ⟨h.next, 0, _, rfl, by simp, by omega, ?_⟩
      have hg := V.get 0 rfl
      unfold loadN
      rw [hg]
      show takeN ((z :: r).length * 2) (flatZ (z :: r)) = _
      rw [← flatZ_len]
      exact takeN_all _
theorem flatZ_drop (z : Int × Int) (r : List (Int × Int)) : (flatZ (z :: r)).drop 2 = flatZ r := rfl
theorem tail_Z {h : Hp} {v : Value} {ps : List (Nat × Nat)} (O : OpenP h 23 v ps) (hne : ps ≠ []) : ∃ w, sliceOp Tryd.prog 27 v (some (J 1)) none none = some w ∧ RdZ h w ((toZ ps).drop 1) := by
  rcases O with ⟨_, h0⟩ | ⟨i, rfl, _, hi, hg⟩
  · exact absurd h0 hne
  · cases ps with
    | nil => exact absurd rfl hne
    | cons p r =>
      have u : Tryd.prog.underlying 27 = some (.slice 23) := by kernel_rfl
      have s : sizeT Tryd.prog 23 = some 2 := by kernel_rfl
      cases r with
      | nil => exact ⟨.slice (some ⟨i, 0, some 2⟩) 0 1, by simp only [sliceOp, u, s]; kernel_rfl, .inl ⟨rfl, some ⟨i, 0, some 2⟩, 1, rfl⟩⟩
      | cons q r =>
        have hc : (2 * (r.length + 1 + 1) + 1) / 2 = r.length + 1 + 1 := by omega
        have hm : (2 * (r.length + 1 + 1) + 1) % 2 = 1 := by omega
        have hb : Nat.ble 1 (r.length + 1 + 1) = true := Nat.ble_eq_true_of_le (by omega)
        have he : Nat.beq (r.length + 1 + 1) 1 = false := rfl
        refine ⟨.slice (some ⟨i, 0 + 1 * 2, none⟩) (r.length + 1 + 1 - 1) (2 * (r.length + 1 + 1 - 1) + 1), ?_, .inr ⟨i, 0 + 1 * 2, 2 * (r.length + 1 + 1 - 1) + 1, by simp [toZ], by simp [toZ], hi, ?_⟩⟩
        · simp only [sliceOp, u, s, List.length_cons, sliceV, hc, hm, Go.Eng.bound, Option.isSome_none, show natOf (J 1) = some 1 from rfl, hb, he, Bool.false_eq_true, if_false]
          rfl
        · unfold loadN
          rw [hg]
          show takeN _ ((flat2 (p :: q :: r)).drop 2) = _
          have : (flat2 (p :: q :: r)).drop 2 = flatZ ((toZ (p :: q :: r)).drop 1) := by
            rw [← flat_map]; rfl
          rw [this, ← flatZ_len]
          exact takeN_all _
theorem rowP_len2 (pr : Nat → Nat → Bool) (m : Nat) : ∀ k, (rowP pr m k).length ≤ k
  | 0 => Nat.le_refl 0
  | k + 1 => by
    have := rowP_len2 pr m k
    rw [rowP]
    split
    · rw [List.length_append, List.length_singleton]; omega
    · omega
theorem accP_len2 (pr : Nat → Nat → Bool) : ∀ M, 2 * (accP pr M).length ≤ M * (M + 1)
  | 0 => Nat.le_refl 0
  | M + 1 => by
    have h1 := accP_len2 pr M
    have h2 := rowP_len2 pr M (M + 1)
    rw [accP, List.length_append, Nat.add_mul]
    have : M * (M + 1 + 1) = M * (M + 1) + M := by rw [Nat.mul_add M (M + 1) 1, Nat.mul_one]
    rw [this]
    omega
end Go.Proofs.YtnfboopfpkaeaaaDoor
namespace Go.Proofs.YtnfboopfpkaeaaaDoor
open Go Go.Eng Nim
set_option maxRecDepth 100000
set_option maxHeartbeats 8000000
theorem sy_any {Q : Value → Hp → Prop} (n : Nat) {t : SA} {p : Value → Prop} {h' : Hp} (he : ∃ v, p v ∧ askR (goS n t) = some (v, h')) (hk : ∀ v, p v → Ok Q (askK (goS n t) v h')) : Ok Q t := by
  obtain ⟨v, hp, e⟩ := he
  exact ok_go n (ok_ask e (hk v hp))
theorem s4 (x a0 a1 : Int) (l : List (Int × Int)) (hl : l.length < 2 ^ 63) (hr : ∀ z ∈ l, z.2 < 2 ^ 63) (va : Option Addr) (vc lf m : Nat) (U : UpC lf m) (h : Hp) (T : Tab h) (R : RdZ h (.slice va l.length vc) l)
    (cut : (va = none ∧ l = [] ∧ vc = 0) ∨ ∃ a, va = some a ∧ ∀ K, K ≤ l.length → ∃ y, sliceOp Tryd.prog 27 (.slice (some a) l.length vc) none (some (J K)) none = some y ∧ RdZ h y (l.take K)) :
    ∃ H, Ev lf (m + 1) 4 [.int .u64 x, .agg #[I a0, I a1], .slice va l.length vc] h = some (.bool true, H) := by
  obtain ⟨n, hn, bt⟩ := U.b4 a0
  have hlf := U.hlf
  have hp16 : 2 ^ n ≤ 16 := Nat.pow_le_pow_right (n := 2) (by decide) hn
  refine fn_val ?_
  have X0 : h.Ext (h.new (.cells [I a0, I a1] 23 false)) := Hp.Ext.new _ _
  have gx := get_new h (.cells [I a0, I a1] 23 false)
  have nx : (h.new (.cells [I a0, I a1] 23 false)).next = h.next + 1 := rfl
  generalize hX : h.new (.cells [I a0, I a1] 23 false) = X at X0 gx nx
  refine ok_go 2 ?_
  refine sy_load 0 (r := loadT Tryd.prog (h.new (.cells [I a0, I a1] 23 false)) 3 (ptr h.next 0)) (h' := (h.new (.cells [I a0, I a1] 23 false))) (by kernel_rfl) (by rw [hX]; exact load1 agI gx rfl) ?_
  rw [hX]
  refine ok_go 0 ?_
  refine sy_call 0 (by kernel_rfl) (bt X) ?_
  refine ok_go 1 ?_
  refine sy_load 0 (r := loadT Tryd.prog X 3 (ptr h.next 1)) (h' := X) (by kernel_rfl) (load1 agI gx rfl) ?_
  obtain ⟨_, h1, e1, b, f, rfl, hb, X1, A1⟩ := U.U.tb x n a1 X (by omega)
  refine ok_go 0 ?_
  refine sy_call 0 (by kernel_rfl) e1 ?_
  refine ok_go 0 ?_
  refine sy_need 0 [3] [⟨some (Eng.undef, X), Eng.undef, X⟩] (by kernel_rfl) ⟨rfl, trivial⟩ ?_
  have Y1 := X0.trans X1
  obtain ⟨_, h2, e2, ⟨p, rfl, O2, _⟩, E2, A2⟩ := U.U.pr f n b (2 * 2 ^ n) h1 (by omega) A1
  obtain ⟨n0, hn0, cov, few⟩ := U.cf f n hn
  obtain ⟨_, h3, e3, E3, A3, c, qs, rfl, hq, S3, G3, sm3⟩ := cov b (2 * 2 ^ n) h2 A2
  have hps := accP_small (prm f (2 ^ n) n) (2 ^ n) (by omega)
  have hlp := accP_len2 (prm f (2 ^ n) n) (2 ^ n)
  have hlp : (accP (prm f (2 ^ n) n) (2 ^ n)).length ≤ 136 := by
    have := Nat.mul_le_mul hp16 (show 2 ^ n + 1 ≤ 17 by omega)
    omega
  have Y3 : h.Ext h3 := ⟨by have := Y1.next; have := E2.next; have := E3.next; omega, fun j hj => by
    have := Y1.next; have := E2.next; have := X0.next
    rw [E3.get j (by omega) (by simp; omega), E2.get j (by omega) (by simp; omega)]; exact Y1.get j hj⟩
  have O3 : OpenP h3 23 p (accP (prm f (2 ^ n) n) (2 ^ n)) := by
    rcases O2 with ⟨rfl, h0⟩ | ⟨i, rfl, hne, hi, hg⟩
    · exact .inl ⟨rfl, h0⟩
    · by_cases hib : i = b
      · subst hib
        obtain ⟨o, e⟩ := A2.get
        rw [e] at hg
        exact absurd hg (by
          intro hg
          injection hg with hg
          injection hg with hg1 hg2
          cases hg2)
      · exact .inr ⟨i, rfl, hne, by have := E3.next; omega, by rw [E3.get i hi (by simpa using hib)]; exact hg⟩
  have T3 : Tab h3 := T.ext Y3
  obtain ⟨P, hPe⟩ : ∃ P, accP (prm f (2 ^ n) n) (2 ^ n) = P := ⟨_, rfl⟩
  rw [hPe] at O2 O3 hps hlp
  refine ok_go 0 ?_
  refine sy_call 0 (by kernel_rfl) e2 ?_
  refine ok_go 2 ?_
  refine sy_call 0 (by kernel_rfl) e3 ?_
  refine ok_go 10 ?_
  obtain ⟨w, h4, e4, O4, X4⟩ := U.U.rp f n b (2 * 2 ^ n) h3 (by omega) A3
  refine sy_call 0 (by kernel_rfl) e4 ?_
  rw [hPe] at O4
  have e5 := U.U.sa h4 p w P (by omega) hps (O3.ext X4) O4
  refine ok_go 1 ?_
  refine sy_call 0 (by kernel_rfl) e5 ?_
  have S4 := S3.ext X4
  have hlq : (toZ qs).length = qs.length := by rw [toZ, List.length_map]
  have hlz : (toZ qs).length ≤ 200 := by omega
  have hrz : ∀ z ∈ toZ qs, z.2 < 2 ^ 63 := fun z hz => by
    obtain ⟨q, hq, rfl⟩ := List.mem_map.1 hz
    have := (sm3 q hq).2
    show Int.ofNat q.2 < 2 ^ 63
    have : (Int.ofNat q.2) = ((q.2 : Nat) : Int) := rfl
    omega
  obtain ⟨_, h5, e6, X5, t5, rfl, H5⟩ := U.ris f n b (2 * 2 ^ n) c (toZ qs) h4 hn hlz (A3.ext X4) S4.rz
  obtain rfl : t5 = true := H5.2 G3
  obtain ⟨_, h6, e7, X6, t6, rfl, H6⟩ := U.is f n b (2 * 2 ^ n) c (toZ qs) h5 hn hlz hrz ((A3.ext X4).ext X5) (S4.ext X5).rz
  obtain rfl : t6 = true := H6.2 G3
  obtain ⟨_, h7, e8, rfl, X7⟩ := few b (2 * 2 ^ n) h6 (((A3.ext X4).ext X5).ext X6)
  obtain ⟨ca, cc, rfl⟩ := S3.rz.shape
  refine ok_go 6 ?_
  refine sy_call 0 (by kernel_rfl) e6 ?_
  refine ok_go 6 ?_
  refine sy_call 0 (by kernel_rfl) e7 ?_
  refine ok_go 8 ?_
  refine sy_call 0 (by kernel_rfl) e8 ?_
  refine ok_go 3 ?_
  refine sy_no 0 (b := Int.ofNat (toZ qs).length != Int.ofNat n0) (by kernel_rfl) (by rw [hlq, hq]; exact bne_self_eq_false _) ?_
  have Y7 : h.Ext h7 := Y3.trans (X4.trans (X5.trans (X6.trans X7)))
  have Z7 : h3.Ext h7 := X4.trans (X5.trans (X6.trans X7))
  have hK : (if (10 : Int) < Int.ofNat l.length then 10 else Int.ofNat l.length) = Int.ofNat (min l.length 10) := by
    show (if (10 : Int) < (l.length : Int) then 10 else (l.length : Int)) = ((min l.length 10 : Nat) : Int)
    split <;> omega
  have hKw : min l.length 10 ≤ l.length := Nat.min_le_left _ _
  have hK10 : min l.length 10 ≤ 10 := Nat.min_le_right _ _
  refine ok_go 2 ?_
  refine sy_any 0 (p := fun y => RdZ h7 y (l.take (min l.length 10))) (h' := h7) ?_ ?_
  · rcases cut with ⟨rfl, rfl, rfl⟩ | ⟨a, rfl, cut⟩
    · exact ⟨.slice none 0 0, .inl ⟨rfl, none, 0, rfl⟩, by kernel_rfl⟩
    · obtain ⟨y, ey, Y⟩ := cut _ hKw
      refine ⟨y, Y.ext Y7, (by kernel_rfl : _ = (sliceOp Tryd.prog 27 (.slice (some a) l.length vc) none (some (.int .i64 (if (10 : Int) < Int.ofNat l.length then 10 else Int.ofNat l.length))) none).map (·, h7)).trans ?_⟩
      rw [hK, ey]
      rfl
  generalize min l.length 10 = KK at hK10 hKw
  intro y Y
  obtain ⟨ya, yc, rfl⟩ := Y.shape
  obtain ⟨ow, h8, e9, R8, X8⟩ := app_Z Y (by rw [List.length_take]; omega)
  refine ok_go 0 ?_
  refine sy_call 0 (by kernel_rfl) e9 ?_
  have hlt0 : (l.take KK).length ≤ 200 := by rw [List.length_take]; omega
  have hrt0 : ∀ z ∈ l.take KK, z.2 < 2 ^ 63 := fun z hz => hr z (List.mem_of_mem_take hz)
  have A8 := A3.ext (Z7.trans X8)
  have O8 := O3.ext (Z7.trans X8)
  have T8 := T3.ext (Z7.trans X8)
  obtain ⟨pa, pc, rfl⟩ := O8.shape
  have hrP : ∀ z ∈ toZ P, z.2 < 2 ^ 63 := fun z hz => by
    obtain ⟨q, hq, rfl⟩ := List.mem_map.1 hz
    have := (hps q hq).2
    show Int.ofNat q.2 < 2 ^ 63
    have : (Int.ofNat q.2) = ((q.2 : Nat) : Int) := rfl
    omega
  have hlP : (toZ P).length ≤ 200 := by rw [toZ, List.length_map]; omega
  have RP : ∀ g, h8.Ext g → RdZ g (.slice pa P.length pc) (toZ P) := fun g X => (Sl2.of (O8.ext X)).rz
  refine ok_go 0 ?_
  refine sy_loop 0 lf h8 (α := Nat × Value × List (Int × Int)) (fun s => [(7, .slice (some ⟨b, 0, none⟩) (2 ^ n) (2 * 2 ^ n)), (8, .slice pa P.length pc), (12, s.2.1), (13, J s.1)])
    (fun s g => s.1 ≤ 3 ∧ h8.Ext g ∧ RdZ g s.2.1 s.2.2 ∧ s.2.2.length ≤ 200 ∧ ∀ z ∈ s.2.2, z.2 < 2 ^ 63) (fun s _ => 3 - s.1) (0, ow, l.take KK) (by kernel_rfl) (by kernel_rfl)
    ⟨by kernel_rfl, by kernel_rfl, by kernel_rfl, by kernel_rfl, trivial⟩ (show 3 - 0 < lf by omega) ⟨Nat.zero_le _, Hp.Ext.refl h8, R8, hlt0, hrt0⟩ ?_
  rintro m1 ⟨k, o, lo⟩ f1 g ⟨hk, Xg, Ro, hlo, hro⟩ ih
  dsimp only at hk Ro hlo hro
  have Ag := A8.ext Xg
  obtain ⟨oa, oc, rfl⟩ := Ro.shape
  rcases Nat.lt_or_ge k 3 with hk3 | hk3
  · obtain ⟨_, g1, e10, Xg1, t1, rfl, H1⟩ := U.is f n b (2 * 2 ^ n) _ lo g hn hlo hro Ag Ro
    obtain ⟨_, g2, e11, Xg2, t2, rfl, H2⟩ := U.ris f n b (2 * 2 ^ n) _ lo g1 hn hlo (Ag.ext Xg1) (Ro.ext Xg1)
    obtain rfl : t1 = t2 := by
      have := H1.trans H2.symm
      cases t1 <;> cases t2 <;> simp_all
    have Xg3 := Xg.trans (Xg1.trans Xg2)
    rcases (by omega : k = 0 ∨ k = 1 ∨ k = 2) with rfl | rfl | rfl
    · refine ok_go 2 ?_
      refine sy_call 0 (by kernel_rfl) e10 ?_
      refine ok_go 0 ?_
      refine sy_call 0 (by kernel_rfl) e11 ?_
      refine ok_go 1 ?_
      refine sy_no 0 (b := t1 != t1) (by kernel_rfl) (bne_self_eq_false _) ?_
      refine ok_go 7 ?_
      exact sy_next 0 _ g2 (by kernel_rfl) (by kernel_rfl) (ih (1, .slice pa P.length pc, toZ P) _ g2 ⟨by show 1 ≤ 3; omega, Xg3, RP g2 Xg3, hlP, hrP⟩ (show 3 - 1 < 3 - 0 by omega) ⟨by kernel_rfl, by kernel_rfl, by kernel_rfl, by kernel_rfl, trivial⟩)
    · refine ok_go 2 ?_
      refine sy_call 0 (by kernel_rfl) e10 ?_
      refine ok_go 0 ?_
      refine sy_call 0 (by kernel_rfl) e11 ?_
      refine ok_go 1 ?_
      refine sy_no 0 (b := t1 != t1) (by kernel_rfl) (bne_self_eq_false _) ?_
      refine ok_go 7 ?_
      rcases P.eq_nil_or_concat with hP0 | hP0
      · have hP0 : P.length = 0 := by rw [hP0]; rfl
        refine sy_no 0 (b := decide (Int.ofNat P.length > 0)) (by kernel_rfl) (by rw [hP0]; rfl) ?_
        refine ok_go 1 ?_
        exact sy_next 0 _ g2 (by kernel_rfl) (by kernel_rfl) (ih (2, .slice pa P.length pc, toZ P) _ g2 ⟨by show 2 ≤ 3; omega, Xg3, RP g2 Xg3, hlP, hrP⟩ (show 3 - 2 < 3 - 1 by omega) ⟨by kernel_rfl, by kernel_rfl, by kernel_rfl, by kernel_rfl, trivial⟩)
      · have hP1 : P ≠ [] := by obtain ⟨_, _, rfl⟩ := hP0; simp
        have hPl : 0 < P.length := List.length_pos_iff.2 hP1
        obtain ⟨tw, et, Rt⟩ := tail_Z (O8.ext Xg3) hP1
        obtain ⟨pi, hpi⟩ : ∃ i, pa = some ⟨i, 0, none⟩ := by
          rcases O8 with ⟨_, h0⟩ | ⟨i, hs, _⟩
          · exact absurd h0 hP1
          · injection hs with hs; exact ⟨i, hs⟩
        subst hpi
        obtain ⟨ta, tc, rfl⟩ := Rt.shape
        refine sy_yes 0 (b := decide (Int.ofNat P.length > 0)) (by kernel_rfl) (decide_eq_true (show (0 : Int) < (P.length : Int) by omega)) ?_
        refine ok_go 0 ?_
        refine sy_load 0 (r := sliceOp Tryd.prog 27 (.slice (some ⟨pi, 0, none⟩) P.length pc) (some (J 1)) none none) (h' := g2) (by kernel_rfl) et ?_
        refine ok_go 1 ?_
        exact sy_next 0 _ g2 (by kernel_rfl) (by kernel_rfl) (ih (2, .slice ta ((toZ P).drop 1).length tc, (toZ P).drop 1) _ g2 ⟨by show 2 ≤ 3; omega, Xg3, Rt, by rw [List.length_drop]; omega, fun z hz => hrP z (List.mem_of_mem_drop hz)⟩ (show 3 - 2 < 3 - 1 by omega) ⟨by kernel_rfl, by kernel_rfl, by kernel_rfl, by kernel_rfl, trivial⟩)
    · refine ok_go 2 ?_
      refine sy_call 0 (by kernel_rfl) e10 ?_
      refine ok_go 0 ?_
      refine sy_call 0 (by kernel_rfl) e11 ?_
      refine ok_go 1 ?_
      refine sy_no 0 (b := t1 != t1) (by kernel_rfl) (bne_self_eq_false _) ?_
      refine ok_go 7 ?_
      exact sy_next 0 _ g2 (by kernel_rfl) (by kernel_rfl) (ih (3, .slice pa P.length pc, toZ P) _ g2 ⟨by show 3 ≤ 3; omega, Xg3, RP g2 Xg3, hlP, hrP⟩ (show 3 - 3 < 3 - 2 by omega) ⟨by kernel_rfl, by kernel_rfl, by kernel_rfl, by kernel_rfl, trivial⟩)
  · obtain rfl : k = 3 := by omega
    obtain ⟨_, g3, e10, X9, rx, ri, rb, rfl, R1⟩ := U.U.ri f n b (2 * 2 ^ n) g (by omega) Ag (T8.ext Xg)
    obtain ⟨_, g4, e11, rfl, rx', ri', rb', rfl, R2⟩ := U.U.rr f n b (2 * 2 ^ n) g3 (by omega) (Ag.ext X9)
    obtain ⟨rfl, rfl, rfl⟩ := R1.uniq R2
    obtain ⟨_, g5, e12, bt, ct, rfl, _, X10, A10⟩ := U.tn f n b (2 * 2 ^ n) g4 hn (Ag.ext X9)
    obtain ⟨_, g6, e13, bu, cu, rfl, X11, A11⟩ := U.rt f n b (2 * 2 ^ n) g5 hn ((Ag.ext X9).ext X10)
    have e14 := U.bo (twF f n) (2 ^ n) bt ct bu cu g6 (by omega) (A10.ext X11) A11
    refine ok_go 2 ?_
    refine sy_call 0 (by kernel_rfl) e10 ?_
    refine ok_go 4 ?_
    refine sy_call 0 (by kernel_rfl) e11 ?_
    refine ok_go 3 ?_
    refine sy_call 0 (by kernel_rfl) e12 ?_
    refine ok_go 12 ?_
    refine sy_yes 0 (b := Int.ofNat rx == Int.ofNat rx) (by kernel_rfl) (beq_self_eq_true _) ?_
    refine ok_go 4 ?_
    refine sy_yes 0 (b := Int.ofNat ri == Int.ofNat ri) (by kernel_rfl) (beq_self_eq_true _) ?_
    refine ok_go 4 ?_
    refine sy_yes 0 (b := rb == rb) (by kernel_rfl) (beq_self_eq_true _) ?_
    refine ok_go 2 ?_
    refine sy_call 0 (by kernel_rfl) e13 ?_
    refine ok_go 1 ?_
    refine sy_call 0 (by kernel_rfl) e14 ?_
    refine ok_go 2 ?_
    refine sy_call 0 (by kernel_rfl) (U.U.aw g6) ?_
    refine ok_go 1 ?_
    exact sy_done 0 (v := .bool true) (h := g6) (by kernel_rfl) rfl
theorem said4 (x a0 a1 : Int) (l : List (Int × Int)) (hl : l.length < 2 ^ 63) (hr : ∀ z ∈ l, z.2 < 2 ^ 63) (va : Option Addr) (vc : Nat) (h : Hp) (T : Tab h) (R : RdZ h (.slice va l.length vc) l)
    (cut : (va = none ∧ l = [] ∧ vc = 0) ∨ ∃ a, va = some a ∧ ∀ K, K ≤ l.length → ∃ y, sliceOp Tryd.prog 27 (.slice (some a) l.length vc) none (some (J K)) none = some y ∧ RdZ h y (l.take K)) :
    ∃ H, evInv Tryd.prog orc 100000 1000 (.fn 4 [.int .u64 x, .agg #[I a0, I a1], .slice va l.length vc]) h = some (.bool true, H) := s4 x a0 a1 l hl hr va vc 100000 999 (upC 799) h T R cut
end Go.Proofs.YtnfboopfpkaeaaaDoor
/- A slice of pairs of ints that is an argument, as the evaluator sees it. -/
namespace Go.Proofs.YtnfboopfpkaeaaaDoor
open Go Go.Eng Nim Go.ChangeShapes
set_option maxRecDepth 100000
section
variable {HH : Type} {enc : TypeId × Value → HH} {B : Prot} {w0 w : World}
theorem cell_block {w : World} {a : Addr} {v : Value} (h : w.cell? a = some v) : ∃ arr e fz, w.heap[a.block]? = some (.cells arr e fz) ∧ a.spot = none ∧ arr[a.off]? = some v := by
  unfold World.cell? at h
  split at h
  · rename_i c e fz hb
    split at h
    · cases h
    · rename_i hs
      refine ⟨c, e, fz, hb, ?_, h⟩
      cases hq : a.spot with
      | none => rfl
      | some q => rw [hq] at hs; simp at hs
  · cases h
theorem add_spot {a : Addr} (h : a.spot = none) (i : Nat) : a.add i = ⟨a.block, a.off + i, none⟩ := by
  obtain ⟨b, o, s⟩ := a
  simp only at h
  subst h
  unfold Addr.add
  split
  · rename_i h0; subst h0; rfl
  · rfl
theorem takeN_take : ∀ {n : Nat} {l : List Value} {r : List Value}, takeN n l = some r → ∀ k, k ≤ n → takeN k l = some (r.take k)
  | _, _, _, _, 0, _ => by simp [takeN]
  | 0, _, _, _, k + 1, hk => absurd hk (by omega)
  | n + 1, [], _, h, k + 1, _ => by simp [takeN] at h
  | n + 1, v :: l, r, h, k + 1, hk => by
    unfold takeN at h
    split at h
    · rename_i l' hl'
      cases h
      unfold takeN
      rw [takeN_take hl' k (by omega)]
      rfl
    · cases h
theorem u27 : Tryd.prog.underlying 27 = some (.slice 23) := by kernel_rfl
theorem u23 : Tryd.prog.underlying 23 = some (.array 2 3) := by kernel_rfl
theorem c23 : Tryd.prog.cellsOf 23 = 2 := by kernel_rfl
theorem c3 : Tryd.prog.cellsOf 3 = 1 := by kernel_rfl
theorem z23 : sizeT Tryd.prog 23 = some 2 := by kernel_rfl
theorem slice_val {i off len cap K : Nat} (h : K ≤ cap) : ∃ c, sliceOp Tryd.prog 27 (.slice (some ⟨i, off, none⟩) len (2 * cap)) none (some (J K)) none = some (.slice (some ⟨i, off, none⟩) K c) := by
  have hd : 2 * cap / 2 = cap := by omega
  have hm : 2 * cap % 2 = 0 := by omega
  simp only [sliceOp, u27, z23, sliceV, hd, hm, Go.Eng.bound, Option.isSome_none, show natOf (J K) = some K from rfl, Bool.false_eq_true, if_false, Nat.ble_eq_true_of_le h, Nat.ble_eq_true_of_le (Nat.zero_le cap), show Nat.beq 0 1 = false from rfl, Bool.false_and]
  cases hb : Nat.beq cap 0
  · exact ⟨2 * cap, by simp⟩
  · exact ⟨0, by simp⟩
theorem flatZ_take : ∀ (l : List (Int × Int)) (K : Nat), flatZ (l.take K) = (flatZ l).take (K * 2)
  | [], K => by simp [flatZ]
  | p :: r, 0 => by simp [flatZ]
  | p :: r, K + 1 => by
    rw [show (K + 1) * 2 = K * 2 + 1 + 1 by omega]
    simp only [List.take_succ_cons, flatZ, flatZ_take r K]
theorem flatZ_mem : ∀ (l : List (Int × Int)), ∀ v ∈ flatZ l, ∃ z, v = I z
  | [], v, h => by cases h
  | p :: r, v, h => by
    simp only [flatZ, List.mem_cons] at h
    rcases h with rfl | rfl | h
    · exact ⟨_, rfl⟩
    · exact ⟨_, rfl⟩
    · exact flatZ_mem r v h
theorem flatZ_get : ∀ (l : List (Int × Int)) (i : Nat) (v : Value), (flatZ l)[i]? = some v → ∃ k z, l[k]? = some z ∧ ((i = k * 2 ∧ v = I z.1) ∨ (i = k * 2 + 1 ∧ v = I z.2))
  | [], i, v, h => by cases h
  | p :: r, 0, v, h => by cases h; exact ⟨0, p, rfl, .inl ⟨rfl, rfl⟩⟩
  | p :: r, 1, v, h => by cases h; exact ⟨0, p, rfl, .inr ⟨rfl, rfl⟩⟩
  | p :: r, i + 2, v, h => by
    obtain ⟨k, z, h1, h2⟩ := flatZ_get r i v h
    refine ⟨k + 1, z, h1, ?_⟩
    rcases h2 with ⟨rfl, rfl⟩ | ⟨rfl, rfl⟩
    · exact .inl ⟨by omega, rfl⟩
    · exact .inr ⟨by omega, rfl⟩
/-- Each pair's cells. -/
theorem pair_at {a : Addr} {n : Nat} {d : DataW HH × List MemPlace} {cs : List Value} (h1 : w.cells? 0 a 2 = some cs) (h2 : DataW.trod enc Tryd.prog w 0 (fun _ => true) true n 23 cs = some d) :
    ∃ z : Int × Int, w.cell? a = some (I z.1) ∧ w.cell? (a.add 1) = some (I z.2) ∧ z.2 < 2 ^ 63 := by
  obtain ⟨_, hlen, hcell⟩ := World.cells?_some h1
  obtain ⟨xs, m, _, _, _, hxl, hel⟩ := DataW.trod_array u23 h2
  match cs, hlen with
  | [v0, v1], _ =>
    have g0 := hel 0 (by decide)
    have g1 := hel 1 (by decide)
    have x0 : xs[0]? = some (xs[0]'(by omega)) := List.getElem?_eq_getElem (by omega)
    have x1 : xs[1]? = some (xs[1]'(by omega)) := List.getElem?_eq_getElem (by omega)
    rw [x0, c3] at g0
    rw [x1, c3] at g1
    obtain ⟨z0, e0, _, _⟩ := DataW.trod_int Tryd.underlying3 g0
    obtain ⟨z1, e1, _, w1⟩ := DataW.trod_int Tryd.underlying3 g1
    simp at e0 e1
    subst e0 e1
    have k0 := hcell 0 (by omega)
    have k1 := hcell 1 (by omega)
    refine ⟨(z0, z1), by simpa [Addr.add] using k0, by simpa using k1, ?_⟩
    have := w1
    simp [Lit.wf] at this
    have h2 := this.2
    show z1 < 2 ^ 63
    omega
theorem openPairs {E : Env} {h : Hp} (H : HpOK Tryd.prog B w0 E h w) (hB : ∀ k, k < w.heap.size → B.ro k) {fuel : Nat} {c : Value} {x : DataW HH × List MemPlace}
    (ht : DataW.trod enc Tryd.prog w 0 (fun _ => true) true fuel 27 [c] = some x) :
    ∃ (E' : Env) (h' : Hp) (va : Option Addr) (vc : Nat) (l : List (Int × Int)), HpOK Tryd.prog B w0 E' h' w ∧ con E' (.slice va l.length vc) = c ∧ sc h'.next (.slice va l.length vc) = true ∧ l.length < 2 ^ 63 ∧ (∀ z ∈ l, z.2 < 2 ^ 63) ∧ h.Ext h' ∧ RdZ h' (.slice va l.length vc) l ∧
      ((va = none ∧ l = [] ∧ vc = 0) ∨ ∃ a, va = some a ∧ ∀ K, K ≤ l.length → ∃ y, sliceOp Tryd.prog 27 (.slice (some a) l.length vc) none (some (J K)) none = some y ∧ RdZ h' y (l.take K)) := by
  rcases Go.Deep.open_slice u27 ht with ⟨hc, _⟩ | ⟨a, len, cap, m, n, D, Pl, hc, _, hlc, hcm, hm, _, hel⟩
  · simp only [List.cons.injEq, and_true] at hc
    subst hc
    exact ⟨E, h, none, 0, [], H, by simp [con], rfl, by decide, fun z hz => (by cases hz), Hp.Ext.refl _, .inl ⟨rfl, none, 0, rfl⟩, .inl ⟨rfl, rfl, rfl⟩⟩
  · simp only [List.cons.injEq, and_true] at hc
    subst hc
    simp only [if_true] at hm
    subst hm
    rw [c23] at hel
    have each : ∀ i, i < m → ∃ z : Int × Int, w.cell? (a.add (i * 2)) = some (I z.1) ∧ w.cell? ((a.add (i * 2)).add 1) = some (I z.2) ∧ z.2 < 2 ^ 63 := fun i hi => by
      obtain ⟨cs, h1, h2⟩ := hel i hi
      exact pair_at h1 h2
    obtain ⟨q, hq⟩ := Go.Deep.choose_lt each
    have hspot : 0 < m → a.spot = none := fun hp => by
      obtain ⟨_, _, _, _, h2, _⟩ := cell_block (hq 0 hp).1
      unfold Addr.add at h2
      simpa using h2
    have hmx : maxLen = 2 ^ 63 - 1 := rfl
    obtain ⟨l, hl⟩ : ∃ l, l = (List.range len).map q := ⟨_, rfl⟩
    have hll : l.length = len := by rw [hl, List.length_map, List.length_range]
    have hlq : ∀ (k : Nat) (z : Int × Int), l[k]? = some z → k < m ∧ z = q k := fun k z hz => by
      rw [hl, List.getElem?_map] at hz
      have hk : k < len := by have := (List.getElem?_eq_some_iff.1 (by rw [hl, List.getElem?_map]; exact hz : l[k]? = some z)).1; omega
      rw [List.getElem?_range hk] at hz
      simp at hz
      exact ⟨by omega, hz.symm⟩
    have hr : ∀ z ∈ l, z.2 < 2 ^ 63 := fun z hz => by
      obtain ⟨k, hk⟩ := List.mem_iff_getElem?.1 hz
      obtain ⟨h1, rfl⟩ := hlq k z hk
      exact (hq k h1).2.2
    clear hl
    subst hll
    cases l with
    | nil =>
      refine ⟨E.ext h.next a.block 0, ⟨h.objs, h.next + 1⟩, some ⟨h.next, a.off, a.spot⟩, 2 * m, [], H.bump a.block, ?_, by simp [sc], by decide, hr, ⟨Nat.le_succ _, fun j _ => rfl⟩, .inl ⟨rfl, _, _, rfl⟩, .inr ⟨_, rfl, fun K hK => ?_⟩⟩
      · obtain ⟨b, o, s⟩ := a
        cases s with
        | none => simp [con, conCap]
        | some q =>
          have hc : m = 0 := Nat.eq_zero_of_not_pos fun hp => by have := hspot hp; simp at this
          subst hc
          simp [con, conCap, conOff, conSpot]
      · obtain rfl : K = 0 := by simpa using hK
        cases hsp : a.spot with
        | none =>
          obtain ⟨c, e⟩ := slice_val (i := h.next) (off := a.off) (len := 0) (Nat.zero_le m)
          exact ⟨_, e, .inl ⟨rfl, _, _, rfl⟩⟩
        | some q =>
          have hc : m = 0 := Nat.eq_zero_of_not_pos fun hp => by have := hspot hp; rw [hsp] at this; cases this
          subst hc
          exact ⟨.slice (some ⟨h.next, a.off, some q⟩) 0 0, by kernel_rfl, .inl ⟨rfl, _, _, rfl⟩⟩
    | cons v r =>
      have hsp : a.spot = none := hspot (by simp at hlc; omega)
      have hcl : ∀ i (u : Value), (flatZ (v :: r))[i]? = some u → w.cell? ⟨a.block, a.off + i, none⟩ = some u := fun i u hu => by
        obtain ⟨k, z, h1, h2⟩ := flatZ_get _ i u hu
        obtain ⟨hk, rfl⟩ := hlq k z h1
        obtain ⟨j0, j1, _⟩ := hq k hk
        rw [add_spot hsp] at j0 j1
        rw [add_spot rfl] at j1
        rcases h2 with ⟨rfl, rfl⟩ | ⟨rfl, rfl⟩
        · exact j0
        · rw [← Nat.add_assoc]; exact j1
      obtain ⟨arr, e, fz, hb, _, ha⟩ := cell_block (hcl 0 (I v.1) rfl)
      have ha0 : a.off + 0 < arr.size := (Array.getElem?_eq_some_iff.1 ha).1
      have hall := flatZ_mem (v :: r)
      have hR := H.newRo (m := a.block) (off := a.off) (arr := arr) (cs := flatZ (v :: r)) (e := e) (hB _ (Array.getElem?_eq_some_iff.1 hb).1) hb (by omega) (fun i u hu => by
        have hi := hcl i u hu
        obtain ⟨arr', e', fz', hb', _, ha'⟩ := cell_block hi
        dsimp only at hb' ha'
        rw [hb] at hb'
        cases hb'
        rw [ha']
        obtain ⟨z, rfl⟩ := hall u (List.mem_of_getElem? hu)
        simp [con]) (by rw [scL_iff]; intro u hu; obtain ⟨z, rfl⟩ := hall u hu; rfl) (fun u hu => by obtain ⟨z, rfl⟩ := hall u hu; rfl)
      have hld : ∀ K, K ≤ (v :: r).length → loadN (h.new (.ro a.off (flatZ (v :: r)) e)) h.next a.off (K * 2) = some (flatZ ((v :: r).take K)) := by
        intro K hK
        unfold loadN
        rw [get_new]
        have hble : Nat.ble a.off a.off = true := Nat.ble_eq_true_of_le (Nat.le_refl _)
        simp only [hble, Nat.sub_self, List.drop_zero]
        have := takeN_take (takeN_all (flatZ (v :: r))) (K * 2) (by rw [flatZ_len]; omega)
        rw [this, flatZ_take]
      refine ⟨_, _, some ⟨h.next, a.off, none⟩, 2 * m, v :: r, hR, ?_, by simp [sc, Hp.new], by omega, hr, Hp.Ext.new _ _, ?_, .inr ⟨_, rfl, fun K hK => ?_⟩⟩
      · obtain ⟨b, o, s⟩ := a
        simp only at hsp
        subst hsp
        simp [con, conCap]
      · refine .inr ⟨h.next, a.off, _, rfl, by simp, Nat.lt_succ_self _, ?_⟩
        have := hld _ (Nat.le_refl _)
        rwa [List.take_length] at this
      · obtain ⟨c, e⟩ := slice_val (i := h.next) (off := a.off) (len := (v :: r).length) (K := K) (cap := m) (by omega)
        refine ⟨_, e, ?_⟩
        cases K with
        | zero => exact .inl ⟨rfl, _, _, rfl⟩
        | succ K =>
          have hlt : ((v :: r).take (K + 1)).length = K + 1 := by rw [List.length_take]; omega
          refine .inr ⟨h.next, a.off, _, by rw [hlt], by simp, Nat.lt_succ_self _, ?_⟩
          rw [hlt]
          exact hld _ hK
end
end Go.Proofs.YtnfboopfpkaeaaaDoor
