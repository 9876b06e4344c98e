/- The theorems of Nisan and Huang for functions of up to five bits. -/
import Derived.Test.YtnfboopfpkaeaaaProg
import Derived.KernelRfl
import Derived.Test.YtnfboopfpkaeaaaSyE
import Derived.Test.YtnfboopfpkaeaaaHuangQA
/- HuangP: contracts of functions. -/
namespace Go.Proofs.Ytnfboopfpkaeaaa
open Go Go.Eng Nim
set_option maxRecDepth 100000
/-! More unknowns than equations. -/

/-- A sum of multiples goes to the sum of the multiples. -/
def Lin (L : (Nat → Int) → Int) : Prop := ∀ (a b : Int) (v w : Nat → Int), L (fun y => a * v y + b * w y) = a * L v + b * L w
/-- One at x. -/
def dl (x : Nat) : Nat → Int := fun y => if y = x then 1 else 0
theorem dl_same (x : Nat) : dl x x = 1 := if_pos rfl
theorem dl_ne {x y : Nat} (h : y ≠ x) : dl x y = 0 := if_neg h
theorem Lin.zero {L : (Nat → Int) → Int} (hL : Lin L) : L (fun _ => 0) = 0 := by
  have h := hL 0 0 (fun _ => 0) (fun _ => 0)
  simpa using h
theorem Lin.span {L : (Nat → Int) → Int} (hL : Lin L) : ∀ (U : List Nat) (v : Nat → Int), (∀ x, x ∉ U → v x = 0) → (∀ x, x ∈ U → L (dl x) = 0) → L v = 0
  | [], v, hv, _ => by
    have : v = fun _ => 0 := funext fun x => hv x List.not_mem_nil
    rw [this, hL.zero]
  | x :: U, v, hv, h0 => by
    have ih := Lin.span hL U (fun y => 1 * v y + (-v x) * dl x y) (fun y hy => by
      by_cases hxy : y = x
      · subst hxy
        show 1 * v y + (-v y) * dl y y = 0
        rw [dl_same]; omega
      · show 1 * v y + (-v x) * dl x y = 0
        rw [dl_ne hxy, hv y (by simp [hxy, hy])]; omega) (fun y hy => h0 y (List.mem_cons_of_mem _ hy))
    rw [hL 1 (-v x) v (dl x), h0 x (List.mem_cons_self ..)] at ih
    omega
theorem solve : ∀ (ls : List ((Nat → Int) → Int)) (U : List Nat), U.Nodup → (∀ L ∈ ls, Lin L) → ls.length < U.length → ∃ v : Nat → Int, (∀ x, x ∉ U → v x = 0) ∧ (∃ x, v x ≠ 0) ∧ ∀ L ∈ ls, L v = 0
  | [], U, _, _, hlen => by
    cases U with
    | nil => exact absurd hlen (Nat.lt_irrefl 0)
    | cons x U => exact ⟨dl x, fun y hy => dl_ne fun h => hy (by rw [h]; exact List.mem_cons_self ..), ⟨x, by rw [dl_same]; decide⟩, fun L hL => absurd hL List.not_mem_nil⟩
  | l :: ls, U, nd, hls, hlen => by
    have hl : Lin l := hls l (List.mem_cons_self ..)
    have hlen' : ls.length + 1 < U.length := hlen
    by_cases hp : ∃ x, x ∈ U ∧ l (dl x) ≠ 0
    · obtain ⟨x, hx, hpx⟩ := hp
      obtain ⟨v, v1, ⟨y, hy⟩, v3⟩ := solve (ls.map fun L w => l (dl x) * L w + (-L (dl x)) * l w) (U.erase x) (nd.erase x) (fun L hL => by
        obtain ⟨L', hL', rfl⟩ := List.mem_map.1 hL
        intro a b v w
        have h1 := hls L' (List.mem_cons_of_mem _ hL') a b v w
        have h2 := hl a b v w
        show l (dl x) * L' _ + (-L' (dl x)) * l _ = a * (l (dl x) * L' v + (-L' (dl x)) * l v) + b * (l (dl x) * L' w + (-L' (dl x)) * l w)
        rw [h1, h2]
        simp only [Int.mul_add, Int.neg_mul, Int.mul_left_comm, Int.mul_neg]
        omega) (by rw [List.length_map, List.length_erase_of_mem hx]; omega)
      have hvx : v x = 0 := v1 x fun h => by rw [nd.mem_erase_iff] at h; exact h.1 rfl
      have hyx : y ≠ x := fun h => hy (by rw [h]; exact hvx)
      refine ⟨fun z => l (dl x) * v z + (-l v) * dl x z, fun z hz => ?_, ⟨y, ?_⟩, fun L hL => ?_⟩
      · show l (dl x) * v z + (-l v) * dl x z = 0
        have hzx : z ≠ x := fun h => hz (by rw [h]; exact hx)
        rw [dl_ne hzx, v1 z fun h => hz (List.mem_of_mem_erase h)]; omega
      · show l (dl x) * v y + (-l v) * dl x y ≠ 0
        rw [dl_ne hyx]
        have := Int.mul_ne_zero hpx hy
        omega
      · rw [hls L hL]
        rcases List.mem_cons.1 hL with rfl | hL
        · have := Int.mul_comm (L (dl x)) (L v)
          rw [Int.neg_mul]
          omega
        · have h1 : l (dl x) * L v + (-L (dl x)) * l v = 0 := v3 _ (List.mem_map.2 ⟨L, hL, rfl⟩)
          rw [← h1, Int.neg_mul, Int.neg_mul, Int.mul_comm (l v)]
    · have hz : ∀ x, x ∈ U → l (dl x) = 0 := fun x hx => Classical.byContradiction fun h => hp ⟨x, hx, h⟩
      obtain ⟨v, v1, v2, v3⟩ := solve ls U nd (fun L hL => hls L (List.mem_cons_of_mem _ hL)) (by omega)
      refine ⟨v, v1, v2, fun L hL => ?_⟩
      rcases List.mem_cons.1 hL with rfl | hL
      · exact hl.span U v v1 hz
      · exact v3 L hL
termination_by ls => ls.length
decreasing_by all_goals (simp only [List.length_map, List.length_cons]; omega)

/-! The signed neighbours. -/

def hA : List Nat → (Nat → Int) → Nat → Int
  | [], _, _ => 0
  | i :: L, v, x => v (x ^^^ 2 ^ i) + (if x.testBit i = true then -hA L v x else hA L v x)
theorem hA_lin : ∀ (L : List Nat) (x : Nat), Lin fun v => hA L v x
  | [], x => fun a b v w => by show (0 : Int) = a * 0 + b * 0; omega
  | i :: L, x => fun a b v w => by
    have ih := hA_lin L x a b v w
    have ih : hA L (fun y => a * v y + b * w y) x = a * hA L v x + b * hA L w x := ih
    show (a * v (x ^^^ 2 ^ i) + b * w (x ^^^ 2 ^ i)) + (if x.testBit i = true then -hA L (fun y => a * v y + b * w y) x else hA L (fun y => a * v y + b * w y) x) = a * (v (x ^^^ 2 ^ i) + (if x.testBit i = true then -hA L v x else hA L v x)) + b * (w (x ^^^ 2 ^ i) + (if x.testBit i = true then -hA L w x else hA L w x))
    rw [ih]
    split <;> simp only [Int.mul_add, Int.mul_neg] <;> omega
theorem hA_congr {v w : Nat → Int} : ∀ (L : List Nat) (x : Nat), (∀ i ∈ L, v (x ^^^ 2 ^ i) = w (x ^^^ 2 ^ i)) → hA L v x = hA L w x
  | [], _, _ => rfl
  | i :: L, x, h => by
    rw [hA, hA, h i (List.mem_cons_self ..), hA_congr L x fun j hj => h j (List.mem_cons_of_mem _ hj)]
theorem hA_flip (v : Nat → Int) (i : Nat) : ∀ (L : List Nat) (x : Nat), i ∉ L → hA L (fun y => v (y ^^^ 2 ^ i)) x = hA L v (x ^^^ 2 ^ i)
  | [], _, _ => rfl
  | j :: L, x, h => by
    have h1 : i ≠ j := fun e => h (by rw [e]; exact List.mem_cons_self ..)
    rw [hA, hA, hA_flip v i L x (fun e => h (List.mem_cons_of_mem _ e)), tb_other h1, Nat.xor_assoc, Nat.xor_comm (2 ^ j), ← Nat.xor_assoc]
theorem hA_two (v : Nat → Int) : ∀ (L : List Nat) (x : Nat), L.Nodup → hA L (hA L v) x = L.length * v x
  | [], x, _ => by show (0 : Int) = 0 * v x; omega
  | i :: L, x, nd => by
    obtain ⟨hi, nd⟩ := List.nodup_cons.1 nd
    have ih := hA_two v L x nd
    have e1 : hA L (hA (i :: L) v) x = 1 * hA L (fun y => v (y ^^^ 2 ^ i)) x + (if x.testBit i = true then -1 else 1) * hA L (hA L v) x := by
      rw [← hA_lin L x 1 (if x.testBit i = true then -1 else 1) (fun y => v (y ^^^ 2 ^ i)) (hA L v)]
      refine hA_congr L x fun j hj => ?_
      have hij : j ≠ i := fun e => hi (by rw [← e]; exact hj)
      show v (x ^^^ 2 ^ j ^^^ 2 ^ i) + (if (x ^^^ 2 ^ j).testBit i = true then -hA L v (x ^^^ 2 ^ j) else hA L v (x ^^^ 2 ^ j)) = 1 * v (x ^^^ 2 ^ j ^^^ 2 ^ i) + (if x.testBit i = true then -1 else 1) * hA L v (x ^^^ 2 ^ j)
      rw [tb_other hij]
      split <;> omega
    have e2 : hA (i :: L) v (x ^^^ 2 ^ i) = v x + (if x.testBit i = true then hA L v (x ^^^ 2 ^ i) else -hA L v (x ^^^ 2 ^ i)) := by
      rw [hA, Nat.xor_assoc, Nat.xor_self, Nat.xor_zero, tb_same]
      cases x.testBit i <;> rfl
    rw [hA, e1, e2, hA_flip v i L x hi, ih]
    show _ = ((L.length + 1 : Nat) : Int) * v x
    rw [Int.natCast_add, Int.add_mul]
    generalize (L.length : Int) * v x = z
    cases x.testBit i <;> simp <;> omega
/-- The points of a part. -/
def pts : List Nat → Nat → List Nat
  | [], x => [x]
  | i :: L, x => pts L x ++ pts L (x ^^^ 2 ^ i)
theorem mem_pts : ∀ (L : List Nat) (x y : Nat), y ∈ pts L x ↔ ∀ j, j ∉ L → y.testBit j = x.testBit j
  | [], x, y => by
    rw [pts, List.mem_singleton]
    exact ⟨fun h j _ => by rw [h], fun h => Nat.eq_of_testBit_eq fun j => h j List.not_mem_nil⟩
  | i :: L, x, y => by
    rw [pts, List.mem_append, mem_pts L, mem_pts L]
    constructor
    · rintro (h | h) j hj
      · exact h j fun e => hj (List.mem_cons_of_mem _ e)
      · rw [h j fun e => hj (List.mem_cons_of_mem _ e), tb_other fun e => hj (by rw [e]; exact List.mem_cons_self ..)]
    · intro h
      by_cases hi : y.testBit i = x.testBit i
      · refine .inl fun j hj => ?_
        by_cases hji : j = i
        · rw [hji]; exact hi
        · exact h j (by simp [hji, hj])
      · refine .inr fun j hj => ?_
        by_cases hji : j = i
        · subst hji
          rw [tb_same]
          revert hi
          cases y.testBit j <;> cases x.testBit j <;> simp
        · rw [tb_other (Ne.symm hji)]
          exact h j (by simp [hji, hj])
theorem pts_nodup : ∀ (L : List Nat) (x : Nat), L.Nodup → (pts L x).Nodup
  | [], _, _ => by rw [pts]; simp
  | i :: L, x, nd => by
    obtain ⟨hi, nd⟩ := List.nodup_cons.1 nd
    rw [pts, List.nodup_append]
    refine ⟨pts_nodup L x nd, pts_nodup L _ nd, fun a ha b hb e => ?_⟩
    subst e
    have h1 := (mem_pts L _ _).1 ha i hi
    have h2 := (mem_pts L _ _).1 hb i hi
    rw [tb_same, h1] at h2
    revert h2
    cases x.testBit i <;> simp
theorem pts_flip {L : List Nat} {x y i : Nat} (hi : i ∈ L) (h : y ∈ pts L x) : y ^^^ 2 ^ i ∈ pts L x :=
  (mem_pts L _ _).2 fun j hj => by rw [tb_other fun e => hj (by rw [← e]; exact hi)]; exact (mem_pts L _ _).1 h j hj
theorem most (v : Nat → Int) : ∀ U : List Nat, U ≠ [] → ∃ x, x ∈ U ∧ ∀ y, y ∈ U → (v y).natAbs ≤ (v x).natAbs
  | [], h => absurd rfl h
  | [x], _ => ⟨x, List.mem_singleton.2 rfl, fun y hy => by rw [List.mem_singleton.1 hy]; exact Nat.le_refl _⟩
  | x :: z :: U, _ => by
    obtain ⟨a, ha, h⟩ := most v (z :: U) (by simp)
    by_cases hc : (v x).natAbs ≤ (v a).natAbs
    · exact ⟨a, List.mem_cons_of_mem _ ha, fun y hy => by
        rcases List.mem_cons.1 hy with rfl | hy
        · exact hc
        · exact h y hy⟩
    · exact ⟨x, List.mem_cons_self .., fun y hy => by
        rcases List.mem_cons.1 hy with rfl | hy
        · exact Nat.le_refl _
        · exact Nat.le_trans (h y hy) (by omega)⟩
theorem hA_abs (p : Nat → Bool) (w : Nat → Int) (K : Nat) : ∀ (L : List Nat) (x : Nat), (∀ i ∈ L, p (x ^^^ 2 ^ i) = false → w (x ^^^ 2 ^ i) = 0) → (∀ i ∈ L, (w (x ^^^ 2 ^ i)).natAbs ≤ K) → (hA L w x).natAbs ≤ (L.countP fun i => p (x ^^^ 2 ^ i)) * K
  | [], _, _, _ => by show (0 : Int).natAbs ≤ _; exact Nat.zero_le _
  | i :: L, x, h0, h1 => by
    have ih := hA_abs p w K L x (fun j hj => h0 j (List.mem_cons_of_mem _ hj)) (fun j hj => h1 j (List.mem_cons_of_mem _ hj))
    have a0 := h0 i (List.mem_cons_self ..)
    have a1 := h1 i (List.mem_cons_self ..)
    rw [hA, List.countP_cons]
    generalize hc : (L.countP fun i => p (x ^^^ 2 ^ i)) * K = c at ih
    cases hp : p (x ^^^ 2 ^ i) with
    | true =>
      rw [show (if true = true then 1 else 0 : Nat) = 1 from rfl, Nat.add_mul, hc, Nat.one_mul]
      split <;> omega
    | false =>
      rw [show (if false = true then 1 else 0 : Nat) = 0 from rfl, Nat.add_zero, hc, a0 hp]
      split <;> omega
/-- Huang: more than half of a part's points hold one that has the root of the directions' number of neighbours. -/
theorem huang (L : List Nat) (nd : L.Nodup) (x : Nat) (p : Nat → Bool) (s : Nat) (hmore : ((pts L x).filter fun y => !p y).length < ((pts L x).filter p).length)
    (hs : ∀ y, y ∈ pts L x → p y = true → (L.countP fun i => p (y ^^^ 2 ^ i)) ≤ s) : L.length ≤ s * s := by
  obtain ⟨v, v1, ⟨z, hz⟩, v3⟩ := solve (((pts L x).filter fun y => !p y).map fun y v => hA L v y) ((pts L x).filter p) ((pts_nodup L x nd).filter _) (fun l hl => by
    obtain ⟨y, _, rfl⟩ := List.mem_map.1 hl
    exact hA_lin L y) (by rw [List.length_map]; exact hmore)
  have hzU : z ∈ (pts L x).filter p := Classical.byContradiction fun h => hz (v1 z h)
  obtain ⟨a, ha, hmax⟩ := most v ((pts L x).filter p) (by intro h; rw [h] at hzU; cases hzU)
  have hpos : 0 < (v a).natAbs := by have := hmax z hzU; omega
  obtain ⟨ha1, ha2⟩ := List.mem_filter.1 ha
  have out : ∀ y, p y = false → v y = 0 := fun y hy => v1 y fun h => by have := (List.mem_filter.1 h).2; rw [hy] at this; cases this
  have b1 : ∀ y, (v y).natAbs ≤ (v a).natAbs := fun y => by
    by_cases hy : y ∈ (pts L x).filter p
    · exact hmax y hy
    · rw [v1 y hy]; exact Nat.zero_le _
  have w0 : ∀ y, y ∈ pts L x → p y = false → hA L v y = 0 := fun y hy hp => v3 _ (List.mem_map.2 ⟨y, List.mem_filter.2 ⟨hy, by rw [hp]; rfl⟩, rfl⟩)
  have w1 : ∀ y, y ∈ pts L x → (hA L v y).natAbs ≤ s * (v a).natAbs := fun y hy => by
    cases hp : p y with
    | false => rw [w0 y hy hp]; exact Nat.zero_le _
    | true => exact Nat.le_trans (hA_abs p v _ L y (fun i _ h => out _ h) (fun i _ => b1 _)) (Nat.mul_le_mul_right _ (hs y hy hp))
  have h1 := hA_abs p (hA L v) (s * (v a).natAbs) L a (fun i hi h => w0 _ (pts_flip hi ha1) h) (fun i hi => w1 _ (pts_flip hi ha1))
  have h2 := Nat.le_trans h1 (Nat.mul_le_mul_right _ (hs a ha1 ha2))
  rw [hA_two v L a nd, Int.natAbs_mul, Int.natAbs_natCast, ← Nat.mul_assoc] at h2
  exact Nat.le_of_mul_le_mul_right h2 hpos
end Go.Proofs.Ytnfboopfpkaeaaa
/- HuangQ: contracts of functions. -/
namespace Go.Proofs.Ytnfboopfpkaeaaa
open Go Go.Eng Nim
set_option maxRecDepth 100000
/-! Differences in several directions. -/

/-- The bits of a mask. -/
def bitsL : Nat → Nat → List Nat
  | 0, _ => []
  | n + 1, x => if x.testBit n = true then n :: bitsL n x else bitsL n x
theorem mem_bitsL {i : Nat} : ∀ {n x : Nat}, i ∈ bitsL n x ↔ i < n ∧ x.testBit i = true
  | 0, x => by rw [bitsL]; simp
  | n + 1, x => by
    rw [bitsL]
    by_cases hin : i = n
    · subst hin
      split
      · rename_i h; simp [h]
      · rename_i h; rw [mem_bitsL]; simp [h]
    · split
      · rw [List.mem_cons, mem_bitsL]
        constructor
        · rintro (h | ⟨h1, h2⟩)
          · exact absurd h hin
          · exact ⟨by omega, h2⟩
        · rintro ⟨h1, h2⟩
          exact .inr ⟨by omega, h2⟩
      · rw [mem_bitsL]
        exact ⟨fun ⟨h1, h2⟩ => ⟨by omega, h2⟩, fun ⟨h1, h2⟩ => ⟨by omega, h2⟩⟩
theorem bitsL_nodup : ∀ (n x : Nat), (bitsL n x).Nodup
  | 0, x => by rw [bitsL]; exact List.nodup_nil
  | n + 1, x => by
    rw [bitsL]
    split
    · exact List.nodup_cons.2 ⟨fun h => Nat.lt_irrefl n (mem_bitsL.1 h).1, bitsL_nodup n x⟩
    · exact bitsL_nodup n x
theorem bitsL_flip {m : Nat} : ∀ {n x : Nat}, n ≤ m → bitsL n (x ^^^ 2 ^ m) = bitsL n x
  | 0, _, _ => rfl
  | n + 1, x, h => by
    rw [bitsL, bitsL, tb_other (show m ≠ n by omega), bitsL_flip (by omega)]
theorem pop_bits_all : allB 64 (fun x => Nat.beq (bitsL 6 x).length (pop x)) = true := by kernel_rfl
theorem pop_bits {x : Nat} (hx : x < 64) : (bitsL 6 x).length = pop x := Nat.eq_of_beq_eq_true (allB_ok pop_bits_all x hx)
theorem bitsL_up {x : Nat} : ∀ {n k : Nat}, x < 2 ^ n → bitsL (n + k) x = bitsL n x
  | n, 0, _ => rfl
  | n, k + 1, h => by
    rw [← Nat.add_assoc, bitsL, if_neg, bitsL_up h]
    rw [Nat.testBit_lt_two_pow (Nat.lt_of_lt_of_le h (Nat.pow_le_pow_right (by decide) (by omega)))]
    decide
theorem pop_len {n x : Nat} (hn : n ≤ 6) (hx : x < 2 ^ n) : (bitsL n x).length = pop x := by
  have h := Nat.pow_le_pow_right (n := 2) (by decide) hn
  rw [← pop_bits (by omega), show 6 = n + (6 - n) by omega, bitsL_up hx]
/-- The difference in the directions of a list. -/
def Dl (f : Nat → Int) : List Nat → Nat → Int
  | [], x => f x
  | i :: L, x => Dl f L x - Dl f L (x ^^^ 2 ^ i)
theorem Dl_perm (f : Nat → Int) {L M : List Nat} (h : L.Perm M) : ∀ x, Dl f L x = Dl f M x := by
  induction h with
  | nil => intro x; rfl
  | cons i _ ih => intro x; rw [Dl, Dl, ih, ih]
  | swap i j L =>
    intro x
    simp only [Dl]
    rw [show x ^^^ 2 ^ j ^^^ 2 ^ i = x ^^^ 2 ^ i ^^^ 2 ^ j from xx_comm _ _ _]
    omega
  | trans _ _ ih1 ih2 => intro x; rw [ih1, ih2]
theorem trn_Dl (g : Nat → Int) : ∀ (n x : Nat), trn (up fun a b => b - a) n g x = Dl g (bitsL n x) x
  | 0, _ => rfl
  | n + 1, x => by
    rw [trn, bitsL]
    cases h : x.testBit n with
    | true =>
      rw [stg_t h, if_pos rfl, Dl]
      show trn (up fun a b => b - a) n g x - trn (up fun a b => b - a) n g (x ^^^ 2 ^ n) = _
      rw [trn_Dl g n, trn_Dl g n, bitsL_flip (Nat.le_refl n)]
    | false =>
      rw [stg_f h, if_neg (by decide)]
      exact trn_Dl g n x
theorem dg_le_of (v : Nat → Int) (C : Nat) : ∀ k, (∀ x, x < k → v x ≠ 0 → pop x ≤ C) → dg v k ≤ C
  | 0, _ => Nat.zero_le _
  | k + 1, h => by
    have ih := dg_le_of v C k fun x hx => h x (by omega)
    rw [dg]
    split
    · exact ih
    · rename_i h0
      exact Nat.max_le.2 ⟨ih, h k (Nat.lt_succ_self k) h0⟩
/-! The degree and the depth. -/

theorem al_false {p : Nat → Bool} {N : Nat} (h : ¬al p N = true) : al p N = false := by
  cases e : al p N
  · rfl
  · exact absurd e h
/-- The least depth is 6, or that of a bit's parts. -/
theorem mnl_cases (n m : Nat) (D : Nat → Nat) : ∀ k, mnl n m D k = 6 ∨ ∃ i, i < k ∧ m &&& 2 ^ i = 0 ∧ mnl n m D k = D i
  | 0 => .inl rfl
  | k + 1 => by
    rw [mnl]
    split
    · rename_i hz
      rcases Nat.le_total (mnl n m D k) (D k) with h | h
      · rw [Nat.min_eq_left h]
        rcases mnl_cases n m D k with h1 | ⟨i, h1, h2, h3⟩
        · exact .inl h1
        · exact .inr ⟨i, by omega, h2, h3⟩
      · rw [Nat.min_eq_right h]
        exact .inr ⟨k, Nat.lt_succ_self k, eq_of_beq hz, rfl⟩
    · rcases mnl_cases n m D k with h1 | ⟨i, h1, h2, h3⟩
      · exact .inl h1
      · exact .inr ⟨i, by omega, h2, h3⟩
theorem cq_same {f : Nat → Bool} {n m v : Nat} (hc : al (cq f m v) (2 ^ n) = true) {x : Nat} (hx : x < 2 ^ n) (hm : x &&& m = v) : f x = f v := by
  have h := al_iff.1 hc x hx
  unfold cq at h
  rw [hm, bne_self_eq_false, Bool.false_or] at h
  exact eq_of_beq h
theorem and_or_bit {x m i : Nat} (hz : m &&& 2 ^ i = 0) : x &&& (m ||| 2 ^ i) = (if x.testBit i = true then (x &&& m) ||| 2 ^ i else x &&& m) := by
  apply Nat.eq_of_testBit_eq
  intro j
  have hm := (and_bit m i).1 hz
  rw [Nat.testBit_and, Nat.testBit_or, Nat.testBit_two_pow]
  by_cases hij : i = j
  · subst hij
    cases hx : x.testBit i with
    | true => rw [if_pos rfl]; simp
    | false => rw [if_neg (by decide), Nat.testBit_and, hx]; simp
  · split
    · rw [Nat.testBit_or, Nat.testBit_and, Nat.testBit_two_pow]; simp [hij]
    · rw [Nat.testBit_and]; simp [hij]
theorem Dl_const (g : Nat → Int) (c : Int) : ∀ (L : List Nat) (x : Nat), L ≠ [] → (∀ y, y ∈ pts L x → g y = c) → Dl g L x = 0
  | [], _, h, _ => absurd rfl h
  | [i], x, _, h => by
    have h1 : g x = c := h x ((mem_pts _ _ _).2 fun _ _ => rfl)
    have h2 : g (x ^^^ 2 ^ i) = c := h _ ((mem_pts _ _ _).2 fun j hj => tb_other (by simpa using Ne.symm (by simpa using hj)) x)
    show g x - g (x ^^^ 2 ^ i) = 0
    omega
  | i :: j :: L, x, _, h => by
    rw [Dl, Dl_const g c (j :: L) x (by simp) fun y hy => h y (by rw [pts]; exact List.mem_append_left _ hy), Dl_const g c (j :: L) _ (by simp) fun y hy => h y (by rw [pts]; exact List.mem_append_right _ hy)]
    omega
theorem nodup_le : ∀ (n : Nat) (L : List Nat), L.Nodup → (∀ i ∈ L, i < n) → L.length ≤ n
  | 0, [], _, _ => Nat.le_refl _
  | 0, i :: L, _, h => absurd (h i (List.mem_cons_self ..)) (Nat.not_lt_zero _)
  | n + 1, L, nd, h => by
    by_cases hn : n ∈ L
    · have := nodup_le n (L.erase n) (nd.erase n) fun i hi => by
        have h1 := nd.mem_erase_iff.1 hi
        have := h i h1.2
        have := h1.1
        omega
      rw [List.length_erase_of_mem hn] at this
      omega
    · have := nodup_le n L nd fun i hi => by
        have := h i hi
        have : i ≠ n := fun e => hn (by rw [← e]; exact hi)
        omega
      omega
theorem deg_depth (f : Nat → Bool) (n : Nat) (hn : n ≤ 5) : ∀ (d m : Nat), 2 ^ n - m ≤ d → m < 2 ^ n → ∀ (L : List Nat) (x : Nat), x < 2 ^ n → L.Nodup → (∀ i ∈ L, i < n ∧ m.testBit i = false) → Lf f n m (x &&& m) < L.length → Dl (num f) L x = 0
  | 0, m, h, hm, _, _, _, _, _, _ => by omega
  | d + 1, m, h, hm, L, x, hx, nd, hL, hlen => by
    rw [Lf_eq f n m _ hm] at hlen
    by_cases hc : al (cq f m (x &&& m)) (2 ^ n) = true
    · have hne : L ≠ [] := by rintro rfl; exact absurd hlen (Nat.not_lt_zero _)
      refine Dl_const _ (num f (x &&& m)) L x hne fun y hy => ?_
      have h1 := (mem_pts L x y).1 hy
      have hy2 : y < 2 ^ n := Nat.lt_pow_two_of_testBit y fun i hi => by
        rw [h1 i fun hiL => by have := (hL i hiL).1; omega]
        exact Nat.testBit_lt_two_pow (Nat.lt_of_lt_of_le hx (Nat.pow_le_pow_right (by decide) hi))
      have h2 : y &&& m = x &&& m := Nat.eq_of_testBit_eq fun j => by
        rw [Nat.testBit_and, Nat.testBit_and]
        by_cases hj : j ∈ L
        · rw [(hL j hj).2, Bool.and_false, Bool.and_false]
        · rw [h1 j hj]
      unfold num
      rw [cq_same hc hy2 h2]
    · rw [if_neg hc] at hlen
      have hLn : L.length ≤ n := by
        exact nodup_le n L nd fun i hi => (hL i hi).1
      rcases mnl_cases n m (fun i => 1 + max (Lf f n (m ||| 2 ^ i) (x &&& m)) (Lf f n (m ||| 2 ^ i) ((x &&& m) ||| 2 ^ i))) n with h6 | ⟨i, hi, hz, e⟩
      · omega
      · rw [e] at hlen
        have hmi := or_gt hz
        have hm2 : m ||| 2 ^ i < 2 ^ n := or_small hm (Nat.pow_lt_pow_right (by decide) hi)
        have hsub : ∀ y, y &&& m = x &&& m → Lf f n (m ||| 2 ^ i) (y &&& (m ||| 2 ^ i)) + 1 < L.length + 1 := fun y hy => by
          rw [and_or_bit hz, hy]
          split <;> omega
        have hmt : ∀ j, m.testBit j = false → j ≠ i → (m ||| 2 ^ i).testBit j = false := fun j h1 h2 => by
          rw [Nat.testBit_or, h1, Nat.testBit_two_pow]; simp [Ne.symm h2]
        by_cases hiL : i ∈ L
        · have hp := List.perm_cons_erase hiL
          rw [Dl_perm _ hp, Dl]
          have hle : (L.erase i).length + 1 = L.length := by rw [List.length_erase_of_mem hiL]; have := List.length_pos_of_mem hiL; omega
          have hxm : (x ^^^ 2 ^ i) &&& m = x &&& m := Nat.eq_of_testBit_eq fun j => by
            rw [Nat.testBit_and, Nat.testBit_and]
            by_cases hij : i = j
            · subst hij; rw [(and_bit m i).1 hz, Bool.and_false, Bool.and_false]
            · rw [tb_other hij]
          have q : ∀ y, y < 2 ^ n → y &&& m = x &&& m → Dl (num f) (L.erase i) y = 0 := fun y hy hym => by
            refine deg_depth f n hn d (m ||| 2 ^ i) (by omega) hm2 (L.erase i) y hy (nd.erase i) (fun j hj => ?_) ?_
            · have hj2 := nd.mem_erase_iff.1 hj
              exact ⟨(hL j hj2.2).1, hmt j (hL j hj2.2).2 hj2.1⟩
            · have := hsub y hym
              have h3 : 1 + max (Lf f n (m ||| 2 ^ i) (x &&& m)) (Lf f n (m ||| 2 ^ i) ((x &&& m) ||| 2 ^ i)) < L.length := hlen
              rw [and_or_bit hz, hym] at this ⊢
              split <;> omega
          rw [q x hx rfl, q _ (xor_small hx (Nat.pow_lt_pow_right (by decide) hi)) hxm]
          rfl
        · refine deg_depth f n hn d (m ||| 2 ^ i) (by omega) hm2 L x hx nd (fun j hj => ⟨(hL j hj).1, hmt j (hL j hj).2 fun e => hiL (by rw [← e]; exact hj)⟩) ?_
          have := hsub x rfl
          omega
theorem dgF_depth (f : Nat → Bool) (n : Nat) (hn : n ≤ 5) : dgF f n ≤ Lf f n 0 0 := by
  have hp0 := Nat.two_pow_pos n
  refine dg_le_of _ _ _ fun x hx h0 => ?_
  refine Classical.byContradiction fun hc => h0 ?_
  rw [trn_Dl]
  refine deg_depth f n hn (2 ^ n) 0 (by omega) hp0 (bitsL n x) x hx (bitsL_nodup n x) (fun i hi => ⟨(mem_bitsL.1 hi).1, Nat.zero_testBit i⟩) ?_
  rw [Nat.and_zero, pop_len (by omega) hx]
  omega
end Go.Proofs.Ytnfboopfpkaeaaa
/- HuangR: contracts of functions. -/
namespace Go.Proofs.Ytnfboopfpkaeaaa
open Go Go.Eng Nim
set_option maxRecDepth 100000
theorem mz_ge (v : Nat → Int) : ∀ k y, y < k → v y ≤ mz v k
  | 0, _, h => absurd h (Nat.not_lt_zero _)
  | k + 1, y, h => by
    show v y ≤ max (mz v k) (v k)
    by_cases hy : y = k
    · subst hy; omega
    · have := mz_ge v k y (by omega); omega
theorem mz_le (v : Nat → Int) (C : Int) (h0 : 0 ≤ C) : ∀ k, (∀ y, y < k → v y ≤ C) → mz v k ≤ C
  | 0, _ => h0
  | k + 1, h => by
    have h1 := mz_le v C h0 k fun y hy => h y (by omega)
    have h2 := h k (Nat.lt_succ_self k)
    show max (mz v k) (v k) ≤ C
    omega
theorem sp_count (f : Nat → Bool) (x S : Nat) : ∀ n, ((bitsL n S).countP fun i => f (x ^^^ 2 ^ i) != f x : Nat) ≤ (sp f x n : Int)
  | 0 => by rw [bitsL]; exact (sp_le f x 0).1
  | n + 1 => by
    have ih := sp_count f x S n
    rw [sp_succ, bitsL]
    split
    · rw [List.countP_cons]
      split <;> omega
    · split <;> omega
/-! The degree and the sensitivity. -/

def par : Nat → Nat → Bool
  | 0, _ => false
  | n + 1, x => par n x != x.testBit n
theorem par_high {m : Nat} : ∀ {n : Nat} (x : Nat), n ≤ m → par n (x ^^^ 2 ^ m) = par n x
  | 0, _, _ => rfl
  | n + 1, x, h => by rw [par, par, par_high x (by omega), tb_other (by omega)]
theorem par_flip {i : Nat} : ∀ {n : Nat} (x : Nat), i < n → par n (x ^^^ 2 ^ i) = !par n x
  | 0, _, h => absurd h (Nat.not_lt_zero _)
  | n + 1, x, h => by
    rw [par, par]
    by_cases hin : i = n
    · subst hin
      rw [par_high x (Nat.le_refl _), tb_same]
      cases par i x <;> cases x.testBit i <;> rfl
    · rw [par_flip x (by omega), tb_other hin]
      cases par n x <;> cases x.testBit n <;> rfl
theorem diff (f : Nat → Bool) (n : Nat) : ∀ (L : List Nat) (x : Nat), (∀ i ∈ L, i < n) →
    (((pts L x).filter fun y => !(f y == par n y)).length : Int) - ((pts L x).filter fun y => f y == par n y).length = (if par n x = true then -1 else 1) * (2 * Dl (num f) L x - if L = [] then 1 else 0)
  | [], x, _ => by
    rw [pts, Dl, num]
    cases h1 : f x <;> cases h2 : par n x <;> simp [List.filter, h1, h2]
  | i :: L, x, h => by
    have ih1 := diff f n L x fun j hj => h j (List.mem_cons_of_mem _ hj)
    have ih2 := diff f n L (x ^^^ 2 ^ i) fun j hj => h j (List.mem_cons_of_mem _ hj)
    rw [par_flip x (h i (List.mem_cons_self ..))] at ih2
    rw [pts, List.filter_append, List.filter_append, List.length_append, List.length_append, Dl, if_neg (show ¬(i :: L = []) by simp), Int.natCast_add, Int.natCast_add]
    generalize (if L = [] then (1 : Int) else 0) = z at ih1 ih2
    revert ih1 ih2
    cases par n x <;> simp <;> omega
theorem pts_small {n : Nat} {L : List Nat} {x y : Nat} (hL : ∀ i ∈ L, i < n) (hx : x < 2 ^ n) (hy : y ∈ pts L x) : y < 2 ^ n :=
  Nat.lt_pow_two_of_testBit y fun i hi => by
    rw [(mem_pts L x y).1 hy i fun hiL => by have := hL i hiL; omega]
    exact Nat.testBit_lt_two_pow (Nat.lt_of_lt_of_le hx (Nat.pow_le_pow_right (by decide) hi))
theorem deg_sens (f : Nat → Bool) (n : Nat) (hn : n ≤ 5) (s : Nat) (hs : ∀ y, y < 2 ^ n → sp f y n ≤ s) : dgF f n ≤ s * s := by
  refine dg_le_of _ _ _ fun x hx h0 => ?_
  rw [trn_Dl] at h0
  rw [← pop_len (by omega) hx]
  by_cases hne : bitsL n x = []
  · rw [hne]; exact Nat.zero_le _
  have hL : ∀ i ∈ bitsL n x, i < n := fun i hi => (mem_bitsL.1 hi).1
  have hd := diff f n (bitsL n x) x hL
  rw [if_neg hne] at hd
  have near : ∀ (p : Nat → Bool), (∀ y i, i < n → p y = true → p (y ^^^ 2 ^ i) = true → f (y ^^^ 2 ^ i) ≠ f y) → ∀ y, y ∈ pts (bitsL n x) x → p y = true → ((bitsL n x).countP fun i => p (y ^^^ 2 ^ i)) ≤ s := fun p hp y hy hpy => by
    have h1 : ((bitsL n x).countP fun i => p (y ^^^ 2 ^ i)) ≤ ((bitsL n x).countP fun i => f (y ^^^ 2 ^ i) != f y) := List.countP_mono_left fun i hi h => bne_iff_ne.2 (hp y i (hL i hi) hpy h)
    have h2 := sp_count f y x n
    have h3 := hs y (pts_small hL hx hy)
    omega
  by_cases hc : ((pts (bitsL n x) x).filter fun y => !(f y == par n y)).length < ((pts (bitsL n x) x).filter fun y => f y == par n y).length
  · refine huang _ (bitsL_nodup n x) x (fun y => f y == par n y) s hc (near _ fun y i hi h1 h2 => ?_)
    have h1 := eq_of_beq h1
    have h2 := eq_of_beq h2
    rw [h1, h2, par_flip y hi]
    cases par n y <;> decide
  · have hc2 : ((pts (bitsL n x) x).filter fun y => f y == par n y).length ≠ ((pts (bitsL n x) x).filter fun y => !(f y == par n y)).length := fun e => by
      rw [e, Int.sub_self] at hd
      revert hd
      split <;> omega
    refine huang _ (bitsL_nodup n x) x (fun y => !(f y == par n y)) s (by simp only [Bool.not_not]; omega) (near _ fun y i hi h1 h2 => ?_)
    have h1 : (f y == par n y) = false := by revert h1; cases f y == par n y <;> simp
    have h2 : (f (y ^^^ 2 ^ i) == par n (y ^^^ 2 ^ i)) = false := by revert h2; cases f (y ^^^ 2 ^ i) == par n (y ^^^ 2 ^ i) <;> simp
    rw [par_flip y hi] at h2
    revert h1 h2
    cases f y <;> cases f (y ^^^ 2 ^ i) <;> cases par n y <;> simp
/-! Certificates. -/

theorem sme_iff {f : Nat → Bool} {x k : Nat} : ∀ {N : Nat}, sme f x k N = true ↔ ∀ y, y < N → y &&& k = x &&& k → f y = f x
  | 0 => ⟨fun _ y hy => absurd hy (Nat.not_lt_zero _), fun _ => rfl⟩
  | N + 1 => by
    rw [sme, Bool.and_eq_true, sme_iff]
    constructor
    · rintro ⟨h1, h2⟩ y hy e
      by_cases hyN : y = N
      · subst hyN
        rw [e, bne_self_eq_false, Bool.false_or] at h2
        exact eq_of_beq h2
      · exact h1 y (by omega) e
    · intro h
      refine ⟨fun y hy => h y (by omega), ?_⟩
      by_cases e : N &&& k = x &&& k
      · rw [h N (Nat.lt_succ_self N) e, beq_self_eq_true, Bool.or_true]
      · rw [bne_iff_ne.2 e, Bool.true_or]
theorem ce_best (f : Nat → Bool) (x N : Nat) : ∀ K, (∀ k, k < K → sme f x k N = true → pop (ce f x N K) ≤ pop k)
  | 0, k, h, _ => absurd h (Nat.not_lt_zero _)
  | K + 1, k, h, hs => by
    have ih := ce_best f x N K k
    rw [ce]
    by_cases hk : k = K
    · subst hk
      split
      · exact Nat.le_refl _
      · rename_i hb
        rw [hs, Bool.true_and] at hb
        unfold btr at hb
        simp at hb
        omega
    · have ih := ih (by omega) hs
      split
      · rename_i hb
        rw [Bool.and_eq_true] at hb
        have hb := hb.2
        unfold btr at hb
        simp at hb
        omega
      · exact ih
theorem and_full {n y : Nat} (hy : y < 2 ^ n) : y &&& (2 ^ n - 1) = y := by rw [Nat.and_two_pow_sub_one_eq_mod, Nat.mod_eq_of_lt hy]
theorem ce_sme (f : Nat → Bool) (n x : Nat) (hx : x < 2 ^ n) : ∀ K, sme f x (ce f x (2 ^ n) K) (2 ^ n) = true
  | 0 => sme_iff.2 fun y hy e => by
    have e : y &&& (2 ^ n - 1) = x &&& (2 ^ n - 1) := e
    rw [and_full hy, and_full hx] at e
    rw [e]
  | K + 1 => by
    rw [ce]
    split
    · rename_i h
      rw [Bool.and_eq_true] at h
      exact h.1
    · exact ce_sme f n x hx K
theorem cp_min (f : Nat → Bool) {N x k : Nat} (hk : k < N) (h : sme f x k N = true) : cp f N x ≤ pop k := Int.ofNat_le.2 (ce_best f x N N k hk h)
theorem pop_or_all : allB 64 (fun a => allB 64 fun b => Nat.ble (pop (a ||| b)) (pop a + pop b)) = true := by kernel_rfl
theorem pop_or {a b : Nat} (ha : a < 64) (hb : b < 64) : pop (a ||| b) ≤ pop a + pop b := Nat.le_of_ble_eq_true (allB_ok (allB_ok pop_or_all a ha) b hb)
theorem pop_one {i : Nat} (hi : i < 6) : pop (2 ^ i) = 1 := by
  rcases (by omega : i = 0 ∨ i = 1 ∨ i = 2 ∨ i = 3 ∨ i = 4 ∨ i = 5) with rfl | rfl | rfl | rfl | rfl | rfl <;> rfl
theorem cert_depth (f : Nat → Bool) (n : Nat) (hn : n ≤ 5) : ∀ (d m : Nat), 2 ^ n - m ≤ d → m < 2 ^ n → ∀ x, x < 2 ^ n → ∃ k, k < 2 ^ n ∧ sme f x k (2 ^ n) = true ∧ pop k ≤ pop m + Lf f n m (x &&& m)
  | 0, m, h, hm, _, _ => by omega
  | d + 1, m, h, hm, x, hx => by
    have hp32 : 2 ^ n ≤ 32 := Nat.pow_le_pow_right (n := 2) (by decide) hn
    rw [Lf_eq f n m _ hm]
    by_cases hc : al (cq f m (x &&& m)) (2 ^ n) = true
    · exact ⟨m, hm, sme_iff.2 fun y hy e => (cq_same hc hy e).trans (cq_same hc hx rfl).symm, Nat.le_add_right _ _⟩
    · rw [if_neg hc]
      rcases mnl_cases n m (fun i => 1 + max (Lf f n (m ||| 2 ^ i) (x &&& m)) (Lf f n (m ||| 2 ^ i) ((x &&& m) ||| 2 ^ i))) n with h6 | ⟨i, hi, hz, e⟩
      · have hp0 := Nat.two_pow_pos n
        have := pop_six (show 2 ^ n - 1 < 64 by omega)
        refine ⟨2 ^ n - 1, by omega, sme_iff.2 fun y hy e => ?_, by omega⟩
        rw [and_full hy, and_full hx] at e
        rw [e]
      · rw [e]
        have hpi : 2 ^ i < 2 ^ n := Nat.pow_lt_pow_right (by decide) hi
        have hmi := or_gt hz
        have hm2 : m ||| 2 ^ i < 2 ^ n := or_small hm hpi
        obtain ⟨k, k1, k2, k3⟩ := cert_depth f n hn d (m ||| 2 ^ i) (by omega) hm2 x hx
        have h1 := pop_or (show m < 64 by omega) (show 2 ^ i < 64 by omega)
        rw [pop_one (by omega)] at h1
        rw [and_or_bit hz] at k3
        refine ⟨k, k1, k2, ?_⟩
        show pop k ≤ pop m + (1 + max (Lf f n (m ||| 2 ^ i) (x &&& m)) (Lf f n (m ||| 2 ^ i) ((x &&& m) ||| 2 ^ i)))
        revert k3
        split <;> intro k3 <;> omega
/-! Blocks. -/

theorem dis_pop : ∀ (l : List Nat) (c : Nat), c < 64 → l.Pairwise (fun a b => a &&& b = 0) → (∀ z ∈ l, z < 64 ∧ z &&& c ≠ 0) → l.length ≤ pop c
  | [], _, _, _, _ => Nat.zero_le _
  | z :: l, c, hc, hp, h => by
    obtain ⟨hz, hp⟩ := List.pairwise_cons.1 hp
    obtain ⟨z1, z2⟩ := h z (List.mem_cons_self ..)
    have hk : z &&& c < 64 := Nat.lt_of_le_of_lt Nat.and_le_left z1
    have hs : (z &&& c) &&& c = z &&& c := by rw [Nat.and_assoc, Nat.and_self]
    have h1 := pop_lt hc hk (Nat.pos_of_ne_zero z2) hs
    have ih := dis_pop l (c ^^^ (z &&& c)) (Nat.xor_lt_two_pow (n := 6) hc hk) hp fun y hy => by
      obtain ⟨y1, y2⟩ := h y (List.mem_cons_of_mem _ hy)
      refine ⟨y1, ?_⟩
      have hzy := dj_iff.1 (hz y hy)
      rw [show y &&& (c ^^^ (z &&& c)) = y &&& c from Nat.eq_of_testBit_eq fun j => by
        rw [Nat.testBit_and, Nat.testBit_xor, Nat.testBit_and, Nat.testBit_and]
        cases hzj : z.testBit j with
        | true => rw [hzy j hzj]; rfl
        | false => simp]
      exact y2
    show l.length + 1 ≤ pop c
    omega
theorem blocks_cert (f : Nat → Bool) (n x : Nat) (hn : n ≤ 6) (hx : x < 2 ^ n) : ((bk f (2 ^ n) x).length : Int) ≤ cp f (2 ^ n) x := by
  have hp64 : 2 ^ n ≤ 64 := Nat.pow_le_pow_right (n := 2) (by decide) hn
  have hp0 := Nat.two_pow_pos n
  obtain ⟨b1, b2⟩ := tk_blk f x (2 ^ n) hp64 (2 ^ n) (2 ^ n - 1) (by omega)
  have hc := ce_lt f x (2 ^ n) hp0 (2 ^ n) (Nat.le_refl _)
  have hs := sme_iff.1 (ce_sme f n x hx (2 ^ n))
  unfold bk cp
  rw [show (tk (pt f x (2 ^ n)).2 (2 ^ n) (2 ^ n - 1)).length = ((tk (pt f x (2 ^ n)).2 (2 ^ n) (2 ^ n - 1)).map Int.toNat).length from (List.length_map ..).symm]
  refine Int.ofNat_le.2 (dis_pop _ _ (by omega) (List.pairwise_map.2 b2) fun z hz => ?_)
  obtain ⟨w, hw, rfl⟩ := List.mem_map.1 hz
  obtain ⟨k, rfl, k1, k2, k3, k4⟩ := b1 w hw
  refine ⟨by show k < 64; omega, fun e => k4 ?_⟩
  have e : k &&& ce f x (2 ^ n) (2 ^ n) = 0 := e
  refine hs _ (xor_small hx k3) (Nat.eq_of_testBit_eq fun j => ?_)
  rw [Nat.testBit_and, Nat.testBit_and, Nat.testBit_xor]
  cases hkj : k.testBit j with
  | true => rw [dj_iff.1 e j hkj]; simp
  | false => simp
theorem pt_nonneg (f : Nat → Bool) (x N : Nat) (hN : N ≤ 64) {m : Nat} (hm : m < N) : 0 ≤ (pt f x N).1 m := by
  rcases Nat.eq_zero_or_pos m with rfl | h
  · rw [pt_nil f x N hm]; exact Int.le_refl _
  · have h1 := pt_block f x N hN m m (Nat.le_refl _) hm m h (Nat.and_self m)
    rw [Nat.xor_self, pt_nil f x N (by omega)] at h1
    have := (sb_le f x m).1
    omega
theorem full_flip (i : Nat) : (2 ^ (i + 1) - 1) ^^^ 2 ^ i = 2 ^ i - 1 ∧ 2 ^ i &&& (2 ^ (i + 1) - 1) = 2 ^ i := by
  constructor
  · refine Nat.eq_of_testBit_eq fun j => ?_
    rw [Nat.testBit_xor, Nat.testBit_two_pow_sub_one, Nat.testBit_two_pow_sub_one, Nat.testBit_two_pow]
    by_cases h1 : j < i
    · have : j < i + 1 := by omega
      have : i ≠ j := by omega
      simp [*]
    · by_cases h2 : i = j
      · subst h2; simp
      · have : ¬ j < i + 1 := by omega
        simp [*]
  · exact and_full (Nat.pow_lt_pow_right (by decide) (Nat.lt_succ_self i))
theorem sp_blocks (f : Nat → Bool) (n x : Nat) (hn : n ≤ 6) : ∀ i, i ≤ n → sp f x i ≤ (pt f x (2 ^ n)).1 (2 ^ i - 1)
  | 0, _ => by
    rw [show 2 ^ 0 - 1 = 0 from rfl, pt_nil f x _ (Nat.two_pow_pos n)]
    exact (sp_le f x 0).2
  | i + 1, h => by
    have ih := sp_blocks f n x hn i (by omega)
    have hp64 : 2 ^ n ≤ 64 := Nat.pow_le_pow_right (n := 2) (by decide) hn
    have hi : 2 ^ (i + 1) ≤ 2 ^ n := Nat.pow_le_pow_right (by decide) h
    have hp0 := Nat.two_pow_pos (i + 1)
    have h1 := pt_block f x (2 ^ n) hp64 (2 ^ (i + 1) - 1) (2 ^ (i + 1) - 1) (Nat.le_refl _) (by omega) (2 ^ i) (Nat.two_pow_pos i) (full_flip i).2
    rw [(full_flip i).1] at h1
    rw [sp_succ]
    unfold sb at h1
    revert h1
    rw [show (f x != f (x ^^^ 2 ^ i)) = (f (x ^^^ 2 ^ i) != f x) from bne_comm]
    split <;> omega
theorem least_block (f : Nat → Bool) (x m : Nat) : ∀ K k, k ≤ K → k &&& m = k → f (x ^^^ k) ≠ f x → ∃ k, k &&& m = k ∧ f (x ^^^ k) ≠ f x ∧ ∀ j, j < k → j &&& m = j → f (x ^^^ j) = f x
  | 0, k, h, h1, h2 => by
    obtain rfl : k = 0 := by omega
    exact absurd (by rw [Nat.xor_zero]) h2
  | K + 1, k, h, h1, h2 => by
    by_cases hc : ∃ j, j < k ∧ j &&& m = j ∧ f (x ^^^ j) ≠ f x
    · obtain ⟨j, j1, j2, j3⟩ := hc
      exact least_block f x m K j (by omega) j2 j3
    · exact ⟨k, h1, h2, fun j j1 j2 => Classical.byContradiction fun j3 => hc ⟨j, j1, j2, j3⟩⟩
theorem block_pop (f : Nat → Bool) (n x m k : Nat) (hn : n ≤ 6) (hk : k < 2 ^ n) (hs : k &&& m = k) (h1 : f (x ^^^ k) ≠ f x) (h2 : ∀ j, j < k → j &&& m = j → f (x ^^^ j) = f x) : (pop k : Int) ≤ sp f (x ^^^ k) n := by
  have h := sp_count f (x ^^^ k) k n
  rw [← pop_len hn hk]
  rw [List.countP_eq_length.2 fun i hi => ?_] at h
  · exact h
  · have hi := mem_bitsL.1 hi
    refine bne_iff_ne.2 ?_
    rw [Nat.xor_assoc]
    have hlt : k ^^^ 2 ^ i < k := by
      have h3 : (k ^^^ 2 ^ i) &&& 2 ^ i = 0 := (and_bit _ i).2 (by rw [tb_same, hi.2]; rfl)
      have h4 := or_gt h3
      rwa [or_bit ((and_bit _ i).1 h3), Nat.xor_assoc, Nat.xor_self, Nat.xor_zero] at h4
    rw [h2 _ hlt (sb_iff.2 fun j hj => ?_)]
    · exact fun e => h1 e.symm
    · by_cases hij : i = j
      · subst hij
        rw [tb_same, hi.2] at hj
        cases hj
      · rw [tb_other hij] at hj
        exact sb_iff.1 hs j hj
theorem xor_lt {m k : Nat} (h0 : 0 < k) (hs : k &&& m = k) : m ^^^ k < m := by
  have h1 : (m ^^^ k) &&& m = m ^^^ k := sb_iff.2 fun i hi => by
    have h2 := sb_iff.1 hs i
    rw [Nat.testBit_xor] at hi
    revert hi h2
    cases m.testBit i <;> cases k.testBit i <;> simp
  have h2 : m ^^^ k ≤ m := by rw [← h1]; exact Nat.and_le_right
  rcases Nat.lt_or_ge (m ^^^ k) m with h | h
  · exact h
  · have h3 : m ^^^ k = m := by omega
    have h4 : m ^^^ (m ^^^ k) = 0 := by rw [h3, Nat.xor_self]
    rw [← Nat.xor_assoc, Nat.xor_self, Nat.zero_xor] at h4
    omega
theorem greedy (f : Nat → Bool) (n x : Nat) (hn : n ≤ 6) (hx : x < 2 ^ n) (s : Nat) (hS : ∀ y, y < 2 ^ n → sp f y n ≤ s) : ∀ (M m : Nat), m ≤ M → m < 2 ^ n → ∃ c, c < 2 ^ n ∧ (∀ j, j &&& m = j → j &&& c = 0 → f (x ^^^ j) = f x) ∧ (pop c : Int) ≤ s * (pt f x (2 ^ n)).1 m
  | M, m, h, hm => by
    have hp64 : 2 ^ n ≤ 64 := Nat.pow_le_pow_right (n := 2) (by decide) hn
    by_cases hc : ∃ k, k &&& m = k ∧ f (x ^^^ k) ≠ f x
    · obtain ⟨k0, a1, a2⟩ := hc
      obtain ⟨k, k1, k2, k3⟩ := least_block f x m k0 k0 (Nat.le_refl _) a1 a2
      have hkm : k ≤ m := by rw [← k1]; exact Nat.and_le_right
      have hk0 : 0 < k := by
        rcases Nat.eq_zero_or_pos k with rfl | h
        · exact absurd (by rw [Nat.xor_zero]) k2
        · exact h
      have hlt : m ^^^ k < m := xor_lt hk0 k1
      match M, h with
      | 0, h => omega
      | M + 1, h =>
        obtain ⟨c, c1, c2, c3⟩ := greedy f n x hn hx s hS M (m ^^^ k) (by omega) (by omega)
        refine ⟨c ||| k, or_small c1 (by omega), fun j j1 j2 => ?_, ?_⟩
        · have hj1 : j &&& k = 0 := dj_iff.2 fun i hi => by
            have := dj_iff.1 j2 i hi
            rw [Nat.testBit_or] at this
            revert this
            cases k.testBit i <;> simp
          refine c2 j (sb_rest j1 hj1) (dj_iff.2 fun i hi => ?_)
          have := dj_iff.1 j2 i hi
          rw [Nat.testBit_or] at this
          revert this
          cases c.testBit i <;> simp
        · have b := pt_block f x (2 ^ n) hp64 m m (Nat.le_refl _) hm k hk0 k1
          have hsb : sb f x k = 1 := by
            unfold sb
            rw [if_pos (bne_iff_ne.2 (Ne.symm k2))]
          have hp := pop_or (show c < 64 by omega) (show k < 64 by omega)
          have hb := block_pop f n x m k hn (by omega) k1 k2 k3
          have hb2 := hS (x ^^^ k) (xor_small hx (by omega))
          rw [hsb] at b
          have h1 : (s : Int) * ((pt f x (2 ^ n)).1 (m ^^^ k) + 1) ≤ s * (pt f x (2 ^ n)).1 m := Int.mul_le_mul_of_nonneg_left b (Int.natCast_nonneg s)
          rw [Int.mul_add] at h1
          omega
    · exact ⟨0, Nat.two_pow_pos n, fun j j1 _ => Classical.byContradiction fun e => hc ⟨j, j1, e⟩, by
        have := pt_nonneg f x (2 ^ n) hp64 hm
        exact Int.mul_nonneg (Int.natCast_nonneg s) this⟩
end Go.Proofs.Ytnfboopfpkaeaaa
/- HuangS: contracts of functions. -/
namespace Go.Proofs.Ytnfboopfpkaeaaa
open Go Go.Eng Nim
set_option maxRecDepth 100000
theorem huang_law (f : Nat → Bool) (n : Nat) (hn : n ≤ 5) (x B : Nat) (hx : x < 2 ^ n) (hB : (bk f (2 ^ n) x).length = B) (hall : ∀ y, y < 2 ^ n → (bk f (2 ^ n) y).length ≤ B) : HuangLaw f n B := by
  have hp64 : 2 ^ n ≤ 64 := Nat.pow_le_pow_right (n := 2) (by decide) (show n ≤ 6 by omega)
  have hp0 := Nat.two_pow_pos n
  obtain ⟨s, hs⟩ := Int.eq_ofNat_of_zero_le (mz_nonneg (fun x => sp f x n) (2 ^ n))
  have hS : ∀ y, y < 2 ^ n → sp f y n ≤ s := fun y hy => by rw [← hs]; exact mz_ge (fun x => sp f x n) (2 ^ n) y hy
  have hP : ∀ y, y < 2 ^ n → (pt f y (2 ^ n)).1 (2 ^ n - 1) ≤ B := fun y hy => by
    rw [← tk_len f y (2 ^ n) hp64 (2 ^ n) (2 ^ n - 1) (by omega) (by omega)]
    exact Int.ofNat_le.2 (hall y hy)
  refine ⟨?_, ?_, ?_, dgF_depth f n hn, ?_, ?_⟩
  · exact mz_le _ _ (Int.natCast_nonneg B) _ fun y hy => Int.le_trans (sp_blocks f n y (by omega) n (Nat.le_refl _)) (hP y hy)
  · have h1 := blocks_cert f n x (by omega) hx
    rw [hB] at h1
    exact Int.le_trans h1 (mz_ge _ _ x hx)
  · refine mz_le _ _ (Int.natCast_nonneg _) _ fun y hy => ?_
    obtain ⟨k, k1, k2, k3⟩ := cert_depth f n hn (2 ^ n) 0 (by omega) hp0 y hy
    rw [Nat.and_zero, show pop 0 = 0 from rfl, Nat.zero_add] at k3
    exact Int.le_trans (cp_min f k1 k2) (Int.ofNat_le.2 k3)
  · rw [hs, ← Int.natCast_mul]
    exact Int.ofNat_le.2 (deg_sens f n hn s hS)
  · rw [hs]
    have h0 : (0 : Int) ≤ s * Int.ofNat B := Int.mul_nonneg (Int.natCast_nonneg s) (Int.natCast_nonneg B)
    refine mz_le _ _ h0 _ fun y hy => ?_
    obtain ⟨c, c1, c2, c3⟩ := greedy f n y (by omega) hy s hS (2 ^ n - 1) (2 ^ n - 1) (Nat.le_refl _) (by omega)
    refine Int.le_trans (cp_min f c1 (sme_iff.2 fun z hz e => ?_)) (Int.le_trans c3 (Int.mul_le_mul_of_nonneg_left (hP y hy) (Int.natCast_nonneg s)))
    have h1 : y ^^^ (y ^^^ z) = z := by rw [← Nat.xor_assoc, Nat.xor_self, Nat.zero_xor]
    have h2 := c2 (y ^^^ z) (and_full (xor_small hy hz)) (Nat.eq_of_testBit_eq fun j => by
      have h3 := congrArg (fun w => w.testBit j) e
      simp only [Nat.testBit_and] at h3
      rw [Nat.testBit_and, Nat.testBit_xor, Nat.zero_testBit]
      revert h3
      cases z.testBit j <;> cases y.testBit j <;> cases c.testBit j <;> simp)
    rwa [h1] at h2
theorem said7 (x a0 a1 : Int) (h : Hp) : ∃ H, evInv Try.prog orc 100000 200 (.fn 7 [.int .u64 x, .agg #[I a0, I a1]]) h = some (.bool true, H) :=
  s7 (fun f n hn x B hx hB hall => huang_law f n hn x B hx hB hall) x a0 a1 100000 199 (upH 39) h
end Go.Proofs.Ytnfboopfpkaeaaa
