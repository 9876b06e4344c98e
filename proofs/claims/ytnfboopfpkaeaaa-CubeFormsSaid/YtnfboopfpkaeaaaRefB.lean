/- RefB: contracts of functions. -/
import Derived.Test.YtnfboopfpkaeaaaProg
import Derived.KernelRfl
import Derived.Test.YtnfboopfpkaeaaaSyB
import Derived.Test.YtnfboopfpkaeaaaRefA
namespace Go.Proofs.Ytnfboopfpkaeaaa
open Go Go.Eng Nim
set_option maxRecDepth 100000
set_option maxHeartbeats 4000000
/-- The sums of a list of numbers. -/
abbrev tv (n : Nat) (v : Nat → Int) : Nat → Int := trn (up fun a b => b + a) n v
/-- A list of numbers within a bound that is a real form. -/
def Form (B : Int) (n : Nat) (v : Nat → Int) : Prop := (∀ x, x < 2 ^ n → tv n v x = 0 ∨ tv n v x = 1) ∧ ∀ k, k < 2 ^ n → -B ≤ v k ∧ v k ≤ B
theorem rfrom_of (v : Nat → Int) (n lf m : Nat) (hn : n ≤ 6) (hlf : 300 ≤ lf) (b0 c : Nat) (h : Hp) (A : ArI b0 (2 ^ n) v h) :
    ∃ x h', Ev lf (m + 1) 34 [.slice (some ⟨b0, 0, none⟩) (2 ^ n) c] h = some (x, h') ∧ h.Ext h' ∧ ((¬ Form 1000 n v ∧ x = .tuple #[.slice none 0 0, .bool false]) ∨ (Form 1000 n v ∧ ∃ b, x = .tuple #[.slice (some ⟨b, 0, none⟩) (2 ^ n) (2 * 2 ^ n + 1), .bool true] ∧ h.next ≤ b ∧ ArB b (2 ^ n) (fun x => tv n v x == 1) h')) := by
  have hp64 : 2 ^ n ≤ 64 := Nat.pow_le_pow_right (n := 2) (by decide) hn
  have hp1 : 1 ≤ 2 ^ n := Nat.one_le_two_pow
  have law := fun m (hm : m < 2 ^ n) => value_I v hm
  refine fnS_ok (Q := fun x h' => h.Ext h' ∧ ((¬ Form 1000 n v ∧ x = .tuple #[.slice none 0 0, .bool false]) ∨ (Form 1000 n v ∧ ∃ b, x = .tuple #[.slice (some ⟨b, 0, none⟩) (2 ^ n) (2 * 2 ^ n + 1), .bool true] ∧ h.next ≤ b ∧ ArB b (2 ^ n) (fun x => tv n v x == 1) h'))) ?_
  unfold Form
  unfold tv
  generalize trn (up fun a b : Int => b + a) n v = u at *
  generalize hN : 2 ^ n = N at *
  refine ok_go 0 ?_
  refine sy_loop 0 lf h (α := Nat × Value) (fun s => [(0, .slice (some ⟨b0, 0, none⟩) N c), (4, s.2), (5, J s.1)]) (fun s g => s.1 ≤ N ∧ h.Ext g ∧ OpenSl g 4 s.2 (cellsF s.1 fun x => Value.bool (u x == 1)) ∧ (∀ j, j < h.next → ∀ p q, s.2 ≠ .slice (some ⟨j, 0, none⟩) p q) ∧ (∀ x, x < s.1 → u x = 0 ∨ u x = 1) ∧ ∀ k, k < s.1 → -1000 ≤ v k ∧ v k ≤ 1000) (fun s _ => N - s.1) (0, .slice none 0 0) (by kernel_rfl) (by kernel_rfl) ⟨by kernel_rfl, by kernel_rfl, by kernel_rfl, trivial⟩ (show N - 0 < lf by omega) ⟨Nat.zero_le _, Hp.Ext.refl _, .inl ⟨rfl, rfl⟩, fun j _ p q hc => (by cases hc), fun x hx => absurd hx (Nat.not_lt_zero x), fun x hx => absurd hx (Nat.not_lt_zero x)⟩ ?_
  rintro m1 ⟨i, l⟩ f1 g ⟨hi, X, O, hne, hu, hv⟩ ih
  dsimp only at hi O hne hu hv
  refine ok_go 2 ?_
  refine sy_test 0 (decide (Int.ofNat i < Int.ofNat N)) (by kernel_rfl) ?_ ?_
  · intro hlt
    have hlt := ok_nat hlt
    have A' := A.ext X
    refine ok_go 0 ?_
    refine sy_loop 0 lf g (α := Nat) (fun s => [(0, .slice (some ⟨b0, 0, none⟩) N c), (4, l), (5, J i), (6, I (fI (fun j => sub j i) v s)), (7, J s)]) (fun s k => s ≤ i + 1 ∧ k = g ∧ (-((s * 1000 : Nat) : Int) ≤ fI (fun j => sub j i) v s ∧ fI (fun j => sub j i) v s ≤ ((s * 1000 : Nat) : Int)) ∧ (i < s → -1000 ≤ v i ∧ v i ≤ 1000)) (fun s _ => i + 1 - s) 0 (by kernel_rfl) (by kernel_rfl) ⟨by kernel_rfl, by kernel_rfl, by kernel_rfl, by kernel_rfl, by kernel_rfl, trivial⟩ (show i + 1 - 0 < lf by omega) ⟨Nat.zero_le _, rfl, by simp [fI, fs], fun hc => absurd hc (Nat.not_lt_zero i)⟩ ?_
    rintro m2 k f2 g2 ⟨hk, rfl, hb, hvi⟩ ih2
    refine ok_go 1 ?_
    refine sy_test 0 (decide (Int.ofNat k ≤ Int.ofNat i)) (by kernel_rfl) ?_ ?_
    · intro hki
      have hki : k ≤ i := by have := of_decide_eq_true hki; simpa using this
      refine ok_go 2 ?_
      refine sy_test 0 (andI (Int.ofNat k) (Int.ofNat i) != Int.ofNat k) (by kernel_rfl) ?_ ?_
      · intro hs
        have hs : sub k i = false := by
          rw [← and_sub (by omega)]
          simpa [bne] using hs
        have hne : i ≠ k := fun hc => by rw [hc, sub_self] at hs; cases hs
        refine ok_go 1 ?_
        exact sy_next 0 _ g2 (by kernel_rfl) (by kernel_rfl) (ih2 (k + 1) _ g2 ⟨by omega, rfl, by rw [fI_succ, hs, if_neg (by decide), Int.add_zero]; omega, fun hc => hvi (by omega)⟩ (show i + 1 - (k + 1) < i + 1 - k by omega) ⟨by kernel_rfl, by kernel_rfl, by kernel_rfl, (by kernel_rfl : _ = I (fI (fun j => sub j i) v k)).trans (by
          rw [fI_succ, hs, if_neg (by decide), Int.add_zero]), (by kernel_rfl : _ = Value.int .i64 (IntKind.wrap .i64 (Int.ofNat (k + 1)))).trans (by rw [wrap_nat (by omega)]), trivial⟩)
      · intro hs
        have hs : sub k i = true := by
          rw [← and_sub (by omega)]
          simpa [bne] using hs
        refine ok_go 0 ?_
        refine sy_load 0 (r := indexAddrOp Try.prog 50 (.slice (some ⟨b0, 0, none⟩) N c) (J k)) (h' := g2) (by kernel_rfl) (idxI (by omega)) ?_
        refine ok_go 0 ?_
        refine sy_load 0 (r := loadT Try.prog g2 3 (ptr b0 k)) (h' := g2) (by kernel_rfl) (A'.read (by omega)) ?_
        refine ok_go 1 ?_
        have bad : (v k < -1000 ∨ v k > 1000) → h.Ext g2 ∧ ((¬ ((∀ x, x < N → u x = 0 ∨ u x = 1) ∧ ∀ k, k < N → -1000 ≤ v k ∧ v k ≤ 1000) ∧ (Value.tuple #[.slice none 0 0, .bool false]) = .tuple #[.slice none 0 0, .bool false]) ∨ (((∀ x, x < N → u x = 0 ∨ u x = 1) ∧ ∀ k, k < N → -1000 ≤ v k ∧ v k ≤ 1000) ∧ ∃ b, (Value.tuple #[.slice none 0 0, .bool false]) = .tuple #[.slice (some ⟨b, 0, none⟩) N (2 * N + 1), .bool true] ∧ h.next ≤ b ∧ ArB b N (fun x => u x == 1) g2)) :=
          fun hc => ⟨X, .inl ⟨fun hf => by have := hf.2 k (by omega); omega, rfl⟩⟩
        refine sy_test 0 (decide (v k < -1000)) (by kernel_rfl) ?_ ?_
        · intro h1
          have h1 : v k < -1000 := by simpa using h1
          refine ok_go 6 ?_
          exact sy_done 0 (v := .tuple #[.slice none 0 0, .bool false]) (h := g2) (by kernel_rfl) (bad (.inl h1))
        · intro h1
          have h1 : ¬ v k < -1000 := by simpa using h1
          refine ok_go 2 ?_
          refine sy_load 0 (r := indexAddrOp Try.prog 50 (.slice (some ⟨b0, 0, none⟩) N c) (J k)) (h' := g2) (by kernel_rfl) (idxI (by omega)) ?_
          refine ok_go 1 ?_
          refine sy_load 0 (r := loadT Try.prog g2 3 (ptr b0 k)) (h' := g2) (by kernel_rfl) (A'.read (by omega)) ?_
          refine ok_go 3 ?_
          refine sy_test 0 (decide (v k > 1000)) (by kernel_rfl) ?_ ?_
          · intro h2
            have h2 : v k > 1000 := by simpa using h2
            refine ok_go 0 ?_
            exact sy_done 0 (v := .tuple #[.slice none 0 0, .bool false]) (h := g2) (by kernel_rfl) (bad (.inr h2))
          · intro h2
            have h2 : ¬ v k > 1000 := by simpa using h2
            refine ok_go 0 ?_
            refine sy_load 0 (r := indexAddrOp Try.prog 50 (.slice (some ⟨b0, 0, none⟩) N c) (J k)) (h' := g2) (by kernel_rfl) (idxI (by omega)) ?_
            refine ok_go 0 ?_
            refine sy_load 0 (r := loadT Try.prog g2 3 (ptr b0 k)) (h' := g2) (by kernel_rfl) (A'.read (by omega)) ?_
            refine ok_go 2 ?_
            exact sy_next 0 _ g2 (by kernel_rfl) (by kernel_rfl) (ih2 (k + 1) _ g2 ⟨by omega, rfl, by rw [fI_succ, if_pos hs]; omega, fun hc => by
              obtain rfl | hlt : i = k ∨ i < k := by omega
              · omega
              · exact hvi hlt⟩ (show i + 1 - (k + 1) < i + 1 - k by omega) ⟨by kernel_rfl, by kernel_rfl, by kernel_rfl, (by kernel_rfl : _ = I (IntKind.wrap .i64 (fI (fun j => sub j i) v k + v k))).trans (by
              rw [fI_succ, if_pos hs, wrap_int (by omega) (by omega)]), (by kernel_rfl : _ = Value.int .i64 (IntKind.wrap .i64 (Int.ofNat (k + 1)))).trans (by rw [wrap_nat (by omega)]), trivial⟩)
    · intro hki
      have hki : i < k := by have := of_decide_eq_false hki; simp at this; omega
      obtain rfl : k = i + 1 := by omega
      have hl := law i hlt
      have hvi := hvi (by omega)
      have go : (u i = 0 ∨ u i = 1) → ∃ l' g', appendOp Try.prog (g2.new (.cells [Value.bool (fI (fun j => sub j i) v (i + 1) == 1)] 4 false)) 27 l (.slice (some ⟨g2.next, 0, none⟩) 1 2) = some (l', g') ∧ i + 1 ≤ N ∧ h.Ext g' ∧ OpenSl g' 4 l' (cellsF (i + 1) fun x => Value.bool (u x == 1)) ∧ (∀ j, j < h.next → ∀ p q, l' ≠ .slice (some ⟨j, 0, none⟩) p q) ∧ (∀ x, x < i + 1 → u x = 0 ∨ u x = 1) ∧ ∀ k, k < i + 1 → -1000 ≤ v k ∧ v k ≤ 1000 := by
        intro hui
        obtain ⟨l', g', e3, O', y1, y2, y3⟩ := append1 slB O (v := .bool (u i == 1)) rfl (by rw [cellsF_len]; omega)
        have hxn := X.next
        refine ⟨l', g', by rw [← hl]; exact e3, hlt, ⟨by omega, fun j hj => (y2 j (by omega) (hne j hj)).trans (X.get j hj)⟩, by rw [cellsF_succ]; exact O', fun j hj => y3 j (by omega), fun x hx => ?_, fun x hx => ?_⟩
        · obtain rfl | hx : x = i ∨ x < i := by omega
          · exact hui
          · exact hu x hx
        · obtain rfl | hx : x = i ∨ x < i := by omega
          · exact hvi
          · exact hv x hx
      rw [← hl] at *
      refine ok_go 1 ?_
      refine sy_test 0 (u i != 0) (by kernel_rfl) ?_ ?_
      · intro h0
        have h0 : u i ≠ 0 := by simpa using h0
        refine ok_go 3 ?_
        refine sy_test 0 (u i != 1) (by kernel_rfl) ?_ ?_
        · intro h1
          have h1 : u i ≠ 1 := by simpa using h1
          refine ok_go 0 ?_
          exact sy_done 0 (v := .tuple #[.slice none 0 0, .bool false]) (h := g2) (by kernel_rfl) ⟨X, .inl ⟨fun hf => by have := hf.1 i hlt; omega, rfl⟩⟩
        · intro h1
          have h1 : u i = 1 := by simpa using h1
          obtain ⟨l', g', e3, P'⟩ := go (.inr h1)
          refine ok_go 2 ?_
          refine sy_call 0 (r := appendOp Try.prog (g2.new (.cells [Value.bool (u i == 1)] 4 false)) 27 l (.slice (some ⟨g2.next, 0, none⟩) 1 2)) (v := l') (h' := g') (by kernel_rfl) e3 ?_
          refine ok_go 1 ?_
          exact sy_next 0 _ g' (by kernel_rfl) (by kernel_rfl) (ih (i + 1, l') _ g' P' (show N - (i + 1) < N - i by omega) ⟨by kernel_rfl, by kernel_rfl, (by kernel_rfl : _ = Value.int .i64 (IntKind.wrap .i64 (Int.ofNat (i + 1)))).trans (by rw [wrap_nat (by omega)]), trivial⟩)
      · intro h1
        have h1 : u i = 0 := by simpa using h1
        obtain ⟨l', g', e3, P'⟩ := go (.inl h1)
        refine ok_go 5 ?_
        refine sy_call 0 (r := appendOp Try.prog (g2.new (.cells [Value.bool (u i == 1)] 4 false)) 27 l (.slice (some ⟨g2.next, 0, none⟩) 1 2)) (v := l') (h' := g') (by kernel_rfl) e3 ?_
        refine ok_go 1 ?_
        exact sy_next 0 _ g' (by kernel_rfl) (by kernel_rfl) (ih (i + 1, l') _ g' P' (show N - (i + 1) < N - i by omega) ⟨by kernel_rfl, by kernel_rfl, (by kernel_rfl : _ = Value.int .i64 (IntKind.wrap .i64 (Int.ofNat (i + 1)))).trans (by rw [wrap_nat (by omega)]), trivial⟩)
  · intro hlt
    have hlt := no_nat hlt
    obtain rfl : N = i := by omega
    obtain ⟨b, rfl, B⟩ := openB hp1 O
    refine ok_go 0 ?_
    exact sy_done 0 (v := .tuple #[.slice (some ⟨b, 0, none⟩) N (2 * N + 1), .bool true]) (h := g) (by kernel_rfl) ⟨X, .inr ⟨⟨hu, hv⟩, b, rfl, Nat.le_of_not_lt fun hc => hne b hc _ _ rfl, B⟩⟩
end Go.Proofs.Ytnfboopfpkaeaaa
namespace Go.Proofs.Ytnfboopfpkaeaaa
open Go Go.Eng Nim
set_option maxRecDepth 100000
set_option maxHeartbeats 4000000
theorem trn_loc {α : Type} (s : α → α → α × α) {n : Nat} {f g : Nat → α} (h : ∀ x, x < 2 ^ n → f x = g x) : ∀ k, k ≤ n → ∀ x, x < 2 ^ n → trn s k f x = trn s k g x
  | 0, _, x, hx => h x hx
  | k + 1, hk, x, hx => by
    have ih := trn_loc s h k (by omega)
    have hf := flip_lt (i := k) (by omega) hx
    show stg s k (trn s k f) x = stg s k (trn s k g) x
    unfold stg
    rw [ih x hx, ih _ hf]
theorem form_iff (n : Nat) (hn : n ≤ 6) (v : Nat → Int) : Form 1000 n v ↔ Form ((2 ^ n : Nat) : Int) n v := by
  have hp64 : 2 ^ n ≤ 64 := Nat.pow_le_pow_right (n := 2) (by decide) hn
  have hpc : ((2 : Int) ^ n) = ((2 ^ n : Nat) : Int) := by simp
  constructor
  · rintro ⟨h1, h2⟩
    refine ⟨h1, fun k hk => ?_⟩
    have e := trn_loc (up fun a b : Int => b - a) (n := n) (f := tv n v) (g := num fun x => tv n v x == 1) (fun x hx => by
      show tv n v x = if (tv n v x == 1) = true then 1 else 0
      rcases h1 x hx with h | h <;> rw [h] <;> rfl) n (Nat.le_refl _) k hk
    rw [show trn (up fun a b : Int => b - a) n (tv n v) = v from reals_forth n v] at e
    have := le_num (fun x => tv n v x == 1) n k
    rw [hpc] at this
    omega
  · rintro ⟨h1, h2⟩
    exact ⟨h1, fun k hk => by have := h2 k hk; omega⟩
theorem far_gen (n : Nat) (hn : n ≤ 6) (v : Nat → Int) (hv : ∀ x, -64 ≤ v x ∧ v x ≤ 64) : ∀ i x, i ≤ n → Far (trn (up fun a b : Int => b + a) i v x) := by
  intro i x hi
  have h := trn_le (s := up fun a b => b + a) (B := 64) (fun a b B h1 h2 h3 h4 => ⟨⟨by simp only [up]; omega, by simp only [up]; omega⟩, by simp only [up]; omega, by simp only [up]; omega⟩) (l := v) hv i x
  have hp := pow64 hi hn
  unfold Far
  omega
theorem from_gen (v : Nat → Int) (n lf m : Nat) (L : Lower lf m n) (b0 c : Nat) (h : Hp) (A : ArI b0 (2 ^ n) v h) :
    ∃ x h', Ev lf (m + 1) 32 [.slice (some ⟨b0, 0, none⟩) (2 ^ n) c] h = some (x, h') ∧ h.Ext h' ∧ ((¬ Form ((2 ^ n : Nat) : Int) n v ∧ x = .tuple #[.slice none 0 0, I 1]) ∨ (Form ((2 ^ n : Nat) : Int) n v ∧ ∃ b, x = .tuple #[.slice (some ⟨b, 0, none⟩) (2 ^ n) (2 * 2 ^ n + 1), J 0] ∧ h.next ≤ b ∧ ArB b (2 ^ n) (fun x => tv n v x == 1) h')) := by
  have hp64 : 2 ^ n ≤ 64 := Nat.pow_le_pow_right (n := 2) (by decide) L.hn
  have hp1 : 1 ≤ 2 ^ n := Nat.one_le_two_pow
  have hlf := L.hlf
  have hn6 := L.hn
  have hmin := min_nat hn6
  have hsh := shl_nat hn6
  rw [hmin] at hsh
  obtain ⟨x1, h1, e1, b, rfl, hb, X1, A1⟩ := L.cI v b0 c h A
  have sz := L.sz h
  have turn : (∀ k, k < 2 ^ n → -((2 ^ n : Nat) : Int) ≤ v k ∧ v k ≤ ((2 ^ n : Nat) : Int)) → ∃ g2, Ev lf m 68 [.slice (some ⟨b, 0, none⟩) (2 ^ n) (2 * 2 ^ n + 1), .func (.func 73) #[] #[]] h1 = some (.tuple #[], g2) ∧ ArI b (2 ^ n) (tv n v) g2 ∧ h.Ext g2 := by
    intro hv
    have A1' : ArI b (2 ^ n) (fun x => if x < 2 ^ n then v x else 0) h1 := A1.congr fun x hx => (if_pos hx).symm
    obtain ⟨_, g2, e3, rfl, A3, n3, o3⟩ := L.tI 73 (up fun a b => b + a) Far (fun x => if x < 2 ^ n then v x else 0) (.inr (.inr rfl)) (far_gen n hn6 _ fun x => by
      split
      · rename_i hx; have := hv x hx; omega
      · omega) (fun hc => by cases hc) (fun hc => by cases hc) (fun _ => rfl) b (2 * 2 ^ n + 1) h1 A1'
    exact ⟨g2, e3, A3.congr fun x hx => trn_loc _ (fun y hy => if_pos hy) n (Nat.le_refl _) x hx, ext_of X1 hb n3 o3⟩
  refine fnS_ok (Q := fun x h' => h.Ext h' ∧ ((¬ Form ((2 ^ n : Nat) : Int) n v ∧ x = .tuple #[.slice none 0 0, I 1]) ∨ (Form ((2 ^ n : Nat) : Int) n v ∧ ∃ b, x = .tuple #[.slice (some ⟨b, 0, none⟩) (2 ^ n) (2 * 2 ^ n + 1), J 0] ∧ h.next ≤ b ∧ ArB b (2 ^ n) (fun x => tv n v x == 1) h'))) ?_
  unfold Form
  generalize tv n v = u at *
  generalize hN : 2 ^ n = N at *
  refine ok_go 1 ?_
  refine sy_call 0 (by kernel_rfl) sz ?_
  refine ok_go 5 ?_
  refine sy_loop 0 lf h (α := Nat) (fun s => [(0, .slice (some ⟨b0, 0, none⟩) N c), (4, J n), (20, .slice (some ⟨b0, 0, none⟩) N c), (21, J N), (22, J s)]) (fun s g => s ≤ N ∧ g = h ∧ ∀ k, k < s → -(N : Int) ≤ v k ∧ v k ≤ N) (fun s _ => N - s) 0 (by kernel_rfl) (by kernel_rfl) ⟨by kernel_rfl, by kernel_rfl, by kernel_rfl, by kernel_rfl, by kernel_rfl, trivial⟩ (show N - 0 < lf by omega) ⟨Nat.zero_le _, rfl, fun k hk => absurd hk (Nat.not_lt_zero k)⟩ ?_
  rintro m1 k f1 g ⟨hk, rfl, hv⟩ ih
  refine ok_go 1 ?_
  refine sy_test 0 (decide (Int.ofNat k < Int.ofNat N)) (by kernel_rfl) ?_ ?_
  · intro hlt
    have hlt := ok_nat hlt
    have bad : (v k < -(N : Int) ∨ v k > (N : Int)) → g.Ext g ∧ ((¬ ((∀ x, x < N → u x = 0 ∨ u x = 1) ∧ ∀ k, k < N → -(N : Int) ≤ v k ∧ v k ≤ N) ∧ (Value.tuple #[.slice none 0 0, I 1]) = .tuple #[.slice none 0 0, I 1]) ∨ (((∀ x, x < N → u x = 0 ∨ u x = 1) ∧ ∀ k, k < N → -(N : Int) ≤ v k ∧ v k ≤ N) ∧ ∃ b, (Value.tuple #[.slice none 0 0, I 1]) = .tuple #[.slice (some ⟨b, 0, none⟩) N (2 * N + 1), J 0] ∧ g.next ≤ b ∧ ArB b N (fun x => u x == 1) g)) :=
      fun hc => ⟨Hp.Ext.refl _, .inl ⟨fun hf => by have := hf.2 k hlt; omega, rfl⟩⟩
    have e1 : IntKind.wrap .i64 (0 - IntKind.wrap .i64 (1 * 2 ^ min (IntKind.wrap .u64 (Int.ofNat n)).toNat IntKind.i64.bits)) = -(N : Int) := by
      rw [hmin, hsh]
      show IntKind.wrap .i64 (0 - (N : Int)) = _
      rw [wrap_int (by omega) (by omega)]
      omega
    have e2 : IntKind.wrap .i64 (1 * 2 ^ min (IntKind.wrap .u64 (Int.ofNat n)).toNat IntKind.i64.bits) = (N : Int) := by
      rw [hmin, hsh]
      rfl
    refine ok_go 0 ?_
    refine sy_load 0 (r := indexAddrOp Try.prog 50 (.slice (some ⟨b0, 0, none⟩) N c) (J k)) (h' := g) (by kernel_rfl) (idxI hlt) ?_
    refine ok_go 0 ?_
    refine sy_load 0 (r := loadT Try.prog g 3 (ptr b0 k)) (h' := g) (by kernel_rfl) (A.read hlt) ?_
    refine ok_go 4 ?_
    refine sy_test 0 (decide (v k < IntKind.wrap .i64 (0 - IntKind.wrap .i64 (1 * 2 ^ min (IntKind.wrap .u64 (Int.ofNat n)).toNat IntKind.i64.bits)))) (by kernel_rfl) ?_ ?_
    · intro h1
      have h1 := of_decide_eq_true h1
      rw [e1] at h1
      refine ok_go 6 ?_
      exact sy_done 0 (v := .tuple #[.slice none 0 0, I 1]) (h := g) (by kernel_rfl) (bad (.inl h1))
    · intro h1
      have h1 := of_decide_eq_false h1
      rw [e1] at h1
      refine ok_go 8 ?_
      refine sy_test 0 (decide (v k > IntKind.wrap .i64 (1 * 2 ^ min (IntKind.wrap .u64 (Int.ofNat n)).toNat IntKind.i64.bits))) (by kernel_rfl) ?_ ?_
      · intro h2
        have h2 := of_decide_eq_true h2
        rw [e2] at h2
        refine ok_go 0 ?_
        exact sy_done 0 (v := .tuple #[.slice none 0 0, I 1]) (h := g) (by kernel_rfl) (bad (.inr h2))
      · intro h2
        have h2 := of_decide_eq_false h2
        rw [e2] at h2
        refine ok_go 1 ?_
        exact sy_next 0 _ g (by kernel_rfl) (by kernel_rfl) (ih (k + 1) _ g ⟨hlt, rfl, fun x hx => by
          obtain rfl | hx : x = k ∨ x < k := by omega
          · omega
          · exact hv x hx⟩ (show N - (k + 1) < N - k by omega) ⟨by kernel_rfl, by kernel_rfl, by kernel_rfl, by kernel_rfl, (by kernel_rfl : _ = Value.int .i64 (IntKind.wrap .i64 (Int.ofNat (k + 1)))).trans (by rw [wrap_nat (by omega)]), trivial⟩)
  · intro hlt
    have hlt := no_nat hlt
    obtain rfl : N = k := by omega
    obtain ⟨g2, e3, A3, X3⟩ := turn hv
    refine ok_go 0 ?_
    refine sy_call 0 (by kernel_rfl) e1 ?_
    refine ok_go 0 ?_
    refine sy_call 0 (by kernel_rfl) e3 ?_
    refine ok_go 1 ?_
    refine sy_loop 0 lf g2 (α := Nat × Value) (fun s => [(9, s.2), (44, .slice (some ⟨b, 0, none⟩) N (2 * N + 1)), (45, J N), (46, J s.1)]) (fun s k => s.1 ≤ N ∧ g2.Ext k ∧ OpenSl k 4 s.2 (cellsF s.1 fun x => Value.bool (u x == 1)) ∧ (∀ j, j < g2.next → ∀ p q, s.2 ≠ .slice (some ⟨j, 0, none⟩) p q) ∧ ∀ x, x < s.1 → u x = 0 ∨ u x = 1) (fun s _ => N - s.1) (0, .slice none 0 0) (by kernel_rfl) (by kernel_rfl) ⟨by kernel_rfl, by kernel_rfl, by kernel_rfl, by kernel_rfl, trivial⟩ (show N - 0 < lf by omega) ⟨Nat.zero_le _, Hp.Ext.refl _, .inl ⟨rfl, rfl⟩, fun j _ p q hc => (by cases hc), fun k hk => absurd hk (Nat.not_lt_zero k)⟩ ?_
    rintro m2 ⟨x, l⟩ f2 g3 ⟨hx, X4, O, hne, hu⟩ ih2
    dsimp only at hx O hne hu
    refine ok_go 1 ?_
    refine sy_test 0 (decide (Int.ofNat x < Int.ofNat N)) (by kernel_rfl) ?_ ?_
    · intro hxl
      have hxl := ok_nat hxl
      have hbl := A3.lt
      have r3 : loadT Try.prog g3 3 (ptr b x) = some (I (u x)) := (A3.ext X4).read hxl
      refine ok_go 0 ?_
      refine sy_load 0 (r := indexAddrOp Try.prog 50 (.slice (some ⟨b, 0, none⟩) N (2 * N + 1)) (J x)) (h' := g3) (by kernel_rfl) (idxI hxl) ?_
      refine ok_go 0 ?_
      refine sy_load 0 (r := loadT Try.prog g3 3 (ptr b x)) (h' := g3) (by kernel_rfl) r3 ?_
      have go : (u x = 0 ∨ u x = 1) → ∃ l' g', appendOp Try.prog (g3.new (.cells [Value.bool (u x == 1)] 4 false)) 27 l (.slice (some ⟨g3.next, 0, none⟩) 1 2) = some (l', g') ∧ x + 1 ≤ N ∧ g2.Ext g' ∧ OpenSl g' 4 l' (cellsF (x + 1) fun x => Value.bool (u x == 1)) ∧ (∀ j, j < g2.next → ∀ p q, l' ≠ .slice (some ⟨j, 0, none⟩) p q) ∧ ∀ y, y < x + 1 → u y = 0 ∨ u y = 1 := by
        intro hui
        obtain ⟨l', g', e3, O', y1, y2, y3⟩ := append1 slB O (v := .bool (u x == 1)) rfl (by rw [cellsF_len]; omega)
        have hxn := X4.next
        refine ⟨l', g', e3, hxl, ⟨by omega, fun j hj => (y2 j (by omega) (hne j hj)).trans (X4.get j hj)⟩, by rw [cellsF_succ]; exact O', fun j hj => y3 j (by omega), fun y hy => ?_⟩
        obtain rfl | hy : y = x ∨ y < x := by omega
        · exact hui
        · exact hu y hy
      refine ok_go 1 ?_
      refine sy_test 0 (u x != 0) (by kernel_rfl) ?_ ?_
      · intro h0
        have h0 : u x ≠ 0 := by simpa using h0
        refine ok_go 3 ?_
        refine sy_test 0 (u x != 1) (by kernel_rfl) ?_ ?_
        · intro h1
          have h1 : u x ≠ 1 := by simpa using h1
          refine ok_go 0 ?_
          exact sy_done 0 (v := .tuple #[.slice none 0 0, I 1]) (h := g3) (by kernel_rfl) ⟨X3.trans X4, .inl ⟨fun hf => by have := hf.1 x hxl; omega, rfl⟩⟩
        · intro h1
          have h1 : u x = 1 := by simpa using h1
          obtain ⟨l', g', e3, P'⟩ := go (.inr h1)
          refine ok_go 2 ?_
          refine sy_call 0 (r := appendOp Try.prog (g3.new (.cells [Value.bool (u x == 1)] 4 false)) 27 l (.slice (some ⟨g3.next, 0, none⟩) 1 2)) (v := l') (h' := g') (by kernel_rfl) e3 ?_
          refine ok_go 1 ?_
          exact sy_next 0 _ g' (by kernel_rfl) (by kernel_rfl) (ih2 (x + 1, l') _ g' P' (show N - (x + 1) < N - x by omega) ⟨by kernel_rfl, by kernel_rfl, by kernel_rfl, (by kernel_rfl : _ = Value.int .i64 (IntKind.wrap .i64 (Int.ofNat (x + 1)))).trans (by rw [wrap_nat (by omega)]), trivial⟩)
      · intro h1
        have h1 : u x = 0 := by simpa using h1
        obtain ⟨l', g', e3, P'⟩ := go (.inl h1)
        refine ok_go 5 ?_
        refine sy_call 0 (r := appendOp Try.prog (g3.new (.cells [Value.bool (u x == 1)] 4 false)) 27 l (.slice (some ⟨g3.next, 0, none⟩) 1 2)) (v := l') (h' := g') (by kernel_rfl) e3 ?_
        refine ok_go 1 ?_
        exact sy_next 0 _ g' (by kernel_rfl) (by kernel_rfl) (ih2 (x + 1, l') _ g' P' (show N - (x + 1) < N - x by omega) ⟨by kernel_rfl, by kernel_rfl, by kernel_rfl, (by kernel_rfl : _ = Value.int .i64 (IntKind.wrap .i64 (Int.ofNat (x + 1)))).trans (by rw [wrap_nat (by omega)]), trivial⟩)
    · intro hxl
      have hxl := no_nat hxl
      obtain rfl : N = x := by omega
      obtain ⟨bb, rfl, B⟩ := openB hp1 O
      refine ok_go 0 ?_
      exact sy_done 0 (v := .tuple #[.slice (some ⟨bb, 0, none⟩) N (2 * N + 1), J 0]) (h := g3) (by kernel_rfl) ⟨X3.trans X4, .inr ⟨⟨hu, hv⟩, bb, rfl, Nat.le_trans X3.next (Nat.le_of_not_lt fun hc => hne bb hc _ _ rfl), B⟩⟩
end Go.Proofs.Ytnfboopfpkaeaaa
