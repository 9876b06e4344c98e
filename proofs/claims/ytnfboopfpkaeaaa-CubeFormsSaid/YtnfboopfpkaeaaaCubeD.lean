/- CubeD: contracts of functions. -/
import Derived.Test.YtnfboopfpkaeaaaProg
import Derived.KernelRfl
import Derived.Test.YtnfboopfpkaeaaaSyB
import Derived.Test.YtnfboopfpkaeaaaCubeC
namespace Go.Proofs.Ytnfboopfpkaeaaa
open Go Go.Eng Nim
set_option maxRecDepth 100000
set_option maxHeartbeats 4000000
/-- What the functions below call. -/
structure Lower (lf m n : Nat) : Prop where
  hn : n ≤ 6
  hlf : 300 ≤ lf
  sz : ∀ h, Ev lf m 56 [J (2 ^ n)] h = some (.tuple #[J n, .bool true], h)
  ck : ∀ a c h, Ev lf m 54 [.slice a (2 ^ n) c] h = some (J 0, h)
  nb : ∀ b h, Ev lf m 74 [.bool b] h = some (I (if b = true then 1 else 0), h)
  ns : ∀ f a c h, Rds h (.slice a (2 ^ n) c) (cellsF (2 ^ n) fun x => Value.bool (f x)) → ∃ x h', Ev lf m 67 [.slice a (2 ^ n) c] h = some (x, h') ∧ ∃ b, x = .slice (some ⟨b, 0, none⟩) (2 ^ n) (2 * 2 ^ n + 1) ∧ h.next ≤ b ∧ h.Ext h' ∧ ArI b (2 ^ n) (num f) h'
  tI : ∀ (k : Nat) (s : Int → Int → Int × Int) (Bd : Int → Prop) (v : Nat → Int), (k = 69 ∨ k = 89 ∨ k = 73) → (∀ i x, i ≤ n → Far (trn s i v x)) → (k = 69 → s = wsh) → (k = 89 → s = up (fun a b => b - a)) → (k = 73 → s = up (fun a b => b + a)) → ∀ b c h, ArI b (2 ^ n) v h →
    ∃ x h', Ev lf m 68 [.slice (some ⟨b, 0, none⟩) (2 ^ n) c, .func (.func k) #[] #[]] h = some (x, h') ∧ x = .tuple #[] ∧ ArI b (2 ^ n) (trn s n v) h' ∧ h'.next = h.next ∧ ∀ j, j ≠ b → h'.get j = h.get j
  tB : ∀ (v : Nat → Bool) b c h, ArB b (2 ^ n) v h →
    ∃ x h', Ev lf m 63 [.slice (some ⟨b, 0, none⟩) (2 ^ n) c, .func (.func 64) #[] #[]] h = some (x, h') ∧ x = .tuple #[] ∧ ArB b (2 ^ n) (trn (up fun a b => a != b) n v) h' ∧ h'.next = h.next ∧ ∀ j, j ≠ b → h'.get j = h.get j
  cI : ∀ v b c h, ArI b (2 ^ n) v h → ∃ x h', Ev lf m 72 [.slice (some ⟨b, 0, none⟩) (2 ^ n) c] h = some (x, h') ∧ ∃ b', x = .slice (some ⟨b', 0, none⟩) (2 ^ n) (2 * 2 ^ n + 1) ∧ h.next ≤ b' ∧ h.Ext h' ∧ ArI b' (2 ^ n) v h'
  cB : ∀ v b c h, ArB b (2 ^ n) v h → ∃ x h', Ev lf m 62 [.slice (some ⟨b, 0, none⟩) (2 ^ n) c] h = some (x, h') ∧ ∃ b', x = .slice (some ⟨b', 0, none⟩) (2 ^ n) (2 * 2 ^ n + 1) ∧ h.next ≤ b' ∧ h.Ext h' ∧ ArB b' (2 ^ n) v h'
/-- A block that is new may be turned. -/
theorem ext_of {h g g' : Hp} {b : Nat} (X : h.Ext g) (hb : h.next ≤ b) (hn : g'.next = g.next) (ho : ∀ j, j ≠ b → g'.get j = g.get j) : h.Ext g' :=
  ⟨by rw [hn]; exact X.next, fun j hj => (ho j (by omega)).trans (X.get j hj)⟩
theorem far_sgn (f : Nat → Bool) (n : Nat) (hn : n ≤ 6) : ∀ i x, i ≤ n → Far (trn wsh i (sgn f) x) := by
  intro i x hi
  have h := trn_le (s := wsh) (B := 1) (fun a b B h1 h2 h3 h4 => ⟨⟨by simp only [wsh]; omega, by simp only [wsh]; omega⟩, by simp only [wsh]; omega, by simp only [wsh]; omega⟩) (l := sgn f) (fun x => by unfold sgn; split <;> omega) i x
  have hp : (2 : Int) ^ i ≤ 64 := by
    have : 2 ^ i ≤ 2 ^ 6 := Nat.pow_le_pow_right (by decide) (by omega)
    exact_mod_cast this
  unfold Far
  omega
theorem le_num (f : Nat → Bool) : ∀ i x, -(2 ^ i * 1) ≤ trn (up fun a b : Int => b - a) i (num f) x ∧ trn (up fun a b : Int => b - a) i (num f) x ≤ 2 ^ i * 1 :=
  trn_le (s := up fun a b => b - a) (fun a b B h1 h2 h3 h4 => ⟨⟨by simp only [up]; omega, by simp only [up]; omega⟩, by simp only [up]; omega, by simp only [up]; omega⟩) (l := num f) (fun x => by unfold num; split <;> omega)
theorem pow64 {i n : Nat} (hi : i ≤ n) (hn : n ≤ 6) : (2 : Int) ^ i ≤ 64 := by
  have : 2 ^ i ≤ 2 ^ 6 := Nat.pow_le_pow_right (by decide) (by omega)
  exact_mod_cast this
theorem far_num (f : Nat → Bool) (n : Nat) (hn : n ≤ 6) : ∀ i x, i ≤ n → Far (trn (up fun a b : Int => b - a) i (num f) x) := by
  intro i x hi
  have h := le_num f i x
  have hp := pow64 hi hn
  unfold Far
  omega
theorem far_back (f : Nat → Bool) (n : Nat) (hn : n ≤ 6) : ∀ i x, i ≤ n → Far (trn (up fun a b : Int => b + a) i (trn (up fun a b : Int => b - a) n (num f)) x) := by
  intro i x hi
  have hq := pow64 (Nat.le_refl n) hn
  have h := trn_le (s := up fun a b => b + a) (B := 64) (fun a b B h1 h2 h3 h4 => ⟨⟨by simp only [up]; omega, by simp only [up]; omega⟩, by simp only [up]; omega, by simp only [up]; omega⟩) (l := trn (up fun a b : Int => b - a) n (num f)) (fun x => by have := le_num f n x; omega) i x
  have hp := pow64 hi hn
  unfold Far
  omega
theorem spectrum_of (f : Nat → Bool) (n lf m : Nat) (L : Lower lf m n) (a : Option Addr) (c : Nat) (h : Hp) (A : Rds h (.slice a (2 ^ n) c) (cellsF (2 ^ n) fun x => Value.bool (f x))) :
    ∃ x h', Ev lf (m + 1) 25 [.slice a (2 ^ n) c] h = some (x, h') ∧ ∃ b, x = .tuple #[.slice (some ⟨b, 0, none⟩) (2 ^ n) (2 * 2 ^ n + 1), J 0] ∧ h.next ≤ b ∧ h.Ext h' ∧ ArI b (2 ^ n) (trn wsh n (sgn f)) h' := by
  have hp64 : 2 ^ n ≤ 64 := Nat.pow_le_pow_right (n := 2) (by decide) L.hn
  have hlf := L.hlf
  obtain ⟨x1, h1, e1, b, rfl, hb, X1, A1⟩ := L.ns f a c h A
  refine fnS_ok (Q := fun x h' => ∃ b, x = .tuple #[.slice (some ⟨b, 0, none⟩) (2 ^ n) (2 * 2 ^ n + 1), J 0] ∧ h.next ≤ b ∧ h.Ext h' ∧ ArI b (2 ^ n) (trn wsh n (sgn f)) h') ?_
  have ck := L.ck a c h
  have tI := L.tI 69 wsh Far (sgn f) (.inl rfl) (far_sgn f n L.hn) (fun _ => rfl) (fun hc => by cases hc) (fun hc => by cases hc) b (2 * 2 ^ n + 1)
  generalize hN : 2 ^ n = N at *
  refine ok_go 0 ?_
  refine sy_call 0 (by kernel_rfl) ck ?_
  refine ok_go 2 ?_
  refine sy_call 0 (by kernel_rfl) e1 ?_
  refine ok_go 1 ?_
  refine sy_loop 0 lf h1 (α := Nat) (fun s => [(5, .slice (some ⟨b, 0, none⟩) N (2 * N + 1)), (15, .slice (some ⟨b, 0, none⟩) N (2 * N + 1)), (16, J N), (17, J s)]) (fun s g => s ≤ N ∧ h.Ext g ∧ ArI b N (fun x => if x < s then sgn f x else num f x) g) (fun s _ => N - s) 0 (by kernel_rfl) (by kernel_rfl) ⟨by kernel_rfl, by kernel_rfl, by kernel_rfl, by kernel_rfl, trivial⟩ (show N - 0 < lf by omega) ⟨Nat.zero_le _, X1, A1.congr fun x _ => (if_neg (Nat.not_lt_zero x)).symm⟩ ?_
  rintro m1 k f1 g ⟨hk, X, A2⟩ ih
  refine ok_go 1 ?_
  refine sy_test 0 (decide (Int.ofNat k < Int.ofNat N)) (by kernel_rfl) ?_ ?_
  · intro hlt
    have hlt := ok_nat hlt
    have r := A2.read hlt
    rw [if_neg (Nat.lt_irrefl _)] at r
    obtain ⟨g2, e2, A3, n3, o3⟩ := A2.store hlt (sgn f k)
    have hw : IntKind.wrap .i64 (1 - IntKind.wrap .i64 (2 * num f k)) = sgn f k := by
      unfold num sgn
      cases f k <;> rfl
    refine ok_go 0 ?_
    refine sy_load 0 (r := indexAddrOp Try.prog 50 (.slice (some ⟨b, 0, none⟩) N (2 * N + 1)) (J k)) (h' := g) (by kernel_rfl) (idxI hlt) ?_
    refine ok_go 0 ?_
    refine sy_load 0 (r := loadT Try.prog g 3 (ptr b k)) (h' := g) (by kernel_rfl) r ?_
    refine ok_go 2 ?_
    refine sy_load 0 (r := indexAddrOp Try.prog 50 (.slice (some ⟨b, 0, none⟩) N (2 * N + 1)) (J k)) (h' := g) (by kernel_rfl) (idxI hlt) ?_
    refine ok_go 0 ?_
    refine sy_store 0 (r := storeT Try.prog g 3 (ptr b k) (I (IntKind.wrap .i64 (1 - IntKind.wrap .i64 (2 * num f k))))) (by kernel_rfl) (by rw [hw]; exact e2) ?_
    refine ok_go 1 ?_
    exact sy_next 0 _ g2 (by kernel_rfl) (by kernel_rfl) (ih (k + 1) _ g2 ⟨hlt, ext_of X hb n3 o3, A3.congr fun x _ => by
      by_cases hx : x = k
      · rw [if_pos hx, if_pos (by omega), hx]
      · rw [if_neg hx]
        by_cases hx2 : x < k
        · rw [if_pos hx2, if_pos (by omega)]
        · rw [if_neg hx2, if_neg (by omega)]⟩ (show N - (k + 1) < N - k by omega) ⟨by kernel_rfl, by kernel_rfl, by kernel_rfl, (by kernel_rfl : _ = Value.int .i64 (IntKind.wrap .i64 (Int.ofNat (k + 1)))).trans (by rw [wrap_nat (by omega)]), trivial⟩)
  · intro hlt
    have hlt := no_nat hlt
    obtain ⟨_, g2, e3, rfl, A3, n3, o3⟩ := tI g (A2.congr fun x hx => if_pos (by omega))
    refine ok_go 0 ?_
    refine sy_call 0 (by kernel_rfl) e3 ?_
    refine ok_go 0 ?_
    exact sy_done 0 (v := .tuple #[.slice (some ⟨b, 0, none⟩) N (2 * N + 1), J 0]) (h := g2) (by kernel_rfl) ⟨b, rfl, hb, ext_of X hb n3 o3, A3⟩
theorem reals_of (f : Nat → Bool) (n lf m : Nat) (L : Lower lf m n) (a : Option Addr) (c : Nat) (h : Hp) (A : Rds h (.slice a (2 ^ n) c) (cellsF (2 ^ n) fun x => Value.bool (f x))) :
    ∃ x h', Ev lf (m + 1) 65 [.slice a (2 ^ n) c] h = some (x, h') ∧ ∃ b, x = .slice (some ⟨b, 0, none⟩) (2 ^ n) (2 * 2 ^ n + 1) ∧ h.next ≤ b ∧ h.Ext h' ∧ ArI b (2 ^ n) (trn (up fun a b => b - a) n (num f)) h' := by
  obtain ⟨x1, h1, e1, b, rfl, hb, X1, A1⟩ := L.ns f a c h A
  obtain ⟨_, g2, e3, rfl, A3, n3, o3⟩ := L.tI 89 (up fun a b => b - a) Far (num f) (.inr (.inl rfl)) (far_num f n L.hn) (fun hc => by cases hc) (fun _ => rfl) (fun hc => by cases hc) b (2 * 2 ^ n + 1) h1 A1
  refine fnS_ok (Q := fun x h' => ∃ b, x = .slice (some ⟨b, 0, none⟩) (2 ^ n) (2 * 2 ^ n + 1) ∧ h.next ≤ b ∧ h.Ext h' ∧ ArI b (2 ^ n) (trn (up fun a b => b - a) n (num f)) h') ?_
  generalize hN : 2 ^ n = N at *
  refine ok_go 0 ?_
  refine sy_call 0 (by kernel_rfl) e1 ?_
  refine ok_go 0 ?_
  refine sy_call 0 (by kernel_rfl) e3 ?_
  refine ok_go 0 ?_
  exact sy_done 0 (v := .slice (some ⟨b, 0, none⟩) N (2 * N + 1)) (h := g2) (by kernel_rfl) ⟨b, rfl, hb, ext_of X1 hb n3 o3, A3⟩
theorem Reals_of (f : Nat → Bool) (n lf m : Nat) (L : Lower lf m n) (a : Option Addr) (c : Nat) (h : Hp) (rl : ∃ x h', Ev lf m 65 [.slice a (2 ^ n) c] h = some (x, h') ∧ ∃ b, x = .slice (some ⟨b, 0, none⟩) (2 ^ n) (2 * 2 ^ n + 1) ∧ h.next ≤ b ∧ h.Ext h' ∧ ArI b (2 ^ n) (trn (up fun a b => b - a) n (num f)) h') :
    ∃ x h', Ev lf (m + 1) 23 [.slice a (2 ^ n) c] h = some (x, h') ∧ ∃ b, x = .tuple #[.slice (some ⟨b, 0, none⟩) (2 ^ n) (2 * 2 ^ n + 1), J 0] ∧ h.next ≤ b ∧ h.Ext h' ∧ ArI b (2 ^ n) (trn (up fun a b => b - a) n (num f)) h' := by
  obtain ⟨x1, h1, e1, b, rfl, hb, X1, A1⟩ := rl
  have ck := L.ck a c h
  refine fnS_ok (Q := fun x h' => ∃ b, x = .tuple #[.slice (some ⟨b, 0, none⟩) (2 ^ n) (2 * 2 ^ n + 1), J 0] ∧ h.next ≤ b ∧ h.Ext h' ∧ ArI b (2 ^ n) (trn (up fun a b => b - a) n (num f)) h') ?_
  generalize hN : 2 ^ n = N at *
  refine ok_go 0 ?_
  refine sy_call 0 (by kernel_rfl) ck ?_
  refine ok_go 2 ?_
  refine sy_call 0 (by kernel_rfl) e1 ?_
  refine ok_go 0 ?_
  exact sy_done 0 (v := .tuple #[.slice (some ⟨b, 0, none⟩) N (2 * N + 1), J 0]) (h := h1) (by kernel_rfl) ⟨b, rfl, hb, X1, A1⟩
theorem remainders_of (f : Nat → Bool) (n lf m : Nat) (L : Lower lf m n) (b0 c : Nat) (h : Hp) (A : ArB b0 (2 ^ n) f h) :
    ∃ x h', Ev lf (m + 1) 22 [.slice (some ⟨b0, 0, none⟩) (2 ^ n) c] h = some (x, h') ∧ ∃ b, x = .tuple #[.slice (some ⟨b, 0, none⟩) (2 ^ n) (2 * 2 ^ n + 1), J 0] ∧ h.next ≤ b ∧ h.Ext h' ∧ ArB b (2 ^ n) (trn (up fun a b => a != b) n f) h' := by
  obtain ⟨x1, h1, e1, b, rfl, hb, X1, A1⟩ := L.cB f b0 c h A
  obtain ⟨_, g2, e3, rfl, A3, n3, o3⟩ := L.tB f b (2 * 2 ^ n + 1) h1 A1
  have ck := L.ck (some ⟨b0, 0, none⟩) c h
  refine fnS_ok (Q := fun x h' => ∃ b, x = .tuple #[.slice (some ⟨b, 0, none⟩) (2 ^ n) (2 * 2 ^ n + 1), J 0] ∧ h.next ≤ b ∧ h.Ext h' ∧ ArB b (2 ^ n) (trn (up fun a b => a != b) n f) h') ?_
  generalize hN : 2 ^ n = N at *
  refine ok_go 0 ?_
  refine sy_call 0 (by kernel_rfl) ck ?_
  refine ok_go 2 ?_
  refine sy_call 0 (by kernel_rfl) e1 ?_
  refine ok_go 0 ?_
  refine sy_call 0 (by kernel_rfl) e3 ?_
  refine ok_go 0 ?_
  exact sy_done 0 (v := .tuple #[.slice (some ⟨b, 0, none⟩) N (2 * N + 1), J 0]) (h := g2) (by kernel_rfl) ⟨b, rfl, hb, ext_of X1 hb n3 o3, A3⟩
end Go.Proofs.Ytnfboopfpkaeaaa
