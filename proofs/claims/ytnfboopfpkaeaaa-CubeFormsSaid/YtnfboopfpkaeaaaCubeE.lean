/- CubeE: contracts of functions. -/
import Derived.Test.YtnfboopfpkaeaaaProg
import Derived.KernelRfl
import Derived.Test.YtnfboopfpkaeaaaSyB
import Derived.Test.YtnfboopfpkaeaaaCubeD
namespace Go.Proofs.Ytnfboopfpkaeaaa
open Go Go.Eng Nim
set_option maxRecDepth 100000
set_option maxHeartbeats 4000000
theorem from_of (f : Nat → Bool) (n lf m : Nat) (L : Lower lf m n) (b0 c : Nat) (h : Hp) (A : ArI b0 (2 ^ n) (trn (up fun a b => b - a) n (num f)) h) :
    ∃ x h', Ev lf (m + 1) 32 [.slice (some ⟨b0, 0, none⟩) (2 ^ n) c] h = some (x, h') ∧ ∃ b, x = .tuple #[.slice (some ⟨b, 0, none⟩) (2 ^ n) (2 * 2 ^ n + 1), J 0] ∧ h.next ≤ b ∧ h.Ext h' ∧ ArB b (2 ^ n) f h' := by
  have hp64 : 2 ^ n ≤ 64 := Nat.pow_le_pow_right (n := 2) (by decide) L.hn
  have hp1 : 1 ≤ 2 ^ n := Nat.one_le_two_pow
  have hlf := L.hlf
  have hn6 := L.hn
  have hle := fun x => le_num f n x
  have hpc : ((2 : Int) ^ n) = ((2 ^ n : Nat) : Int) := by simp
  have hback := reals_back n (num f)
  have hfb := far_back f n L.hn
  generalize hv : trn (up fun a b : Int => b - a) n (num f) = v at *
  obtain ⟨x1, h1, e1, b, rfl, hb, X1, A1⟩ := L.cI v b0 c h A
  obtain ⟨_, g2, e3, rfl, A3, n3, o3⟩ := L.tI 73 (up fun a b => b + a) Far v (.inr (.inr rfl)) hfb (fun hc => by cases hc) (fun hc => by cases hc) (fun _ => rfl) b (2 * 2 ^ n + 1) h1 A1
  rw [hback] at A3
  have sz := L.sz h
  have X3 : h.Ext g2 := ext_of X1 hb n3 o3
  refine fnS_ok (Q := fun x h' => ∃ b, x = .tuple #[.slice (some ⟨b, 0, none⟩) (2 ^ n) (2 * 2 ^ n + 1), J 0] ∧ h.next ≤ b ∧ h.Ext h' ∧ ArB b (2 ^ n) f h') ?_
  have hmin : min (IntKind.wrap .u64 (Int.ofNat n)).toNat IntKind.i64.bits = n := by
    rcases (by omega : n = 0 ∨ n = 1 ∨ n = 2 ∨ n = 3 ∨ n = 4 ∨ n = 5 ∨ n = 6) with rfl | rfl | rfl | rfl | rfl | rfl | rfl <;> rfl
  have hsh : IntKind.wrap .i64 (1 * 2 ^ n) = Int.ofNat (2 ^ n) := by
    rw [Int.one_mul, hpc]
    exact wrap_nat (by omega)
  generalize hN : 2 ^ n = N at *
  refine ok_go 1 ?_
  refine sy_call 0 (by kernel_rfl) sz ?_
  refine ok_go 5 ?_
  refine sy_loop 0 lf h (α := Nat) (fun s => [(0, .slice (some ⟨b0, 0, none⟩) N c), (4, J n), (20, .slice (some ⟨b0, 0, none⟩) N c), (21, J N), (22, J s)]) (fun s g => s ≤ N ∧ g = h) (fun s _ => N - s) 0 (by kernel_rfl) (by kernel_rfl) ⟨by kernel_rfl, by kernel_rfl, by kernel_rfl, by kernel_rfl, by kernel_rfl, trivial⟩ (show N - 0 < lf by omega) ⟨Nat.zero_le _, rfl⟩ ?_
  rintro m1 k f1 g ⟨hk, rfl⟩ ih
  refine ok_go 1 ?_
  refine sy_test 0 (decide (Int.ofNat k < Int.ofNat N)) (by kernel_rfl) ?_ ?_
  · intro hlt
    have hlt := ok_nat hlt
    have hlk := hle k
    refine ok_go 0 ?_
    refine sy_load 0 (r := indexAddrOp Try.prog 50 (.slice (some ⟨b0, 0, none⟩) N c) (J k)) (h' := g) (by kernel_rfl) (idxI hlt) ?_
    refine ok_go 0 ?_
    refine sy_load 0 (r := loadT Try.prog g 3 (ptr b0 k)) (h' := g) (by kernel_rfl) (A.read hlt) ?_
    refine ok_go 4 ?_
    refine sy_no 0 (b := decide (v k < IntKind.wrap .i64 (0 - IntKind.wrap .i64 (1 * 2 ^ min (IntKind.wrap .u64 (Int.ofNat n)).toNat IntKind.i64.bits)))) (by kernel_rfl) (by
      rw [hmin, hsh, wrap_int (by have : Int.ofNat N = (N : Int) := rfl; omega) (by have : Int.ofNat N = (N : Int) := rfl; omega)]
      refine decide_eq_false ?_
      have : Int.ofNat N = (N : Int) := rfl
      omega) ?_
    refine ok_go 8 ?_
    refine sy_no 0 (b := decide (v k > IntKind.wrap .i64 (1 * 2 ^ min (IntKind.wrap .u64 (Int.ofNat n)).toNat IntKind.i64.bits))) (by kernel_rfl) (by
      rw [hmin, hsh]
      refine decide_eq_false ?_
      have : Int.ofNat N = (N : Int) := rfl
      omega) ?_
    refine ok_go 1 ?_
    exact sy_next 0 _ g (by kernel_rfl) (by kernel_rfl) (ih (k + 1) _ g ⟨hlt, rfl⟩ (show N - (k + 1) < N - k by omega) ⟨by kernel_rfl, by kernel_rfl, by kernel_rfl, by kernel_rfl, (by kernel_rfl : _ = Value.int .i64 (IntKind.wrap .i64 (Int.ofNat (k + 1)))).trans (by rw [wrap_nat (by omega)]), trivial⟩)
  · intro hlt
    have hlt := no_nat hlt
    refine ok_go 0 ?_
    refine sy_call 0 (by kernel_rfl) e1 ?_
    refine ok_go 0 ?_
    refine sy_call 0 (by kernel_rfl) e3 ?_
    refine ok_go 1 ?_
    refine sy_loop 0 lf g2 (α := Nat × Value) (fun s => [(9, s.2), (44, .slice (some ⟨b, 0, none⟩) N (2 * N + 1)), (45, J N), (46, J s.1)]) (fun s k => s.1 ≤ N ∧ g2.Ext k ∧ OpenSl k 4 s.2 (cellsF s.1 fun x => Value.bool (f x)) ∧ ∀ j, j < g2.next → ∀ p q, s.2 ≠ .slice (some ⟨j, 0, none⟩) p q) (fun s _ => N - s.1) (0, .slice none 0 0) (by kernel_rfl) (by kernel_rfl) ⟨by kernel_rfl, by kernel_rfl, by kernel_rfl, by kernel_rfl, trivial⟩ (show N - 0 < lf by omega) ⟨Nat.zero_le _, Hp.Ext.refl _, .inl ⟨rfl, rfl⟩, fun j _ p q hc => (by cases hc)⟩ ?_
    rintro m2 ⟨x, l⟩ f2 g3 ⟨hx, X4, O, hne⟩ ih2
    dsimp only at hx O hne
    refine ok_go 1 ?_
    refine sy_test 0 (decide (Int.ofNat x < Int.ofNat N)) (by kernel_rfl) ?_ ?_
    · intro hxl
      have hxl := ok_nat hxl
      have hbl := A3.lt
      have r3 : loadT Try.prog g3 3 (ptr b x) = some (I (num f x)) := by
        obtain ⟨op, eo⟩ := A3.get
        exact load1 agI (X4.at_ hbl eo) (cellsF_get hxl)
      obtain ⟨l', g4, e4, O', y1, y2, y3⟩ := append1 slB O (v := .bool (f x)) rfl (by rw [cellsF_len]; omega)
      have hx4 := X4.next
      have hstep := ih2 (x + 1, l')
      refine ok_go 0 ?_
      refine sy_load 0 (r := indexAddrOp Try.prog 50 (.slice (some ⟨b, 0, none⟩) N (2 * N + 1)) (J x)) (h' := g3) (by kernel_rfl) (idxI hxl) ?_
      cases hfx : f x with
      | true =>
        rw [show num f x = 1 by unfold num; rw [hfx]; rfl] at r3
        rw [hfx] at e4
        refine ok_go 0 ?_
        refine sy_load 0 (r := loadT Try.prog g3 3 (ptr b x)) (h' := g3) (by kernel_rfl) r3 ?_
        refine ok_go 8 ?_
        refine sy_call 0 (r := appendOp Try.prog (g3.new (.cells [.bool true] 4 false)) 27 l (.slice (some ⟨g3.next, 0, none⟩) 1 2)) (v := l') (h' := g4) (by kernel_rfl) e4 ?_
        refine ok_go 1 ?_
        exact sy_next 0 _ g4 (by kernel_rfl) (by kernel_rfl) (ih2 (x + 1, l') _ g4 ⟨hxl, ⟨by omega, fun j hj => (y2 j (by omega) (hne j hj)).trans (X4.get j hj)⟩, by rw [cellsF_succ]; exact O', fun j hj => y3 j (by omega)⟩ (show N - (x + 1) < N - x by omega) ⟨by kernel_rfl, by kernel_rfl, by kernel_rfl, (by kernel_rfl : _ = Value.int .i64 (IntKind.wrap .i64 (Int.ofNat (x + 1)))).trans (by rw [wrap_nat (by omega)]), trivial⟩)
      | false =>
        rw [show num f x = 0 by unfold num; rw [hfx]; rfl] at r3
        rw [hfx] at e4
        refine ok_go 0 ?_
        refine sy_load 0 (r := loadT Try.prog g3 3 (ptr b x)) (h' := g3) (by kernel_rfl) r3 ?_
        refine ok_go 7 ?_
        refine sy_call 0 (r := appendOp Try.prog (g3.new (.cells [.bool false] 4 false)) 27 l (.slice (some ⟨g3.next, 0, none⟩) 1 2)) (v := l') (h' := g4) (by kernel_rfl) e4 ?_
        refine ok_go 1 ?_
        exact sy_next 0 _ g4 (by kernel_rfl) (by kernel_rfl) (ih2 (x + 1, l') _ g4 ⟨hxl, ⟨by omega, fun j hj => (y2 j (by omega) (hne j hj)).trans (X4.get j hj)⟩, by rw [cellsF_succ]; exact O', fun j hj => y3 j (by omega)⟩ (show N - (x + 1) < N - x by omega) ⟨by kernel_rfl, by kernel_rfl, by kernel_rfl, (by kernel_rfl : _ = Value.int .i64 (IntKind.wrap .i64 (Int.ofNat (x + 1)))).trans (by rw [wrap_nat (by omega)]), trivial⟩)
    · intro hxl
      have hxl := no_nat hxl
      have hxN : x = N := by omega
      subst hxN
      obtain ⟨bb, rfl, B⟩ := openB hp1 O
      refine ok_go 0 ?_
      exact sy_done 0 (v := .tuple #[.slice (some ⟨bb, 0, none⟩) x (2 * x + 1), J 0]) (h := g3) (by kernel_rfl) ⟨bb, rfl, Nat.le_trans X3.next (Nat.le_of_not_lt fun hc => hne bb hc _ _ rfl), X3.trans X4, B⟩

/-- How many of the first k inputs are turned by a bit. -/
def part (f : Nat → Bool) (i k : Nat) : Int := ((List.range k).map fun x => if f (x ^^^ 2 ^ i) ≠ f x then (1 : Int) else 0).sum
theorem part_succ (f : Nat → Bool) (i k : Nat) : part f i (k + 1) = part f i k + (if f (k ^^^ 2 ^ i) ≠ f k then 1 else 0) := by
  unfold part
  rw [List.range_succ, List.map_append, List.sum_append]
  simp
theorem part_le (f : Nat → Bool) (i : Nat) : ∀ k, 0 ≤ part f i k ∧ part f i k ≤ k
  | 0 => by simp [part]
  | k + 1 => by
    rw [part_succ]
    have := part_le f i k
    split <;> omega
theorem influence_of (f : Nat → Bool) (n i lf m : Nat) (hi : i < n) (L : Lower lf m n) (b0 c : Nat) (h : Hp) (A : ArB b0 (2 ^ n) f h) :
    Ev lf (m + 1) 35 [.slice (some ⟨b0, 0, none⟩) (2 ^ n) c, J i] h = some (.tuple #[I (part f i (2 ^ n)), J 0], h) := by
  have hp64 : 2 ^ n ≤ 64 := Nat.pow_le_pow_right (n := 2) (by decide) L.hn
  have hlf := L.hlf
  have hn6 := L.hn
  have ck := L.ck (some ⟨b0, 0, none⟩) c h
  have sz := L.sz h
  have hfl : ∀ x, x < 2 ^ n → x ^^^ 2 ^ i < 2 ^ n := fun x hx => flip_lt hi hx
  have hpi : 2 ^ i ≤ 64 := Nat.le_trans (Nat.pow_le_pow_right (n := 2) (by decide) (Nat.le_of_lt hi)) hp64
  have hmin : min (IntKind.wrap .u64 (Int.ofNat i)).toNat IntKind.i64.bits = i := by
    rcases (by omega : i = 0 ∨ i = 1 ∨ i = 2 ∨ i = 3 ∨ i = 4 ∨ i = 5) with rfl | rfl | rfl | rfl | rfl | rfl <;> rfl
  have hsh : IntKind.wrap .i64 (1 * 2 ^ i) = Int.ofNat (2 ^ i) := by
    have hpc : ((2 : Int) ^ i) = ((2 ^ i : Nat) : Int) := by simp
    rw [Int.one_mul, hpc]
    exact wrap_nat (by omega)
  refine fn_eq ?_
  generalize hN : 2 ^ n = N at *
  refine ok_go 0 ?_
  refine sy_call 0 (by kernel_rfl) ck ?_
  refine ok_go 3 ?_
  refine sy_call 0 (by kernel_rfl) sz ?_
  refine ok_go 8 ?_
  refine sy_no 0 (b := decide (Int.ofNat i ≥ Int.ofNat n)) (by kernel_rfl) (decide_eq_false (by simp; omega)) ?_
  refine ok_go 1 ?_
  refine sy_loop 0 lf h (α := Nat) (fun s => [(0, .slice (some ⟨b0, 0, none⟩) N c), (1, J i), (9, I (part f i s)), (30, .slice (some ⟨b0, 0, none⟩) N c), (31, J N), (32, J s)]) (fun s g => s ≤ N ∧ g = h) (fun s _ => N - s) 0 (by kernel_rfl) (by kernel_rfl) ⟨by kernel_rfl, by kernel_rfl, by kernel_rfl, by kernel_rfl, by kernel_rfl, by kernel_rfl, trivial⟩ (show N - 0 < lf by omega) ⟨Nat.zero_le _, rfl⟩ ?_
  rintro m1 k f1 g ⟨hk, rfl⟩ ih
  refine ok_go 1 ?_
  refine sy_test 0 (decide (Int.ofNat k < Int.ofNat N)) (by kernel_rfl) ?_ ?_
  · intro hlt
    have hlt := ok_nat hlt
    have hx := hfl k hlt
    have hpl := part_le f i k
    have hxor : xorI (Int.ofNat k) (IntKind.wrap .i64 (1 * 2 ^ min (IntKind.wrap .u64 (Int.ofNat i)).toNat IntKind.i64.bits)) = Int.ofNat (k ^^^ 2 ^ i) := by
      rw [hmin, hsh, xor_nat (by omega) (by omega)]
    refine ok_go 0 ?_
    refine sy_load 0 (r := indexAddrOp Try.prog 27 (.slice (some ⟨b0, 0, none⟩) N c) (J k)) (h' := g) (by kernel_rfl) (idxB hlt) ?_
    refine ok_go 0 ?_
    refine sy_load 0 (r := loadT Try.prog g 4 (ptr b0 k)) (h' := g) (by kernel_rfl) (A.read hlt) ?_
    refine ok_go 3 ?_
    refine sy_load 0 (r := indexAddrOp Try.prog 27 (.slice (some ⟨b0, 0, none⟩) N c) (.int .i64 (xorI (Int.ofNat k) (IntKind.wrap .i64 (1 * 2 ^ min (IntKind.wrap .u64 (Int.ofNat i)).toNat IntKind.i64.bits))))) (h' := g) (by kernel_rfl) (by rw [hxor]; exact idxB hx) ?_
    refine ok_go 0 ?_
    refine sy_load 0 (r := loadT Try.prog g 4 (ptr b0 (k ^^^ 2 ^ i))) (h' := g) (by kernel_rfl) (A.read hx) ?_
    refine ok_go 1 ?_
    refine sy_call 0 (by kernel_rfl) (L.nb (f (k ^^^ 2 ^ i) != f k) g) ?_
    refine ok_go 2 ?_
    exact sy_next 0 _ g (by kernel_rfl) (by kernel_rfl) (ih (k + 1) _ g ⟨hlt, rfl⟩ (show N - (k + 1) < N - k by omega) ⟨by kernel_rfl, by kernel_rfl, (by kernel_rfl : _ = I (IntKind.wrap .i64 (part f i k + (if (f (k ^^^ 2 ^ i) != f k) = true then 1 else 0)))).trans (by
      rw [part_succ, wrap_int (by split <;> omega) (by split <;> omega)]
      congr 2
      cases f (k ^^^ 2 ^ i) <;> cases f k <;> rfl), by kernel_rfl, by kernel_rfl, (by kernel_rfl : _ = Value.int .i64 (IntKind.wrap .i64 (Int.ofNat (k + 1)))).trans (by rw [wrap_nat (by omega)]), trivial⟩)
  · intro hlt
    have hlt := no_nat hlt
    have hkN : k = N := by omega
    subst hkN
    refine ok_go 0 ?_
    exact sy_done 0 (v := .tuple #[I (part f i k), J 0]) (h := g) (by kernel_rfl) ⟨rfl, rfl⟩
theorem bools_of (f : Nat → Bool) (N lf m a ca b cb : Nat) (hN : N ≤ 64) (hlf : 300 ≤ lf) (h : Hp) (A : ArB a N f h) (B : ArB b N f h) : Ev lf (m + 1) 26 [.slice (some ⟨a, 0, none⟩) N ca, .slice (some ⟨b, 0, none⟩) N cb] h = some (.bool true, h) := by
  refine fn_eq ?_
  refine ok_go 3 ?_
  refine sy_no 0 (b := Int.ofNat N != Int.ofNat N) (by kernel_rfl) (ne_no rfl) ?_
  refine ok_go 0 ?_
  refine sy_loop 0 lf h (α := Nat) (fun s => [(0, .slice (some ⟨a, 0, none⟩) N ca), (1, .slice (some ⟨b, 0, none⟩) N cb), (5, J s)]) (fun s g => s ≤ N ∧ g = h) (fun s _ => N - s) 0 (by kernel_rfl) (by kernel_rfl) ⟨by kernel_rfl, by kernel_rfl, by kernel_rfl, trivial⟩ (show N - 0 < lf by omega) ⟨Nat.zero_le _, rfl⟩ ?_
  rintro m1 k f1 g ⟨hk, rfl⟩ ih
  refine ok_go 2 ?_
  refine sy_test 0 (decide (Int.ofNat k < Int.ofNat N)) (by kernel_rfl) ?_ ?_
  · intro hlt
    have hlt := ok_nat hlt
    refine ok_go 0 ?_
    refine sy_load 0 (r := indexAddrOp Try.prog 27 (.slice (some ⟨a, 0, none⟩) N ca) (J k)) (h' := g) (by kernel_rfl) (idxB hlt) ?_
    refine ok_go 0 ?_
    refine sy_load 0 (r := loadT Try.prog g 4 (ptr a k)) (h' := g) (by kernel_rfl) (A.read hlt) ?_
    refine ok_go 0 ?_
    refine sy_load 0 (r := indexAddrOp Try.prog 27 (.slice (some ⟨b, 0, none⟩) N cb) (J k)) (h' := g) (by kernel_rfl) (idxB hlt) ?_
    refine ok_go 0 ?_
    refine sy_load 0 (r := loadT Try.prog g 4 (ptr b k)) (h' := g) (by kernel_rfl) (B.read hlt) ?_
    refine ok_go 1 ?_
    refine sy_no 0 (b := f k != f k) (by kernel_rfl) (by simp) ?_
    refine ok_go 1 ?_
    exact sy_next 0 _ g (by kernel_rfl) (by kernel_rfl) (ih (k + 1) _ g ⟨hlt, rfl⟩ (show N - (k + 1) < N - k by omega) ⟨by kernel_rfl, by kernel_rfl, (by kernel_rfl : _ = Value.int .i64 (IntKind.wrap .i64 (Int.ofNat (k + 1)))).trans (by rw [wrap_nat (by omega)]), trivial⟩)
  · intro _
    refine ok_go 0 ?_
    exact sy_done 0 (v := .bool true) (h := g) (by kernel_rfl) ⟨rfl, rfl⟩
end Go.Proofs.Ytnfboopfpkaeaaa
