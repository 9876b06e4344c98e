/- RefA: contracts of functions. -/
import Derived.Test.YtnfboopfpkaeaaaProg
import Derived.KernelRfl
import Derived.Test.YtnfboopfpkaeaaaSyB
import Derived.Test.YtnfboopfpkaeaaaCubeRa
namespace Go.Proofs.Ytnfboopfpkaeaaa
open Go Go.Eng Nim
set_option maxRecDepth 100000
set_option maxHeartbeats 4000000
/-- How many of the items below a number are picked and true. -/
def cN (p g : Nat → Bool) : Nat → Nat
  | 0 => 0
  | k + 1 => cN p g k + (if (p k && g k) = true then 1 else 0)
theorem cN_le (p g : Nat → Bool) : ∀ k, cN p g k ≤ k
  | 0 => Nat.le_refl _
  | k + 1 => by have := cN_le p g k; unfold cN; split <;> omega
theorem cN_odd (p g : Nat → Bool) (b : Bool) : ∀ k, ((b.toNat + cN p g k) % 2 == 1) = (b != fX p g k)
  | 0 => by cases b <;> rfl
  | k + 1 => by
    have ih := cN_odd p g b k
    rw [fX_succ]
    unfold cN
    cases hb : (p k && g k)
    · simpa using ih
    · have h2 := Nat.mod_two_eq_zero_or_one (b.toNat + cN p g k)
      rw [if_pos rfl, ← Nat.add_assoc]
      rcases h2 with h | h
      · rw [h] at ih
        rw [Nat.add_mod, h]
        revert ih
        cases b <;> cases fX p g k <;> decide
      · rw [h] at ih
        rw [Nat.add_mod, h]
        revert ih
        cases b <;> cases fX p g k <;> decide
theorem ints_of (f : Nat → Int) (N lf m a ca b cb : Nat) (hN : N ≤ 64) (hlf : 300 ≤ lf) (h : Hp) (A : ArI a N f h) (B : ArI b N f h) : Ev lf (m + 1) 28 [.slice (some ⟨a, 0, none⟩) N ca, .slice (some ⟨b, 0, none⟩) N cb] h = some (.bool true, h) := by
  refine fn_eq ?_
  refine ok_go 3 ?_
  refine sy_no 0 (b := Int.ofNat N != Int.ofNat N) (by kernel_rfl) (ne_no rfl) ?_
  refine ok_go 0 ?_
  refine sy_loop 0 lf h (α := Nat) (fun s => [(0, .slice (some ⟨a, 0, none⟩) N ca), (1, .slice (some ⟨b, 0, none⟩) N cb), (5, J s)]) (fun s g => s ≤ N ∧ g = h) (fun s _ => N - s) 0 (by kernel_rfl) (by kernel_rfl) ⟨by kernel_rfl, by kernel_rfl, by kernel_rfl, trivial⟩ (show N - 0 < lf by omega) ⟨Nat.zero_le _, rfl⟩ ?_
  rintro m1 k f1 g ⟨hk, rfl⟩ ih
  refine ok_go 2 ?_
  refine sy_test 0 (decide (Int.ofNat k < Int.ofNat N)) (by kernel_rfl) ?_ ?_
  · intro hlt
    have hlt := ok_nat hlt
    refine ok_go 0 ?_
    refine sy_load 0 (r := indexAddrOp Try.prog 50 (.slice (some ⟨a, 0, none⟩) N ca) (J k)) (h' := g) (by kernel_rfl) (idxI hlt) ?_
    refine ok_go 0 ?_
    refine sy_load 0 (r := loadT Try.prog g 3 (ptr a k)) (h' := g) (by kernel_rfl) (A.read hlt) ?_
    refine ok_go 0 ?_
    refine sy_load 0 (r := indexAddrOp Try.prog 50 (.slice (some ⟨b, 0, none⟩) N cb) (J k)) (h' := g) (by kernel_rfl) (idxI hlt) ?_
    refine ok_go 0 ?_
    refine sy_load 0 (r := loadT Try.prog g 3 (ptr b k)) (h' := g) (by kernel_rfl) (B.read hlt) ?_
    refine ok_go 1 ?_
    refine sy_no 0 (b := f k != f k) (by kernel_rfl) (by simp) ?_
    refine ok_go 1 ?_
    exact sy_next 0 _ g (by kernel_rfl) (by kernel_rfl) (ih (k + 1) _ g ⟨hlt, rfl⟩ (show N - (k + 1) < N - k by omega) ⟨by kernel_rfl, by kernel_rfl, (by kernel_rfl : _ = Value.int .i64 (IntKind.wrap .i64 (Int.ofNat (k + 1)))).trans (by rw [wrap_nat (by omega)]), trivial⟩)
  · intro _
    refine ok_go 0 ?_
    exact sy_done 0 (v := .bool true) (h := g) (by kernel_rfl) ⟨rfl, rfl⟩
/-- The reference's lower functions. -/
structure RLow (lf m : Nat) : Prop where
  hlf : 300 ≤ lf
  va : ∀ b h, Ev lf m 70 [.bool b] h = some (I (if b = true then 1 else 0), h)
  on : ∀ z h, z < 64 → Ev lf m 71 [J z] h = some (J (pop z), h)
theorem and_sub {k i : Nat} (hk : k < 2 ^ 63) : (andI (Int.ofNat k) (Int.ofNat i) == Int.ofNat k) = sub k i := by
  rw [and_nat hk]
  unfold sub
  by_cases h : k &&& i = k
  · rw [h]; simp
  · rw [beq_eq_false_iff_ne.2 h, beq_eq_false_iff_ne.2 (fun hc => h (Int.ofNat.inj hc))]
theorem rrem_of (f : Nat → Bool) (n lf m : Nat) (hn : n ≤ 6) (L : RLow lf m) (b0 c : Nat) (h : Hp) (A : ArB b0 (2 ^ n) f h) :
    ∃ x h', Ev lf (m + 1) 27 [.slice (some ⟨b0, 0, none⟩) (2 ^ n) c] h = some (x, h') ∧ ∃ b, x = .slice (some ⟨b, 0, none⟩) (2 ^ n) (2 * 2 ^ n) ∧ h.next ≤ b ∧ h.Ext h' ∧ ArB b (2 ^ n) (trn (up fun a b => a != b) n f) h' := by
  have hp64 : 2 ^ n ≤ 64 := Nat.pow_le_pow_right (n := 2) (by decide) hn
  have hlf := L.hlf
  have law := fun m (hm : m < 2 ^ n) => rem_X f hm
  refine fnS_ok (Q := fun x h' => ∃ b, x = .slice (some ⟨b, 0, none⟩) (2 ^ n) (2 * 2 ^ n) ∧ h.next ≤ b ∧ h.Ext h' ∧ ArB b (2 ^ n) (trn (up fun a b => a != b) n f) h') ?_
  generalize trn (up fun a b => a != b) n f = v at *
  generalize hN : 2 ^ n = N at *
  refine ok_go 1 ?_
  refine sy_call 0 (r := makeSliceOp Try.prog h 27 (J N) (J N)) (v := .slice (some ⟨h.next, 0, none⟩) N (2 * N)) (h' := h.new (.cells (zeros [.bool false] N) 4 false)) (by kernel_rfl) (makeSl (z := .bool false) (inf := (Try.prog.info? 4).get!) uB (by kernel_rfl) (by kernel_rfl) (by kernel_rfl) (by kernel_rfl) (by kernel_rfl) (by omega)) ?_
  have B0 : ArB h.next N (fun _ => false) (h.new (.cells (zeros [.bool false] N) 4 false)) := ⟨Nat.lt_succ_self _, false, by rw [zeros_one]; exact get_new _ _⟩
  have X0 : h.Ext (h.new (.cells (zeros [.bool false] N) 4 false)) := Hp.Ext.new _ _
  generalize hh0 : h.new (.cells (zeros [.bool false] N) 4 false) = h0 at B0 X0
  clear hh0
  refine ok_go 0 ?_
  refine sy_loop 0 lf h0 (α := Nat) (fun s => [(0, .slice (some ⟨b0, 0, none⟩) N c), (3, .slice (some ⟨h.next, 0, none⟩) N (2 * N)), (4, J s)]) (fun s g => s ≤ N ∧ h.Ext g ∧ ArB h.next N (fun k => if k < s then v k else false) g) (fun s _ => N - s) 0 (by kernel_rfl) (by kernel_rfl) ⟨by kernel_rfl, by kernel_rfl, by kernel_rfl, trivial⟩ (show N - 0 < lf by omega) ⟨Nat.zero_le _, X0, B0⟩ ?_
  rintro m1 i f1 g ⟨hi, X, B⟩ ih
  refine ok_go 2 ?_
  refine sy_test 0 (decide (Int.ofNat i < Int.ofNat N)) (by kernel_rfl) ?_ ?_
  · intro hlt
    have hlt := ok_nat hlt
    have A' := A.ext X
    refine ok_go 0 ?_
    refine sy_load 0 (r := indexAddrOp Try.prog 27 (.slice (some ⟨b0, 0, none⟩) N c) (J i)) (h' := g) (by kernel_rfl) (idxB hlt) ?_
    refine ok_go 0 ?_
    refine sy_load 0 (r := loadT Try.prog g 4 (ptr b0 i)) (h' := g) (by kernel_rfl) (A'.read hlt) ?_
    refine ok_go 0 ?_
    refine sy_call 0 (by kernel_rfl) (L.va (f i) g) ?_
    refine ok_go 0 ?_
    refine sy_loop 0 lf g (α := Nat) (fun s => [(0, .slice (some ⟨b0, 0, none⟩) N c), (3, .slice (some ⟨h.next, 0, none⟩) N (2 * N)), (4, J i), (5, J ((f i).toNat + cN (fun k => sub k i) v s)), (6, J s)]) (fun s k => s ≤ i ∧ k = g) (fun s _ => i - s) 0 (by kernel_rfl) (by kernel_rfl) ⟨by kernel_rfl, by kernel_rfl, by kernel_rfl, (by cases f i <;> kernel_rfl), by kernel_rfl, trivial⟩ (show i - 0 < lf by omega) ⟨Nat.zero_le _, rfl⟩ ?_
    rintro m2 k f2 g2 ⟨hk, rfl⟩ ih2
    have hc := cN_le (fun k => sub k i) v k
    have hb2 := Bool.toNat_le (f i)
    refine ok_go 1 ?_
    refine sy_test 0 (decide (Int.ofNat k < Int.ofNat i)) (by kernel_rfl) ?_ ?_
    · intro hki
      have hki := ok_nat hki
      refine ok_go 2 ?_
      refine sy_test 0 (andI (Int.ofNat k) (Int.ofNat i) == Int.ofNat k) (by kernel_rfl) ?_ ?_
      · intro hs
        rw [and_sub (by omega)] at hs
        refine ok_go 0 ?_
        refine sy_load 0 (r := indexAddrOp Try.prog 27 (.slice (some ⟨h.next, 0, none⟩) N (2 * N)) (J k)) (h' := g2) (by kernel_rfl) (idxB (by omega)) ?_
        refine ok_go 0 ?_
        refine sy_load 0 (r := loadT Try.prog g2 4 (ptr h.next k)) (h' := g2) (by kernel_rfl) (B.read (by omega)) ?_
        refine ok_go 0 ?_
        refine sy_call 0 (by kernel_rfl) (L.va (if k < i then v k else false) g2) ?_
        refine ok_go 2 ?_
        exact sy_next 0 _ g2 (by kernel_rfl) (by kernel_rfl) (ih2 (k + 1) _ g2 ⟨hki, rfl⟩ (show i - (k + 1) < i - k by omega) ⟨by kernel_rfl, by kernel_rfl, by kernel_rfl, (by kernel_rfl : _ = I (IntKind.wrap .i64 (Int.ofNat ((f i).toNat + cN (fun k => sub k i) v k) + (if (if k < i then v k else false) = true then 1 else 0)))).trans (by
          rw [if_pos hki]
          show _ = J ((f i).toNat + (cN (fun k => sub k i) v k + (if (sub k i && v k) = true then 1 else 0)))
          rw [hs]
          cases v k
          · exact congrArg I (wrap_nat (n := (f i).toNat + cN (fun k => sub k i) v k) (by omega))
          · exact congrArg I (wrap_nat (n := (f i).toNat + cN (fun k => sub k i) v k + 1) (by omega))), (by kernel_rfl : _ = Value.int .i64 (IntKind.wrap .i64 (Int.ofNat (k + 1)))).trans (by rw [wrap_nat (by omega)]), trivial⟩)
      · intro hs
        rw [and_sub (by omega)] at hs
        refine ok_go 1 ?_
        exact sy_next 0 _ g2 (by kernel_rfl) (by kernel_rfl) (ih2 (k + 1) _ g2 ⟨hki, rfl⟩ (show i - (k + 1) < i - k by omega) ⟨by kernel_rfl, by kernel_rfl, by kernel_rfl, (by kernel_rfl : _ = J ((f i).toNat + cN (fun k => sub k i) v k)).trans (by
          show _ = J ((f i).toNat + (cN (fun k => sub k i) v k + (if (sub k i && v k) = true then 1 else 0)))
          rw [hs]
          rfl), (by kernel_rfl : _ = Value.int .i64 (IntKind.wrap .i64 (Int.ofNat (k + 1)))).trans (by rw [wrap_nat (by omega)]), trivial⟩)
    · intro hki
      have hki := no_nat hki
      obtain rfl : k = i := by omega
      have hv : ((Int.ofNat ((f k).toNat + cN (fun j => sub j k) v k)).tmod 2 == 1) = v k := by
        rw [law k hlt, ← cN_odd]
        show (Int.ofNat (((f k).toNat + cN (fun j => sub j k) v k) % 2) == 1) = _
        rcases Nat.mod_two_eq_zero_or_one ((f k).toNat + cN (fun j => sub j k) v k) with h | h <;> rw [h] <;> rfl
      obtain ⟨g3, e3, B3, n3, o3⟩ := B.store hlt (v k)
      refine ok_go 2 ?_
      refine sy_load 0 (r := indexAddrOp Try.prog 27 (.slice (some ⟨h.next, 0, none⟩) N (2 * N)) (J k)) (h' := g2) (by kernel_rfl) (idxB hlt) ?_
      refine ok_go 0 ?_
      refine sy_store 0 (r := storeT Try.prog g2 4 (ptr h.next k) (.bool ((Int.ofNat ((f k).toNat + cN (fun j => sub j k) v k)).tmod 2 == 1))) (by kernel_rfl) (by rw [hv]; exact e3) ?_
      refine ok_go 1 ?_
      exact sy_next 0 _ g3 (by kernel_rfl) (by kernel_rfl) (ih (k + 1) _ g3 ⟨hlt, ext_of X (Nat.le_refl _) n3 o3, B3.congr fun j hj => by
        by_cases h1 : j = k
        · rw [if_pos h1, if_pos (by omega), h1]
        · rw [if_neg h1]
          by_cases h2 : j < k
          · rw [if_pos h2, if_pos (by omega)]
          · rw [if_neg h2, if_neg (by omega)]⟩ (show N - (k + 1) < N - k by omega) ⟨by kernel_rfl, by kernel_rfl, (by kernel_rfl : _ = Value.int .i64 (IntKind.wrap .i64 (Int.ofNat (k + 1)))).trans (by rw [wrap_nat (by omega)]), trivial⟩)
  · intro hlt
    have hlt := no_nat hlt
    obtain rfl : N = i := by omega
    refine ok_go 0 ?_
    exact sy_done 0 (v := .slice (some ⟨h.next, 0, none⟩) N (2 * N)) (h := g) (by kernel_rfl) ⟨_, rfl, Nat.le_refl _, X, B.congr fun k hk => if_pos hk⟩
end Go.Proofs.Ytnfboopfpkaeaaa
namespace Go.Proofs.Ytnfboopfpkaeaaa
open Go Go.Eng Nim
set_option maxRecDepth 100000
set_option maxHeartbeats 4000000
theorem rreal_of (f : Nat → Bool) (n lf m : Nat) (hn : n ≤ 6) (L : RLow lf m) (b0 c : Nat) (h : Hp) (A : ArB b0 (2 ^ n) f h) :
    ∃ x h', Ev lf (m + 1) 29 [.slice (some ⟨b0, 0, none⟩) (2 ^ n) c] h = some (x, h') ∧ ∃ b, x = .slice (some ⟨b, 0, none⟩) (2 ^ n) (2 * 2 ^ n + 1) ∧ h.next ≤ b ∧ h.Ext h' ∧ ArI b (2 ^ n) (trn (up fun a b => b - a) n (num f)) h' := by
  have hp64 : 2 ^ n ≤ 64 := Nat.pow_le_pow_right (n := 2) (by decide) hn
  have hp1 : 1 ≤ 2 ^ n := Nat.one_le_two_pow
  have hlf := L.hlf
  have hpc : ((2 : Int) ^ n) = ((2 ^ n : Nat) : Int) := by simp
  have law := fun m (hm : m < 2 ^ n) => real_I (num f) hm
  have hle := fun x => le_num f n x
  rw [hpc] at hle
  refine fnS_ok (Q := fun x h' => ∃ b, x = .slice (some ⟨b, 0, none⟩) (2 ^ n) (2 * 2 ^ n + 1) ∧ h.next ≤ b ∧ h.Ext h' ∧ ArI b (2 ^ n) (trn (up fun a b => b - a) n (num f)) h') ?_
  generalize trn (up fun a b : Int => b - a) n (num f) = v at *
  generalize hN : 2 ^ n = N at *
  have hv : ∀ k, k ≤ N → ∀ i, -((k * 64 : Nat) : Int) ≤ fI (fun j => sub j i) v k ∧ fI (fun j => sub j i) v k ≤ ((k * 64 : Nat) : Int) := fun k _ i => fI_bound k fun x _ => by have := hle x; omega
  refine ok_go 0 ?_
  refine sy_loop 0 lf h (α := Nat × Value) (fun s => [(0, .slice (some ⟨b0, 0, none⟩) N c), (3, s.2), (4, J s.1)]) (fun s g => s.1 ≤ N ∧ h.Ext g ∧ OpenSl g 3 s.2 (cellsF s.1 fun x => I (v x)) ∧ ∀ j, j < h.next → ∀ p q, s.2 ≠ .slice (some ⟨j, 0, none⟩) p q) (fun s _ => N - s.1) (0, .slice none 0 0) (by kernel_rfl) (by kernel_rfl) ⟨by kernel_rfl, by kernel_rfl, by kernel_rfl, trivial⟩ (show N - 0 < lf by omega) ⟨Nat.zero_le _, Hp.Ext.refl _, .inl ⟨rfl, rfl⟩, fun j _ p q hc => (by cases hc)⟩ ?_
  rintro m1 ⟨i, l⟩ f1 g ⟨hi, X, O, hne⟩ ih
  dsimp only at hi O hne
  refine ok_go 2 ?_
  refine sy_test 0 (decide (Int.ofNat i < Int.ofNat N)) (by kernel_rfl) ?_ ?_
  · intro hlt
    have hlt := ok_nat hlt
    have A' := A.ext X
    refine ok_go 0 ?_
    refine sy_load 0 (r := indexAddrOp Try.prog 27 (.slice (some ⟨b0, 0, none⟩) N c) (J i)) (h' := g) (by kernel_rfl) (idxB hlt) ?_
    refine ok_go 0 ?_
    refine sy_load 0 (r := loadT Try.prog g 4 (ptr b0 i)) (h' := g) (by kernel_rfl) (A'.read hlt) ?_
    refine ok_go 0 ?_
    refine sy_call 0 (by kernel_rfl) (L.va (f i) g) ?_
    refine ok_go 0 ?_
    refine sy_loop 0 lf g (α := Nat) (fun s => [(0, .slice (some ⟨b0, 0, none⟩) N c), (3, l), (4, J i), (5, I (num f i - fI (fun j => sub j i) v s)), (6, J s)]) (fun s k => s ≤ i ∧ k = g) (fun s _ => i - s) 0 (by kernel_rfl) (by kernel_rfl) ⟨by kernel_rfl, by kernel_rfl, by kernel_rfl, (by show _ = I (num f i - 0); rw [Int.sub_zero]; kernel_rfl), by kernel_rfl, trivial⟩ (show i - 0 < lf by omega) ⟨Nat.zero_le _, rfl⟩ ?_
    rintro m2 k f2 g2 ⟨hk, rfl⟩ ih2
    have hb := hv k (by omega) i
    have hn01 : 0 ≤ num f i ∧ num f i ≤ 1 := by unfold num; split <;> omega
    refine ok_go 1 ?_
    refine sy_test 0 (decide (Int.ofNat k < Int.ofNat i)) (by kernel_rfl) ?_ ?_
    · intro hki
      have hki := ok_nat hki
      refine ok_go 2 ?_
      refine sy_test 0 (andI (Int.ofNat k) (Int.ofNat i) == Int.ofNat k) (by kernel_rfl) ?_ ?_
      · intro hs
        rw [and_sub (by omega)] at hs
        obtain ⟨b, rfl, B⟩ := openI (by omega) O
        refine ok_go 0 ?_
        refine sy_load 0 (r := indexAddrOp Try.prog 50 (.slice (some ⟨b, 0, none⟩) i (2 * i + 1)) (J k)) (h' := g2) (by kernel_rfl) (idxI (by omega)) ?_
        refine ok_go 0 ?_
        refine sy_load 0 (r := loadT Try.prog g2 3 (ptr b k)) (h' := g2) (by kernel_rfl) (B.read (by omega)) ?_
        refine ok_go 2 ?_
        have hvk := hle k
        exact sy_next 0 _ g2 (by kernel_rfl) (by kernel_rfl) (ih2 (k + 1) _ g2 ⟨hki, rfl⟩ (show i - (k + 1) < i - k by omega) ⟨by kernel_rfl, by kernel_rfl, by kernel_rfl, (by kernel_rfl : _ = I (IntKind.wrap .i64 (num f i - fI (fun j => sub j i) v k - v k))).trans (by
          rw [fI_succ, if_pos hs, wrap_int (by omega) (by omega)]
          congr 1
          omega), (by kernel_rfl : _ = Value.int .i64 (IntKind.wrap .i64 (Int.ofNat (k + 1)))).trans (by rw [wrap_nat (by omega)]), trivial⟩)
      · intro hs
        rw [and_sub (by omega)] at hs
        refine ok_go 1 ?_
        exact sy_next 0 _ g2 (by kernel_rfl) (by kernel_rfl) (ih2 (k + 1) _ g2 ⟨hki, rfl⟩ (show i - (k + 1) < i - k by omega) ⟨by kernel_rfl, by kernel_rfl, by kernel_rfl, (by kernel_rfl : _ = I (num f i - fI (fun j => sub j i) v k)).trans (by
          rw [fI_succ, hs, if_neg (by decide), Int.add_zero]), (by kernel_rfl : _ = Value.int .i64 (IntKind.wrap .i64 (Int.ofNat (k + 1)))).trans (by rw [wrap_nat (by omega)]), trivial⟩)
    · intro hki
      have hki := no_nat hki
      obtain rfl : k = i := by omega
      obtain ⟨l', g', e3, O', y1, y2, y3⟩ := append1 slI O (v := I (v k)) rfl (by rw [cellsF_len]; omega)
      have hxn := X.next
      refine ok_go 1 ?_
      refine sy_call 0 (r := appendOp Try.prog (g2.new (.cells [I (num f k - fI (fun j => sub j k) v k)] 3 false)) 50 l (.slice (some ⟨g2.next, 0, none⟩) 1 2)) (v := l') (h' := g') (by kernel_rfl) (by rw [← law k hlt]; exact e3) ?_
      refine ok_go 1 ?_
      exact sy_next 0 _ g' (by kernel_rfl) (by kernel_rfl) (ih (k + 1, l') _ g' ⟨hlt, ⟨by omega, fun j hj => (y2 j (by omega) (hne j hj)).trans (X.get j hj)⟩, by rw [cellsF_succ]; exact O', fun j hj => y3 j (by omega)⟩ (show N - (k + 1) < N - k by omega) ⟨by kernel_rfl, by kernel_rfl, (by kernel_rfl : _ = Value.int .i64 (IntKind.wrap .i64 (Int.ofNat (k + 1)))).trans (by rw [wrap_nat (by omega)]), trivial⟩)
  · intro hlt
    have hlt := no_nat hlt
    obtain rfl : N = i := by omega
    obtain ⟨b, rfl, B⟩ := openI hp1 O
    refine ok_go 0 ?_
    exact sy_done 0 (v := .slice (some ⟨b, 0, none⟩) N (2 * N + 1)) (h := g) (by kernel_rfl) ⟨b, rfl, Nat.le_of_not_lt fun hc => hne b hc _ _ rfl, X, B⟩
end Go.Proofs.Ytnfboopfpkaeaaa
namespace Go.Proofs.Ytnfboopfpkaeaaa
open Go Go.Eng Nim
set_option maxRecDepth 100000
set_option maxHeartbeats 4000000
/-- The highest number of bits of a mask below a number that has a number other than 0. -/
def dg (v : Nat → Int) : Nat → Nat
  | 0 => 0
  | k + 1 => if v k = 0 then dg v k else max (dg v k) (pop k)
theorem pop_le (z : Nat) : pop z ≤ 7 := by unfold pop; omega
theorem dg_le (v : Nat → Int) : ∀ k, dg v k ≤ 7
  | 0 => Nat.zero_le _
  | k + 1 => by
    have := dg_le v k
    have := pop_le k
    unfold dg
    split <;> omega
theorem max_nat (a b : Nat) : (if Int.ofNat b > Int.ofNat a then Int.ofNat b else Int.ofNat a) = Int.ofNat (max a b) := by
  show (if (b : Int) > (a : Int) then (b : Int) else (a : Int)) = ((max a b : Nat) : Int)
  split <;> omega
theorem rdeg_of (f : Nat → Bool) (n lf m : Nat) (hn : n ≤ 6) (L : RLow lf m) (b0 c : Nat) (h : Hp)
    (rl : ∃ x h', Ev lf m 29 [.slice (some ⟨b0, 0, none⟩) (2 ^ n) c] h = some (x, h') ∧ ∃ b, x = .slice (some ⟨b, 0, none⟩) (2 ^ n) (2 * 2 ^ n + 1) ∧ h.next ≤ b ∧ h.Ext h' ∧ ArI b (2 ^ n) (trn (up fun a b => b - a) n (num f)) h') :
    ∃ x h', Ev lf (m + 1) 30 [.slice (some ⟨b0, 0, none⟩) (2 ^ n) c] h = some (x, h') ∧ x = J (dg (trn (up fun a b => b - a) n (num f)) (2 ^ n)) ∧ h.Ext h' := by
  have hp64 : 2 ^ n ≤ 64 := Nat.pow_le_pow_right (n := 2) (by decide) hn
  have hlf := L.hlf
  obtain ⟨_, h1, e1, b, rfl, hb, X, A1⟩ := rl
  refine fnS_ok (Q := fun x h' => x = J (dg (trn (up fun a b => b - a) n (num f)) (2 ^ n)) ∧ h.Ext h') ?_
  generalize trn (up fun a b : Int => b - a) n (num f) = v at *
  generalize hN : 2 ^ n = N at *
  refine ok_go 0 ?_
  refine sy_call 0 (by kernel_rfl) e1 ?_
  refine ok_go 0 ?_
  refine sy_loop 0 lf h1 (α := Nat) (fun s => [(3, .slice (some ⟨b, 0, none⟩) N (2 * N + 1)), (4, J (dg v s)), (5, J s)]) (fun s g => s ≤ N ∧ g = h1) (fun s _ => N - s) 0 (by kernel_rfl) (by kernel_rfl) ⟨by kernel_rfl, by kernel_rfl, by kernel_rfl, trivial⟩ (show N - 0 < lf by omega) ⟨Nat.zero_le _, rfl⟩ ?_
  rintro m1 k f1 g ⟨hk, rfl⟩ ih
  refine ok_go 2 ?_
  refine sy_test 0 (decide (Int.ofNat k < Int.ofNat N)) (by kernel_rfl) ?_ ?_
  · intro hlt
    have hlt := ok_nat hlt
    refine ok_go 0 ?_
    refine sy_load 0 (r := indexAddrOp Try.prog 50 (.slice (some ⟨b, 0, none⟩) N (2 * N + 1)) (J k)) (h' := g) (by kernel_rfl) (idxI hlt) ?_
    refine ok_go 0 ?_
    refine sy_load 0 (r := loadT Try.prog g 3 (ptr b k)) (h' := g) (by kernel_rfl) (A1.read hlt) ?_
    refine ok_go 1 ?_
    refine sy_test 0 (v k != 0) (by kernel_rfl) ?_ ?_
    · intro h0
      have h0 : v k ≠ 0 := by simpa using h0
      refine ok_go 0 ?_
      refine sy_call 0 (by kernel_rfl) (L.on k g (by omega)) ?_
      refine ok_go 2 ?_
      exact sy_next 0 _ g (by kernel_rfl) (by kernel_rfl) (ih (k + 1) _ g ⟨hlt, rfl⟩ (show N - (k + 1) < N - k by omega) ⟨by kernel_rfl, (by kernel_rfl : _ = I (if Int.ofNat (pop k) > Int.ofNat (dg v k) then Int.ofNat (pop k) else Int.ofNat (dg v k))).trans (by unfold dg; rw [if_neg h0, max_nat]; cases k <;> rfl), (by kernel_rfl : _ = Value.int .i64 (IntKind.wrap .i64 (Int.ofNat (k + 1)))).trans (by rw [wrap_nat (by omega)]), trivial⟩)
    · intro h0
      have h0 : v k = 0 := by simpa using h0
      refine ok_go 1 ?_
      exact sy_next 0 _ g (by kernel_rfl) (by kernel_rfl) (ih (k + 1) _ g ⟨hlt, rfl⟩ (show N - (k + 1) < N - k by omega) ⟨by kernel_rfl, (by kernel_rfl : _ = J (dg v k)).trans (by unfold dg; rw [if_pos h0]; cases k <;> rfl), (by kernel_rfl : _ = Value.int .i64 (IntKind.wrap .i64 (Int.ofNat (k + 1)))).trans (by rw [wrap_nat (by omega)]), trivial⟩)
  · intro hlt
    have hlt := no_nat hlt
    obtain rfl : N = k := by omega
    refine ok_go 0 ?_
    exact sy_done 0 (v := J (dg v N)) (h := g) (by kernel_rfl) ⟨rfl, X⟩
theorem deg_of (f : Nat → Bool) (n lf m : Nat) (hn : n ≤ 6) (hlf : 300 ≤ lf) (ck : ∀ a c h, Ev lf m 54 [.slice a (2 ^ n) c] h = some (J 0, h)) (co : ∀ z h, z < 64 → Ev lf m 66 [J z] h = some (J (pop z), h)) (b0 c : Nat) (h : Hp)
    (rl : ∃ x h', Ev lf m 65 [.slice (some ⟨b0, 0, none⟩) (2 ^ n) c] h = some (x, h') ∧ ∃ b, x = .slice (some ⟨b, 0, none⟩) (2 ^ n) (2 * 2 ^ n + 1) ∧ h.next ≤ b ∧ h.Ext h' ∧ ArI b (2 ^ n) (trn (up fun a b => b - a) n (num f)) h') :
    ∃ x h', Ev lf (m + 1) 24 [.slice (some ⟨b0, 0, none⟩) (2 ^ n) c] h = some (x, h') ∧ x = .tuple #[J (dg (trn (up fun a b => b - a) n (num f)) (2 ^ n)), J 0] ∧ h.Ext h' := by
  have hp64 : 2 ^ n ≤ 64 := Nat.pow_le_pow_right (n := 2) (by decide) hn
  obtain ⟨_, h1, e1, b, rfl, hb, X, A1⟩ := rl
  have ck := ck (some ⟨b0, 0, none⟩) c h
  refine fnS_ok (Q := fun x h' => x = .tuple #[J (dg (trn (up fun a b => b - a) n (num f)) (2 ^ n)), J 0] ∧ h.Ext h') ?_
  generalize trn (up fun a b : Int => b - a) n (num f) = v at *
  generalize hN : 2 ^ n = N at *
  refine ok_go 0 ?_
  refine sy_call 0 (by kernel_rfl) ck ?_
  refine ok_go 2 ?_
  refine sy_call 0 (by kernel_rfl) e1 ?_
  refine ok_go 1 ?_
  refine sy_loop 0 lf h1 (α := Nat) (fun s => [(14, .slice (some ⟨b, 0, none⟩) N (2 * N + 1)), (15, J N), (5, J (dg v s)), (16, J s)]) (fun s g => s ≤ N ∧ g = h1) (fun s _ => N - s) 0 (by kernel_rfl) (by kernel_rfl) ⟨by kernel_rfl, by kernel_rfl, by kernel_rfl, by kernel_rfl, trivial⟩ (show N - 0 < lf by omega) ⟨Nat.zero_le _, rfl⟩ ?_
  rintro m1 k f1 g ⟨hk, rfl⟩ ih
  refine ok_go 1 ?_
  refine sy_test 0 (decide (Int.ofNat k < Int.ofNat N)) (by kernel_rfl) ?_ ?_
  · intro hlt
    have hlt := ok_nat hlt
    refine ok_go 0 ?_
    refine sy_load 0 (r := indexAddrOp Try.prog 50 (.slice (some ⟨b, 0, none⟩) N (2 * N + 1)) (J k)) (h' := g) (by kernel_rfl) (idxI hlt) ?_
    refine ok_go 0 ?_
    refine sy_load 0 (r := loadT Try.prog g 3 (ptr b k)) (h' := g) (by kernel_rfl) (A1.read hlt) ?_
    refine ok_go 1 ?_
    refine sy_test 0 (v k != 0) (by kernel_rfl) ?_ ?_
    · intro h0
      have h0 : v k ≠ 0 := by simpa using h0
      refine ok_go 0 ?_
      refine sy_call 0 (by kernel_rfl) (co k g (by omega)) ?_
      refine ok_go 2 ?_
      exact sy_next 0 _ g (by kernel_rfl) (by kernel_rfl) (ih (k + 1) _ g ⟨hlt, rfl⟩ (show N - (k + 1) < N - k by omega) ⟨by kernel_rfl, by kernel_rfl, (by kernel_rfl : _ = I (if Int.ofNat (pop k) > Int.ofNat (dg v k) then Int.ofNat (pop k) else Int.ofNat (dg v k))).trans (by unfold dg; rw [if_neg h0, max_nat]; cases k <;> rfl), (by kernel_rfl : _ = Value.int .i64 (IntKind.wrap .i64 (Int.ofNat (k + 1)))).trans (by rw [wrap_nat (by omega)]), trivial⟩)
    · intro h0
      have h0 : v k = 0 := by simpa using h0
      refine ok_go 1 ?_
      exact sy_next 0 _ g (by kernel_rfl) (by kernel_rfl) (ih (k + 1) _ g ⟨hlt, rfl⟩ (show N - (k + 1) < N - k by omega) ⟨by kernel_rfl, by kernel_rfl, (by kernel_rfl : _ = J (dg v k)).trans (by unfold dg; rw [if_pos h0]; cases k <;> rfl), (by kernel_rfl : _ = Value.int .i64 (IntKind.wrap .i64 (Int.ofNat (k + 1)))).trans (by rw [wrap_nat (by omega)]), trivial⟩)
  · intro hlt
    have hlt := no_nat hlt
    obtain rfl : N = k := by omega
    refine ok_go 0 ?_
    exact sy_done 0 (v := .tuple #[J (dg v N), J 0]) (h := g) (by kernel_rfl) ⟨rfl, X⟩
end Go.Proofs.Ytnfboopfpkaeaaa
namespace Go.Proofs.Ytnfboopfpkaeaaa
open Go Go.Eng Nim
set_option maxRecDepth 100000
set_option maxHeartbeats 4000000
/-- One term of the spectrum. -/
def tm (f : Nat → Bool) (i j : Nat) : Int := ch (i &&& j) * sgn f j
theorem tm_le (f : Nat → Bool) (i j : Nat) : -((1 : Nat) : Int) ≤ tm f i j ∧ tm f i j ≤ ((1 : Nat) : Int) := by
  unfold tm ch sgn
  split <;> split <;> decide
theorem tm_eq (b : Bool) (o : Nat) (ho : o ≤ 7) (s : Int) (h0 : -1000 ≤ s) (h1 : s ≤ 1000) :
    IntKind.wrap .i64 (IntKind.wrap .i64 (s + 1) - IntKind.wrap .i64 (2 * (IntKind.wrap .i64 ((if b = true then 1 else 0) + Int.ofNat o)).tmod 2)) = s + (if o % 2 = 1 then -1 else 1) * (if b = true then -1 else 1) := by
  have e : IntKind.wrap .i64 (2 * (IntKind.wrap .i64 ((if b = true then 1 else 0) + Int.ofNat o)).tmod 2) = 1 - (if o % 2 = 1 then -1 else 1) * (if b = true then -1 else 1) := by
    rcases (by omega : o = 0 ∨ o = 1 ∨ o = 2 ∨ o = 3 ∨ o = 4 ∨ o = 5 ∨ o = 6 ∨ o = 7) with rfl | rfl | rfl | rfl | rfl | rfl | rfl | rfl <;> cases b <;> rfl
  rw [e]
  have : ((if o % 2 = 1 then -1 else 1 : Int) * (if b = true then -1 else 1) = 1) ∨ ((if o % 2 = 1 then -1 else 1 : Int) * (if b = true then -1 else 1) = -1) := by
    split <;> split <;> decide
  rw [wrap_int (x := s + 1) (by omega) (by omega), wrap_int (by omega) (by omega)]
  omega
theorem rspec_of (f : Nat → Bool) (n lf m : Nat) (hn : n ≤ 6) (L : RLow lf m) (b0 c : Nat) (h : Hp) (A : ArB b0 (2 ^ n) f h) :
    ∃ x h', Ev lf (m + 1) 31 [.slice (some ⟨b0, 0, none⟩) (2 ^ n) c] h = some (x, h') ∧ ∃ b, x = .slice (some ⟨b, 0, none⟩) (2 ^ n) (2 * 2 ^ n + 1) ∧ h.next ≤ b ∧ h.Ext h' ∧ ArI b (2 ^ n) (trn wsh n (sgn f)) h' := by
  have hp64 : 2 ^ n ≤ 64 := Nat.pow_le_pow_right (n := 2) (by decide) hn
  have hp1 : 1 ≤ 2 ^ n := Nat.one_le_two_pow
  have hlf := L.hlf
  have law := fun m (hm : m < 2 ^ n) => walsh0 (sgn f) hn hm
  refine fnS_ok (Q := fun x h' => ∃ b, x = .slice (some ⟨b, 0, none⟩) (2 ^ n) (2 * 2 ^ n + 1) ∧ h.next ≤ b ∧ h.Ext h' ∧ ArI b (2 ^ n) (trn wsh n (sgn f)) h') ?_
  generalize trn wsh n (sgn f) = v at *
  have hlx : ∀ i x, i < 2 ^ n → i &&& x < 64 := fun i x hi => Nat.lt_of_le_of_lt Nat.and_le_left (by omega)
  generalize hN : 2 ^ n = N at *
  refine ok_go 0 ?_
  refine sy_loop 0 lf h (α := Nat × Value) (fun s => [(0, .slice (some ⟨b0, 0, none⟩) N c), (3, s.2), (4, J s.1)]) (fun s g => s.1 ≤ N ∧ h.Ext g ∧ OpenSl g 3 s.2 (cellsF s.1 fun x => I (v x)) ∧ ∀ j, j < h.next → ∀ p q, s.2 ≠ .slice (some ⟨j, 0, none⟩) p q) (fun s _ => N - s.1) (0, .slice none 0 0) (by kernel_rfl) (by kernel_rfl) ⟨by kernel_rfl, by kernel_rfl, by kernel_rfl, trivial⟩ (show N - 0 < lf by omega) ⟨Nat.zero_le _, Hp.Ext.refl _, .inl ⟨rfl, rfl⟩, fun j _ p q hc => (by cases hc)⟩ ?_
  rintro m1 ⟨i, l⟩ f1 g ⟨hi, X, O, hne⟩ ih
  dsimp only at hi O hne
  refine ok_go 2 ?_
  refine sy_test 0 (decide (Int.ofNat i < Int.ofNat N)) (by kernel_rfl) ?_ ?_
  · intro hlt
    have hlt := ok_nat hlt
    have A' := A.ext X
    refine ok_go 0 ?_
    refine sy_loop 0 lf g (α := Nat) (fun s => [(0, .slice (some ⟨b0, 0, none⟩) N c), (3, l), (4, J i), (5, I (fI (fun _ => true) (tm f i) s)), (6, J s)]) (fun s k => s ≤ N ∧ k = g) (fun s _ => N - s) 0 (by kernel_rfl) (by kernel_rfl) ⟨by kernel_rfl, by kernel_rfl, by kernel_rfl, by kernel_rfl, by kernel_rfl, trivial⟩ (show N - 0 < lf by omega) ⟨Nat.zero_le _, rfl⟩ ?_
    rintro m2 k f2 g2 ⟨hk, rfl⟩ ih2
    have hb := fI_bound (p := fun _ => true) (B := 1) k fun x _ => tm_le f i x
    refine ok_go 2 ?_
    refine sy_test 0 (decide (Int.ofNat k < Int.ofNat N)) (by kernel_rfl) ?_ ?_
    · intro hki
      have hki := ok_nat hki
      have hand : andI (Int.ofNat i) (Int.ofNat k) = Int.ofNat (i &&& k) := and_nat (by omega)
      refine ok_go 1 ?_
      refine sy_load 0 (r := indexAddrOp Try.prog 27 (.slice (some ⟨b0, 0, none⟩) N c) (J k)) (h' := g2) (by kernel_rfl) (idxB hki) ?_
      refine ok_go 0 ?_
      refine sy_load 0 (r := loadT Try.prog g2 4 (ptr b0 k)) (h' := g2) (by kernel_rfl) (A'.read hki) ?_
      refine ok_go 0 ?_
      refine sy_call 0 (by kernel_rfl) (L.va (f k) g2) ?_
      refine ok_go 1 ?_
      refine sy_call 0 (r := Ev lf m 71 [.int .i64 (andI (Int.ofNat i) (Int.ofNat k))] g2) (v := J (pop (i &&& k))) (h' := g2) (by kernel_rfl) (by rw [hand]; exact L.on _ g2 (hlx i k hlt)) ?_
      refine ok_go 5 ?_
      exact sy_next 0 _ g2 (by kernel_rfl) (by kernel_rfl) (ih2 (k + 1) _ g2 ⟨hki, rfl⟩ (show N - (k + 1) < N - k by omega) ⟨by kernel_rfl, by kernel_rfl, by kernel_rfl, (by kernel_rfl : _ = I (IntKind.wrap .i64 (IntKind.wrap .i64 (fI (fun _ => true) (tm f i) k + 1) - IntKind.wrap .i64 (2 * (IntKind.wrap .i64 ((if f k = true then 1 else 0) + Int.ofNat (pop (i &&& k)))).tmod 2)))).trans (by
          rw [tm_eq _ _ (pop_le _) _ (by omega) (by omega), fI_succ]
          rfl), (by kernel_rfl : _ = Value.int .i64 (IntKind.wrap .i64 (Int.ofNat (k + 1)))).trans (by rw [wrap_nat (by omega)]), trivial⟩)
    · intro hki
      have hki := no_nat hki
      obtain rfl : N = k := by omega
      obtain ⟨l', g', e3, O', y1, y2, y3⟩ := append1 slI O (v := I (v i)) rfl (by rw [cellsF_len]; omega)
      have hxn := X.next
      refine ok_go 1 ?_
      refine sy_call 0 (r := appendOp Try.prog (g2.new (.cells [I (fI (fun _ => true) (tm f i) N)] 3 false)) 50 l (.slice (some ⟨g2.next, 0, none⟩) 1 2)) (v := l') (h' := g') (by kernel_rfl) (by rw [show fI (fun _ => true) (tm f i) N = v i from (law i hlt).symm]; exact e3) ?_
      refine ok_go 1 ?_
      exact sy_next 0 _ g' (by kernel_rfl) (by kernel_rfl) (ih (i + 1, l') _ g' ⟨hlt, ⟨by omega, fun j hj => (y2 j (by omega) (hne j hj)).trans (X.get j hj)⟩, by rw [cellsF_succ]; exact O', fun j hj => y3 j (by omega)⟩ (show N - (i + 1) < N - i by omega) ⟨by kernel_rfl, by kernel_rfl, (by kernel_rfl : _ = Value.int .i64 (IntKind.wrap .i64 (Int.ofNat (i + 1)))).trans (by rw [wrap_nat (by omega)]), trivial⟩)
  · intro hlt
    have hlt := no_nat hlt
    obtain rfl : N = i := by omega
    obtain ⟨b, rfl, B⟩ := openI hp1 O
    refine ok_go 0 ?_
    exact sy_done 0 (v := .slice (some ⟨b, 0, none⟩) N (2 * N + 1)) (h := g) (by kernel_rfl) ⟨b, rfl, Nat.le_of_not_lt fun hc => hne b hc _ _ rfl, X, B⟩
end Go.Proofs.Ytnfboopfpkaeaaa
