/- CubeH: contracts of functions. -/
import Derived.Test.YtnfboopfpkaeaaaProg
import Derived.KernelRfl
import Derived.Test.YtnfboopfpkaeaaaSyB
import Derived.Test.YtnfboopfpkaeaaaCubeG
namespace Go.Proofs.Ytnfboopfpkaeaaa
open Go Go.Eng Nim
set_option maxRecDepth 100000
set_option maxHeartbeats 8000000
theorem ArI.ext {b N : Nat} {v : Nat → Int} {h g : Hp} (H : ArI b N v h) (k : h.Ext g) : ArI b N v g := ⟨Nat.lt_of_lt_of_le H.lt k.next, by obtain ⟨o, e⟩ := H.get; exact ⟨o, k.at_ H.lt e⟩⟩
theorem ArB.ext {b N : Nat} {v : Nat → Bool} {h g : Hp} (H : ArB b N v h) (k : h.Ext g) : ArB b N v g := ⟨Nat.lt_of_lt_of_le H.lt k.next, by obtain ⟨o, e⟩ := H.get; exact ⟨o, k.at_ H.lt e⟩⟩
/-- The first k numbers of a row, added. -/
def ps (g : Nat → Int) (k : Nat) : Int := ((List.range k).map g).sum
theorem ps_succ (g : Nat → Int) (k : Nat) : ps g (k + 1) = ps g k + g k := by
  unfold ps
  rw [List.range_succ, List.map_append, List.sum_append]
  simp
theorem ps_bound {g : Nat → Int} {B : Nat} (hg : ∀ x, 0 ≤ g x ∧ g x ≤ B) : ∀ k, 0 ≤ ps g k ∧ ps g k ≤ k * B
  | 0 => by simp [ps]
  | k + 1 => by
    rw [ps_succ]
    have := ps_bound hg k
    have h2 := hg k
    have : ((k + 1 : Nat) : Int) * (B : Int) = k * B + B := by rw [Int.natCast_add, Int.add_mul]; simp
    omega
theorem ps_add (g : Nat → Int) (a : Nat) : ∀ k, ps g (a + k) = ps g a + ps (fun x => g (x + a)) k
  | 0 => by simp [ps]
  | k + 1 => by
    rw [← Nat.add_assoc, ps_succ, ps_add g a k, ps_succ, Nat.add_comm k a]
    omega
theorem sm_ps : ∀ (n : Nat) (g : Nat → Int), sm n g = ps g (2 ^ n)
  | 0, g => by simp [sm, ps]
  | n + 1, g => by
    rw [Nat.pow_succ, show 2 ^ n * 2 = 2 ^ n + 2 ^ n by omega, ps_add, ← sm_ps n g, ← sm_ps n fun x => g (x + 2 ^ n)]
    rfl
theorem sq_bound {z : Int} (h0 : -64 ≤ z) (h1 : z ≤ 64) : 0 ≤ z * z ∧ z * z ≤ (4096 : Nat) := by
  have h2 : z.natAbs ≤ 64 := by omega
  have h3 : z.natAbs * z.natAbs ≤ 64 * 64 := Nat.mul_le_mul h2 h2
  rw [← Int.natAbs_mul_self]
  omega
/-- What the law calls. -/
structure Upper (lf m : Nat) : Prop where
  hlf : 300 ≤ lf
  tb : ∀ x n kind h, n ≤ 6 → ∃ y h', Ev lf m 10 [.int .u64 x, J n, I kind] h = some (y, h') ∧ ∃ b f, y = .slice (some ⟨b, 0, none⟩) (2 ^ n) (2 * 2 ^ n) ∧ h.next ≤ b ∧ h.Ext h' ∧ ArB b (2 ^ n) f h'
  bt : ∀ z, ∃ k, k ≤ 6 ∧ ∀ h, Ev lf m 11 [I z, J 6] h = some (J k, h)
  sp : ∀ f n b c h, n ≤ 6 → ArB b (2 ^ n) f h → ∃ x h', Ev lf m 25 [.slice (some ⟨b, 0, none⟩) (2 ^ n) c] h = some (x, h') ∧ ∃ b, x = .tuple #[.slice (some ⟨b, 0, none⟩) (2 ^ n) (2 * 2 ^ n + 1), J 0] ∧ h.next ≤ b ∧ h.Ext h' ∧ ArI b (2 ^ n) (trn wsh n (sgn f)) h'
  inf : ∀ f n i b c h, n ≤ 6 → i < n → ArB b (2 ^ n) f h → Ev lf m 35 [.slice (some ⟨b, 0, none⟩) (2 ^ n) c, J i] h = some (.tuple #[I (part f i (2 ^ n)), J 0], h)
  rm : ∀ f n b c h, n ≤ 6 → ArB b (2 ^ n) f h → ∃ x h', Ev lf m 22 [.slice (some ⟨b, 0, none⟩) (2 ^ n) c] h = some (x, h') ∧ ∃ b, x = .tuple #[.slice (some ⟨b, 0, none⟩) (2 ^ n) (2 * 2 ^ n + 1), J 0] ∧ h.next ≤ b ∧ h.Ext h' ∧ ArB b (2 ^ n) (trn (up fun a b => a != b) n f) h'
  re : ∀ f n b c h, n ≤ 6 → ArB b (2 ^ n) f h → ∃ x h', Ev lf m 23 [.slice (some ⟨b, 0, none⟩) (2 ^ n) c] h = some (x, h') ∧ ∃ b, x = .tuple #[.slice (some ⟨b, 0, none⟩) (2 ^ n) (2 * 2 ^ n + 1), J 0] ∧ h.next ≤ b ∧ h.Ext h' ∧ ArI b (2 ^ n) (trn (up fun a b => b - a) n (num f)) h'
  fr : ∀ f n b c h, n ≤ 6 → ArI b (2 ^ n) (trn (up fun a b => b - a) n (num f)) h → ∃ x h', Ev lf m 32 [.slice (some ⟨b, 0, none⟩) (2 ^ n) c] h = some (x, h') ∧ ∃ b, x = .tuple #[.slice (some ⟨b, 0, none⟩) (2 ^ n) (2 * 2 ^ n + 1), J 0] ∧ h.next ≤ b ∧ h.Ext h' ∧ ArB b (2 ^ n) f h'
  bo : ∀ f N a ca b cb h, N ≤ 64 → ArB a N f h → ArB b N f h → Ev lf m 26 [.slice (some ⟨a, 0, none⟩) N ca, .slice (some ⟨b, 0, none⟩) N cb] h = some (.bool true, h)
  aw : ∀ h, Ev lf m 21 [] h = some (.bool true, h)
theorem min_nat {i : Nat} (hi : i ≤ 6) : min (IntKind.wrap .u64 (Int.ofNat i)).toNat IntKind.i64.bits = i := by
  rcases (by omega : i = 0 ∨ i = 1 ∨ i = 2 ∨ i = 3 ∨ i = 4 ∨ i = 5 ∨ i = 6) with rfl | rfl | rfl | rfl | rfl | rfl | rfl <;> rfl
theorem shl_nat {i : Nat} (hi : i ≤ 6) : IntKind.wrap .i64 (1 * 2 ^ min (IntKind.wrap .u64 (Int.ofNat i)).toNat IntKind.i64.bits) = Int.ofNat (2 ^ i) := by
  have hp64 : 2 ^ i ≤ 64 := Nat.pow_le_pow_right (n := 2) (by decide) hi
  have hpc : ((2 : Int) ^ i) = ((2 ^ i : Nat) : Int) := by simp
  rw [min_nat hi, Int.one_mul, hpc]
  exact wrap_nat (by omega)
/-- The squares of the numbers whose bit i is set. -/
def sqb (w : Nat → Int) (i x : Nat) : Int := match x.testBit i with | true => w x * w x | false => 0
theorem bit_eq (k : Nat) {i : Nat} (hi : i ≤ 6) : (((Int.ofNat k).fdiv (2 ^ min (IntKind.wrap .u64 (Int.ofNat i)).toNat IntKind.i64.bits)).tmod 2 == 1) = k.testBit i := by
  have hpc : ((2 : Int) ^ i) = ((2 ^ i : Nat) : Int) := by simp
  rw [min_nat hi, hpc, Nat.testBit_eq_decide_div_mod_eq, show (Int.ofNat k).fdiv ((2 ^ i : Nat) : Int) = ((k / 2 ^ i : Nat) : Int) from (Int.ofNat_fdiv _ _).symm, show ((k / 2 ^ i : Nat) : Int).tmod 2 = ((k / 2 ^ i % 2 : Nat) : Int) from (Int.ofNat_tmod _ 2).symm]
  rcases Nat.mod_two_eq_zero_or_one (k / 2 ^ i) with h | h <;> rw [h] <;> rfl
theorem sqb_le {w : Nat → Int} (h : ∀ x, 0 ≤ w x * w x ∧ w x * w x ≤ (4096 : Nat)) (i : Nat) : ∀ x, 0 ≤ sqb w i x ∧ sqb w i x ≤ (4096 : Nat) := by
  intro x
  unfold sqb
  split
  · exact h x
  · omega
theorem facts (n : Nat) (hn : n ≤ 6) (f : Nat → Bool) : ∃ w, trn wsh n (sgn f) = w ∧ (∀ x, 0 ≤ w x * w x ∧ w x * w x ≤ (4096 : Nat)) ∧ ps (fun x => w x * w x) (2 ^ n) = ((2 ^ n * 2 ^ n : Nat) : Int) ∧ ∀ i, i < n → part f i (2 ^ n) * ((2 ^ n : Nat) : Int) = ps (sqb w i) (2 ^ n) := by
  have hpc : ((2 : Int) ^ n) = ((2 ^ n : Nat) : Int) := by simp
  have hp64 : 2 ^ n ≤ 64 := Nat.pow_le_pow_right (n := 2) (by decide) hn
  refine ⟨_, rfl, fun x => ?_, ?_, fun i hi => ?_⟩
  · have h := trn_le (s := wsh) (B := 1) (fun a b B h1 h2 h3 h4 => ⟨⟨by simp only [wsh]; omega, by simp only [wsh]; omega⟩, by simp only [wsh]; omega, by simp only [wsh]; omega⟩) (l := sgn f) (fun x => by unfold sgn; split <;> omega) n x
    rw [hpc] at h
    exact sq_bound (by omega) (by omega)
  · rw [← sm_ps, parseval, hpc, Int.natCast_mul]
  · have h := influence hi f
    rw [hpc] at h
    rw [← sm_ps, show part f i (2 ^ n) = cnt n i f by unfold cnt; rw [sm_ps]; rfl, h]
    rfl
theorem s6 (x a0 a1 : Int) (lf m : Nat) (U : Upper lf m) (h : Hp) : ∃ H, Ev lf (m + 1) 6 [.int .u64 x, .agg #[I a0, I a1]] h = some (.bool true, H) := by
  obtain ⟨n, hn, bt⟩ := U.bt a0
  have hp64 : 2 ^ n ≤ 64 := Nat.pow_le_pow_right (n := 2) (by decide) hn
  refine fn_val ?_
  have X0 : h.Ext (h.new (.cells [I a0, I a1] 49 false)) := Hp.Ext.new _ _
  have gx := get_new h (.cells [I a0, I a1] 49 false)
  generalize hX : h.new (.cells [I a0, I a1] 49 false) = X at X0 gx
  refine ok_go 2 ?_
  refine sy_load 0 (r := loadT Try.prog (h.new (.cells [I a0, I a1] 49 false)) 3 (ptr h.next 0)) (h' := (h.new (.cells [I a0, I a1] 49 false))) (by kernel_rfl) (by rw [hX]; exact load1 agI gx rfl) ?_
  rw [hX]
  refine ok_go 0 ?_
  refine sy_call 0 (by kernel_rfl) (bt X) ?_
  refine ok_go 1 ?_
  refine sy_load 0 (r := loadT Try.prog X 3 (ptr h.next 1)) (h' := X) (by kernel_rfl) (load1 agI gx rfl) ?_
  obtain ⟨_, h1, e1, b, f, rfl, hb, X1, A1⟩ := U.tb x n a1 X hn
  refine ok_go 0 ?_
  refine sy_call 0 (by kernel_rfl) e1 ?_
  refine ok_go 0 ?_
  refine sy_need 0 [3] [⟨some (Eng.undef, X), Eng.undef, X⟩] (by kernel_rfl) ⟨rfl, trivial⟩ ?_
  refine ok_go 0 ?_
  obtain ⟨_, h2, e2, b2, rfl, hb2, X2, A2⟩ := U.sp f n b (2 * 2 ^ n) h1 hn A1
  obtain ⟨w, hw, hsq, hpar, hinf⟩ := facts n hn f
  rw [hw] at A2
  have hlf := U.hlf
  refine sy_call 0 (by kernel_rfl) e2 ?_
  generalize hN : 2 ^ n = N at *
  refine ok_go 12 ?_
  refine sy_no 0 (b := Int.ofNat N != Int.ofNat N) (by kernel_rfl) (ne_no rfl) ?_
  refine ok_go 0 ?_
  refine sy_loop 0 lf h2 (α := Nat) (fun s => [(5, .slice (some ⟨b, 0, none⟩) N (2 * N)), (6, .slice (some ⟨b2, 0, none⟩) N (2 * N + 1)), (8, I (ps (fun x => w x * w x) s)), (9, J s)]) (fun s g => s ≤ N ∧ g = h2) (fun s _ => N - s) 0 (by kernel_rfl) (by kernel_rfl) ⟨by kernel_rfl, by kernel_rfl, by kernel_rfl, by kernel_rfl, trivial⟩ (show N - 0 < lf by omega) ⟨Nat.zero_le _, rfl⟩ ?_
  rintro m1 k f1 g ⟨hk, rfl⟩ ih
  refine ok_go 2 ?_
  refine sy_test 0 (decide (Int.ofNat k < Int.ofNat N)) (by kernel_rfl) ?_ ?_
  · intro hlt
    have hlt := ok_nat hlt
    have hb4 := ps_bound hsq k
    have hb5 := hsq k
    refine ok_go 0 ?_
    refine sy_load 0 (r := indexAddrOp Try.prog 50 (.slice (some ⟨b2, 0, none⟩) N (2 * N + 1)) (J k)) (h' := g) (by kernel_rfl) (idxI hlt) ?_
    refine ok_go 0 ?_
    refine sy_load 0 (r := loadT Try.prog g 3 (ptr b2 k)) (h' := g) (by kernel_rfl) (A2.read hlt) ?_
    refine ok_go 0 ?_
    refine sy_load 0 (r := indexAddrOp Try.prog 50 (.slice (some ⟨b2, 0, none⟩) N (2 * N + 1)) (J k)) (h' := g) (by kernel_rfl) (idxI hlt) ?_
    refine ok_go 0 ?_
    refine sy_load 0 (r := loadT Try.prog g 3 (ptr b2 k)) (h' := g) (by kernel_rfl) (A2.read hlt) ?_
    refine ok_go 3 ?_
    exact sy_next 0 _ g (by kernel_rfl) (by kernel_rfl) (ih (k + 1) _ g ⟨hlt, rfl⟩ (show N - (k + 1) < N - k by omega) ⟨by kernel_rfl, by kernel_rfl, (by kernel_rfl : _ = I (IntKind.wrap .i64 (ps (fun x => w x * w x) k + IntKind.wrap .i64 (w k * w k)))).trans (by
      rw [ps_succ]
      generalize w k * w k = q at hb5 ⊢
      generalize ps (fun x => w x * w x) k = r at hb4 ⊢
      have : (k : Int) * ((4096 : Nat) : Int) ≤ 64 * 4096 := Int.mul_le_mul_of_nonneg_right (by omega) (by omega)
      rw [wrap_int (x := q) (by omega) (by omega), wrap_int (by omega) (by omega)]), (by kernel_rfl : _ = Value.int .i64 (IntKind.wrap .i64 (Int.ofNat (k + 1)))).trans (by rw [wrap_nat (by omega)]), trivial⟩)
  · intro hlt
    have hlt := no_nat hlt
    have hkN : N = k := by omega
    subst hkN
    refine ok_go 4 ?_
    refine sy_no 0 (b := ps (fun x => w x * w x) N != IntKind.wrap .i64 (Int.ofNat N * Int.ofNat N)) (by kernel_rfl) (by
      have h64 : N * N ≤ 64 * 64 := Nat.mul_le_mul hp64 hp64
      rw [hpar, show Int.ofNat N * Int.ofNat N = Int.ofNat (N * N) from rfl, wrap_nat (by omega)]
      exact bne_self_eq_false _) ?_
    refine ok_go 0 ?_
    have hX2 := X2
    have hpow : ∀ i, (2 : Nat) ^ i < N ↔ i < n := by
      intro i
      rw [← hN]
      exact Nat.pow_lt_pow_iff_right (by decide)
    refine sy_loop 0 lf g (α := Nat) (fun s => [(5, .slice (some ⟨b, 0, none⟩) N (2 * N)), (6, .slice (some ⟨b2, 0, none⟩) N (2 * N + 1)), (10, J s)]) (fun s k => s ≤ n ∧ k = g) (fun s _ => n - s) 0 (by kernel_rfl) (by kernel_rfl) ⟨by kernel_rfl, by kernel_rfl, by kernel_rfl, trivial⟩ (show n - 0 < lf by omega) ⟨Nat.zero_le _, rfl⟩ ?_
    rintro m2 i f2 g2 ⟨hi, rfl⟩ ih2
    refine ok_go 4 ?_
    refine sy_test 0 (decide (IntKind.wrap .i64 (1 * 2 ^ min (IntKind.wrap .u64 (Int.ofNat i)).toNat IntKind.i64.bits) < Int.ofNat N)) (by kernel_rfl) ?_ ?_
    · intro hlt
      rw [shl_nat (by omega)] at hlt
      have hlt := (hpow i).1 (ok_nat hlt)
      have inf := U.inf f n i b (2 * N) g2 hn hlt
      rw [hN] at inf
      have inf := inf (A1.ext hX2)
      refine ok_go 0 ?_
      refine sy_call 0 (by kernel_rfl) inf ?_
      refine ok_go 2 ?_
      refine sy_loop 0 lf g2 (α := Nat) (fun s => [(5, .slice (some ⟨b, 0, none⟩) N (2 * N)), (6, .slice (some ⟨b2, 0, none⟩) N (2 * N + 1)), (10, J i), (11, I (part f i N)), (12, J 0), (13, I (ps (sqb w i) s)), (14, J s)]) (fun s k => s ≤ N ∧ k = g2) (fun s _ => N - s) 0 (by kernel_rfl) (by kernel_rfl) ⟨by kernel_rfl, by kernel_rfl, by kernel_rfl, by kernel_rfl, by kernel_rfl, by kernel_rfl, by kernel_rfl, trivial⟩ (show N - 0 < lf by omega) ⟨Nat.zero_le _, rfl⟩ ?_
      rintro m3 k f3 g3 ⟨hk, rfl⟩ ih3
      refine ok_go 2 ?_
      refine sy_test 0 (decide (Int.ofNat k < Int.ofNat N)) (by kernel_rfl) ?_ ?_
      · intro hlt
        have hlt := ok_nat hlt
        have hb4 := ps_bound (sqb_le hsq i) k
        have hb5 := hsq k
        refine ok_go 4 ?_
        refine sy_test 0 (((Int.ofNat k).fdiv (2 ^ min (IntKind.wrap .u64 (Int.ofNat i)).toNat IntKind.i64.bits)).tmod 2 == 1) (by kernel_rfl) ?_ ?_
        · intro hbit
          rw [bit_eq k (by omega)] at hbit
          refine ok_go 0 ?_
          refine sy_load 0 (r := indexAddrOp Try.prog 50 (.slice (some ⟨b2, 0, none⟩) N (2 * N + 1)) (J k)) (h' := g3) (by kernel_rfl) (idxI hlt) ?_
          refine ok_go 0 ?_
          refine sy_load 0 (r := loadT Try.prog g3 3 (ptr b2 k)) (h' := g3) (by kernel_rfl) (A2.read hlt) ?_
          refine ok_go 0 ?_
          refine sy_load 0 (r := indexAddrOp Try.prog 50 (.slice (some ⟨b2, 0, none⟩) N (2 * N + 1)) (J k)) (h' := g3) (by kernel_rfl) (idxI hlt) ?_
          refine ok_go 0 ?_
          refine sy_load 0 (r := loadT Try.prog g3 3 (ptr b2 k)) (h' := g3) (by kernel_rfl) (A2.read hlt) ?_
          refine ok_go 3 ?_
          exact sy_next 0 _ g3 (by kernel_rfl) (by kernel_rfl) (ih3 (k + 1) _ g3 ⟨hlt, rfl⟩ (show N - (k + 1) < N - k by omega) ⟨by kernel_rfl, by kernel_rfl, by kernel_rfl, by kernel_rfl, by kernel_rfl, (by kernel_rfl : _ = I (IntKind.wrap .i64 (ps (sqb w i) k + IntKind.wrap .i64 (w k * w k)))).trans (by
            rw [ps_succ, show sqb w i k = w k * w k by unfold sqb; rw [hbit]]
            generalize w k * w k = q at hb5 ⊢
            generalize ps (sqb w i) k = r at hb4 ⊢
            have : (k : Int) * ((4096 : Nat) : Int) ≤ 64 * 4096 := Int.mul_le_mul_of_nonneg_right (by omega) (by omega)
            rw [wrap_int (x := q) (by omega) (by omega), wrap_int (by omega) (by omega)]), (by kernel_rfl : _ = Value.int .i64 (IntKind.wrap .i64 (Int.ofNat (k + 1)))).trans (by rw [wrap_nat (by omega)]), trivial⟩)
        · intro hbit
          rw [bit_eq k (by omega)] at hbit
          refine ok_go 1 ?_
          exact sy_next 0 _ g3 (by kernel_rfl) (by kernel_rfl) (ih3 (k + 1) _ g3 ⟨hlt, rfl⟩ (show N - (k + 1) < N - k by omega) ⟨by kernel_rfl, by kernel_rfl, by kernel_rfl, by kernel_rfl, by kernel_rfl, (by kernel_rfl : _ = I (ps (sqb w i) k)).trans (by rw [ps_succ, show sqb w i k = 0 by unfold sqb; rw [hbit], Int.add_zero]), (by kernel_rfl : _ = Value.int .i64 (IntKind.wrap .i64 (Int.ofNat (k + 1)))).trans (by rw [wrap_nat (by omega)]), trivial⟩)
      · intro hkN
        have hkN := no_nat hkN
        obtain rfl : N = k := by omega
        refine ok_go 11 ?_
        refine sy_no 0 (b := IntKind.wrap .i64 (part f i N * Int.ofNat N) != ps (sqb w i) N) (by kernel_rfl) (by
          have hb4 := ps_bound (sqb_le hsq i) N
          have hi4 := hinf i hlt
          have : (N : Int) * ((4096 : Nat) : Int) ≤ 64 * 4096 := Int.mul_le_mul_of_nonneg_right (by omega) (by omega)
          rw [show part f i N * Int.ofNat N = ps (sqb w i) N from hi4, wrap_int (by omega) (by omega)]
          exact bne_self_eq_false _) ?_
        refine ok_go 1 ?_
        exact sy_next 0 _ g3 (by kernel_rfl) (by kernel_rfl) (ih2 (i + 1) _ g3 ⟨hlt, rfl⟩ (show n - (i + 1) < n - i by omega) ⟨by kernel_rfl, by kernel_rfl, (by kernel_rfl : _ = Value.int .i64 (IntKind.wrap .i64 (Int.ofNat (i + 1)))).trans (by rw [wrap_nat (by omega)]), trivial⟩)
    · intro hlt
      rw [shl_nat (by omega)] at hlt
      have hlt : ¬ i < n := fun hc => by
        have := (hpow i).2 hc
        have := no_nat hlt
        omega
      have hin : n = i := by omega
      have A3 := A1.ext hX2
      have rm := U.rm f n b (2 * N) g2 hn
      have re := U.re f n b (2 * N)
      have fr := U.fr f n
      have rm2 := U.rm (trn (up fun a b => a != b) n f) n
      rw [rem_twice] at rm2
      rw [hN] at rm re rm2 fr
      obtain ⟨_, h3, e3, b3, rfl, hb3, X3, A4⟩ := rm A3
      obtain ⟨_, h4, e4, b4, rfl, hb4, X4, A5⟩ := rm2 b3 (2 * N + 1) h3 hn A4
      obtain ⟨_, h5, e5, b5, rfl, hb5, X5, A6⟩ := re h4 hn (A3.ext (X3.trans X4))
      obtain ⟨_, h6, e6, b6, rfl, hb6, X6, A7⟩ := fr b5 (2 * N + 1) h5 hn A6
      refine ok_go 0 ?_
      refine sy_call 0 (by kernel_rfl) e3 ?_
      refine ok_go 2 ?_
      refine sy_call 0 (by kernel_rfl) e4 ?_
      refine ok_go 2 ?_
      refine sy_call 0 (by kernel_rfl) e5 ?_
      refine ok_go 2 ?_
      have A8 := A3.ext (X3.trans (X4.trans (X5.trans X6)))
      refine sy_call 0 (by kernel_rfl) e6 ?_
      refine ok_go 18 ?_
      refine sy_call 0 (by kernel_rfl) (U.bo f N b4 (2 * N + 1) b (2 * N) h6 (by omega) (A5.ext (X5.trans X6)) A8) ?_
      refine ok_go 4 ?_
      refine sy_call 0 (by kernel_rfl) (U.bo f N b6 (2 * N + 1) b (2 * N) h6 (by omega) A7 A8) ?_
      refine ok_go 2 ?_
      refine sy_call 0 (by kernel_rfl) (U.aw h6) ?_
      refine ok_go 1 ?_
      exact sy_done 0 (v := .bool true) (h := h6) (by kernel_rfl) rfl
end Go.Proofs.Ytnfboopfpkaeaaa
