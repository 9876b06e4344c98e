/- CubeG: contracts of functions. -/
import Derived.Test.YtnfboopfpkaeaaaProg
import Derived.KernelRfl
import Derived.Test.YtnfboopfpkaeaaaSyB
import Derived.Test.YtnfboopfpkaeaaaCubeE
namespace Go.Proofs.Ytnfboopfpkaeaaa
open Go Go.Eng Nim
set_option maxRecDepth 100000
set_option maxHeartbeats 4000000
theorem bits_of (z : Int) : ∃ k, k ≤ 6 ∧ ∀ lf m h, Ev lf (m + 1) 11 [I z, J 6] h = some (J k, h) := by
  have h0 : 0 ≤ IntKind.wrap .u64 z := by
    show 0 ≤ z % 2 ^ 64
    exact Int.emod_nonneg _ (by decide)
  obtain ⟨u, hu⟩ := Int.eq_ofNat_of_zero_le h0
  have hu : IntKind.wrap .u64 z = Int.ofNat u := hu
  refine ⟨u % 7, by omega, fun lf m h => ?_⟩
  refine fn_eq ?_
  refine ok_go 5 ?_
  exact sy_done 0 (v := I (IntKind.wrap .i64 ((IntKind.wrap .u64 z).tmod 7))) (h := h) (by kernel_rfl) ⟨by rw [hu]; show I (IntKind.wrap .i64 (Int.ofNat (u % 7))) = _; rw [wrap_nat (by omega)], rfl⟩
/-- What make makes. -/
theorem makeSl {P : Program} {h : Hp} {t e : TypeId} {len : Nat} {z : Value} {inf : TypeInfo} {kd kd' : IntKind} (hu : P.underlying t = some (.slice e)) (hz : zeroOf P e = some z) (hi : P.info? e = some inf) (hb : Nat.ble inf.bytes 4096 = true)
    (hs : Nat.beq z.cells.size inf.size = true) (hsc : z.cells.toList.all scalar = true) (hn : len < 16777216) :
    makeSliceOp P h t (.int kd (Int.ofNat len)) (.int kd' (Int.ofNat len)) = some (.slice (some ⟨h.next, 0, none⟩) len (2 * len), h.new (.cells (zeros z.cells.toList len) e false)) := by
  have h1 : Nat.ble len len = true := Nat.ble_eq_true_of_le (Nat.le_refl _)
  have h2 : Nat.ble len most = true := Nat.ble_eq_true_of_le (by unfold most; omega)
  simp only [makeSliceOp, hu, natOf, hz, hi, h1, h2, hb, hs, hsc]
theorem table_of (x : Int) (n : Nat) (hn : n ≤ 6) (kind : Int) (lf m : Nat) (hlf : 300 ≤ lf) (h : Hp) :
    ∃ y h', Ev lf (m + 1) 10 [.int .u64 x, J n, I kind] h = some (y, h') ∧ ∃ b f, y = .slice (some ⟨b, 0, none⟩) (2 ^ n) (2 * 2 ^ n) ∧ h.next ≤ b ∧ h.Ext h' ∧ ArB b (2 ^ n) f h' := by
  have hp64 : 2 ^ n ≤ 64 := Nat.pow_le_pow_right (n := 2) (by decide) hn
  have hpc : ((2 : Int) ^ n) = ((2 ^ n : Nat) : Int) := by simp
  have hmin : min (IntKind.wrap .u64 (Int.ofNat n)).toNat IntKind.i64.bits = n := by
    rcases (by omega : n = 0 ∨ n = 1 ∨ n = 2 ∨ n = 3 ∨ n = 4 ∨ n = 5 ∨ n = 6) with rfl | rfl | rfl | rfl | rfl | rfl | rfl <;> rfl
  have hsh : IntKind.wrap .i64 (1 * 2 ^ n) = Int.ofNat (2 ^ n) := by
    rw [Int.one_mul, hpc]
    exact wrap_nat (by omega)
  obtain ⟨y, hy, ey⟩ : ∃ y, y < 4 ∧ (IntKind.wrap .u64 kind).tmod 4 = Int.ofNat y := by
    have h0 : 0 ≤ IntKind.wrap .u64 kind := by
      show 0 ≤ kind % 2 ^ 64
      exact Int.emod_nonneg _ (by decide)
    obtain ⟨u, hu⟩ := Int.eq_ofNat_of_zero_le h0
    have hu : IntKind.wrap .u64 kind = Int.ofNat u := hu
    exact ⟨u % 4, by omega, by rw [hu]; rfl⟩
  refine fnS_ok (Q := fun y h' => ∃ b f, y = .slice (some ⟨b, 0, none⟩) (2 ^ n) (2 * 2 ^ n) ∧ h.next ≤ b ∧ h.Ext h' ∧ ArB b (2 ^ n) f h') ?_
  generalize hN : 2 ^ n = N at *
  refine sy_call 1 (r := some (.int .i64 (IntKind.wrap .i64 (1 * 2 ^ min (IntKind.wrap .u64 (Int.ofNat n)).toNat IntKind.i64.bits)), h)) (v := J N) (h' := h) (by kernel_rfl) (by rw [hmin, hsh]) ?_
  refine ok_go 0 ?_
  refine sy_call 0 (r := makeSliceOp Try.prog h 27 (J N) (J N)) (v := .slice (some ⟨h.next, 0, none⟩) N (2 * N)) (h' := h.new (.cells (zeros [.bool false] N) 4 false)) (by kernel_rfl) (makeSl (z := .bool false) (inf := (Try.prog.info? 4).get!) uB (by kernel_rfl) (by kernel_rfl) (by kernel_rfl) (by kernel_rfl) (by kernel_rfl) (by omega)) ?_
  have B0 : ArB h.next N (fun _ => false) (h.new (.cells (zeros [.bool false] N) 4 false)) := ⟨Nat.lt_succ_self _, false, by rw [zeros_one]; exact get_new _ _⟩
  have X0 : h.Ext (h.new (.cells (zeros [.bool false] N) 4 false)) := Hp.Ext.new _ _
  generalize hh0 : h.new (.cells (zeros [.bool false] N) 4 false) = h0 at B0 X0
  clear hh0
  refine ok_go 0 ?_
  refine sy_loop 0 lf h0 (α := Nat) (fun s => [(0, .int .u64 x), (2, I kind), (7, J N), (8, .slice (some ⟨h.next, 0, none⟩) N (2 * N)), (9, J s)]) (fun s g => s ≤ N ∧ h.Ext g ∧ ∃ f, ArB h.next N f g) (fun s _ => N - s) 0 (by kernel_rfl) (by kernel_rfl) ⟨by kernel_rfl, by kernel_rfl, by kernel_rfl, by kernel_rfl, by kernel_rfl, trivial⟩ (show N - 0 < lf by omega) ⟨Nat.zero_le _, X0, _, B0⟩ ?_
  rintro m1 i f1 g ⟨hi, X, f, A⟩ ih
  refine ok_go 1 ?_
  refine sy_test 0 (decide (Int.ofNat i < Int.ofNat N)) (by kernel_rfl) ?_ ?_
  · intro hlt
    have hlt := ok_nat hlt
    have fin : ∀ z : Bool, ∃ g', storeT Try.prog g 4 (ptr h.next i) (.bool z) = some g' ∧ h.Ext g' ∧ ∃ f, ArB h.next N f g' := fun z => by
      obtain ⟨g', e, A', n', o'⟩ := A.store hlt z
      exact ⟨g', e, ext_of X (Nat.le_refl _) n' o', _, A'⟩
    refine sy_call 5 (r := some (.int .u64 ((IntKind.wrap .u64 kind).tmod 4), g)) (v := .int .u64 (Int.ofNat y)) (h' := g) (by kernel_rfl) (by rw [ey]) ?_
    rcases (by omega : y = 0 ∨ y = 1 ∨ y = 2 ∨ y = 3) with rfl | rfl | rfl | rfl
    · obtain ⟨g', e, X', f', A'⟩ := fin ((x.fdiv (2 ^ min (IntKind.wrap .u64 (Int.ofNat i)).toNat IntKind.u64.bits)).tmod 2 == 1)
      refine ok_go 6 ?_
      refine sy_load 0 (r := indexAddrOp Try.prog 27 (.slice (some ⟨h.next, 0, none⟩) N (2 * N)) (J i)) (h' := g) (by kernel_rfl) (idxB hlt) ?_
      refine ok_go 0 ?_
      refine sy_store 0 (r := storeT Try.prog g 4 (ptr h.next i) (.bool ((x.fdiv (2 ^ min (IntKind.wrap .u64 (Int.ofNat i)).toNat IntKind.u64.bits)).tmod 2 == 1))) (by kernel_rfl) e ?_
      refine ok_go 1 ?_
      exact sy_next 0 _ g' (by kernel_rfl) (by kernel_rfl) (ih (i + 1) _ g' ⟨hlt, X', f', A'⟩ (show N - (i + 1) < N - i by omega) ⟨by kernel_rfl, by kernel_rfl, by kernel_rfl, by kernel_rfl, (by kernel_rfl : _ = Value.int .i64 (IntKind.wrap .i64 (Int.ofNat (i + 1)))).trans (by rw [wrap_nat (by omega)]), trivial⟩)
    · refine ok_go 2 ?_
      refine sy_test 0 ((x.fdiv (2 ^ min (IntKind.wrap .u64 (Int.ofNat i)).toNat IntKind.u64.bits)).tmod 2 == 1) (by kernel_rfl) ?_ ?_
      · intro _
        have hw : (IntKind.wrap .i64 (IntKind.wrap .i64 (Int.ofNat i * 7) + 3)).tmod 64 = Int.ofNat ((i * 7 + 3) % 64) := by
          rw [show Int.ofNat i * 7 = Int.ofNat (i * 7) from rfl, wrap_nat (by omega), show Int.ofNat (i * 7) + 3 = Int.ofNat (i * 7 + 3) from rfl, wrap_nat (by omega)]
          rfl
        refine sy_call 6 (r := some (.int .i64 ((IntKind.wrap .i64 (IntKind.wrap .i64 (Int.ofNat i * 7) + 3)).tmod 64), g)) (v := J ((i * 7 + 3) % 64)) (h' := g) (by kernel_rfl) (by rw [hw]) ?_
        obtain ⟨g', e, X', f', A'⟩ := fin ((x.fdiv (2 ^ min (IntKind.wrap .u64 (Int.ofNat ((i * 7 + 3) % 64))).toNat IntKind.u64.bits)).tmod 2 == 1)
        refine ok_go 9 ?_
        refine sy_load 0 (r := indexAddrOp Try.prog 27 (.slice (some ⟨h.next, 0, none⟩) N (2 * N)) (J i)) (h' := g) (by kernel_rfl) (idxB hlt) ?_
        refine ok_go 0 ?_
        refine sy_store 0 (r := storeT Try.prog g 4 (ptr h.next i) (.bool ((x.fdiv (2 ^ min (IntKind.wrap .u64 (Int.ofNat ((i * 7 + 3) % 64))).toNat IntKind.u64.bits)).tmod 2 == 1))) (by kernel_rfl) e ?_
        refine ok_go 1 ?_
        exact sy_next 0 _ g' (by kernel_rfl) (by kernel_rfl) (ih (i + 1) _ g' ⟨hlt, X', f', A'⟩ (show N - (i + 1) < N - i by omega) ⟨by kernel_rfl, by kernel_rfl, by kernel_rfl, by kernel_rfl, (by kernel_rfl : _ = Value.int .i64 (IntKind.wrap .i64 (Int.ofNat (i + 1)))).trans (by rw [wrap_nat (by omega)]), trivial⟩)
      · intro _
        obtain ⟨g', e, X', f', A'⟩ := fin false
        refine ok_go 9 ?_
        refine sy_load 0 (r := indexAddrOp Try.prog 27 (.slice (some ⟨h.next, 0, none⟩) N (2 * N)) (J i)) (h' := g) (by kernel_rfl) (idxB hlt) ?_
        refine ok_go 0 ?_
        refine sy_store 0 (r := storeT Try.prog g 4 (ptr h.next i) (.bool false)) (by kernel_rfl) e ?_
        refine ok_go 1 ?_
        exact sy_next 0 _ g' (by kernel_rfl) (by kernel_rfl) (ih (i + 1) _ g' ⟨hlt, X', f', A'⟩ (show N - (i + 1) < N - i by omega) ⟨by kernel_rfl, by kernel_rfl, by kernel_rfl, by kernel_rfl, (by kernel_rfl : _ = Value.int .i64 (IntKind.wrap .i64 (Int.ofNat (i + 1)))).trans (by rw [wrap_nat (by omega)]), trivial⟩)
    · refine ok_go 4 ?_
      refine sy_loop 0 lf g (α := Nat × Nat) (fun s => [(0, .int .u64 x), (2, I kind), (7, J N), (8, .slice (some ⟨h.next, 0, none⟩) N (2 * N)), (9, J i), (11, J s.1), (12, J s.2)]) (fun s k => k = g ∧ s.1 + s.2 ≤ i) (fun s _ => s.2) (0, i) (by kernel_rfl) (by kernel_rfl) ⟨by kernel_rfl, by kernel_rfl, by kernel_rfl, by kernel_rfl, by kernel_rfl, by kernel_rfl, by kernel_rfl, trivial⟩ (show i < lf by omega) ⟨rfl, by show 0 + i ≤ i; omega⟩ ?_
      rintro m2 ⟨o, k⟩ f2 g2 ⟨rfl, hok⟩ ih2
      dsimp only at hok
      refine ok_go 1 ?_
      refine sy_test 0 (decide (Int.ofNat k > 0)) (by kernel_rfl) ?_ ?_
      · intro hk
        have hk : 0 < k := by have := of_decide_eq_true hk; simp at this; omega
        refine ok_go 3 ?_
        exact sy_next 0 _ g2 (by kernel_rfl) (by kernel_rfl) (ih2 (o + k % 2, k / 2) _ g2 ⟨rfl, by show o + k % 2 + k / 2 ≤ i; omega⟩ (show k / 2 < k by omega) ⟨by kernel_rfl, by kernel_rfl, by kernel_rfl, by kernel_rfl, by kernel_rfl, (by kernel_rfl : _ = Value.int .i64 (IntKind.wrap .i64 (Int.ofNat (o + k % 2)))).trans (by rw [wrap_nat (by omega)]), (by kernel_rfl : _ = Value.int .i64 (IntKind.wrap .i64 (Int.ofNat (k / 2)))).trans (by rw [wrap_nat (by omega)]), trivial⟩)
      · intro _
        obtain ⟨g', e, X', f', A'⟩ := fin ((x.fdiv (2 ^ min (IntKind.wrap .u64 (Int.ofNat o)).toNat IntKind.u64.bits)).tmod 2 == 1)
        refine ok_go 4 ?_
        refine sy_load 0 (r := indexAddrOp Try.prog 27 (.slice (some ⟨h.next, 0, none⟩) N (2 * N)) (J i)) (h' := g2) (by kernel_rfl) (idxB hlt) ?_
        refine ok_go 0 ?_
        refine sy_store 0 (r := storeT Try.prog g2 4 (ptr h.next i) (.bool ((x.fdiv (2 ^ min (IntKind.wrap .u64 (Int.ofNat o)).toNat IntKind.u64.bits)).tmod 2 == 1))) (by kernel_rfl) e ?_
        refine ok_go 1 ?_
        exact sy_next 0 _ g' (by kernel_rfl) (by kernel_rfl) (ih (i + 1) _ g' ⟨hlt, X', f', A'⟩ (show N - (i + 1) < N - i by omega) ⟨by kernel_rfl, by kernel_rfl, by kernel_rfl, by kernel_rfl, (by kernel_rfl : _ = Value.int .i64 (IntKind.wrap .i64 (Int.ofNat (i + 1)))).trans (by rw [wrap_nat (by omega)]), trivial⟩)
    · obtain ⟨g', e, X', f', A'⟩ := fin ((x.fdiv (2 ^ min (IntKind.wrap .u64 ((Int.ofNat i).tmod 4)).toNat IntKind.u64.bits)).tmod 2 == 1)
      refine ok_go 11 ?_
      refine sy_load 0 (r := indexAddrOp Try.prog 27 (.slice (some ⟨h.next, 0, none⟩) N (2 * N)) (J i)) (h' := g) (by kernel_rfl) (idxB hlt) ?_
      refine ok_go 0 ?_
      refine sy_store 0 (r := storeT Try.prog g 4 (ptr h.next i) (.bool ((x.fdiv (2 ^ min (IntKind.wrap .u64 ((Int.ofNat i).tmod 4)).toNat IntKind.u64.bits)).tmod 2 == 1))) (by kernel_rfl) e ?_
      refine ok_go 1 ?_
      exact sy_next 0 _ g' (by kernel_rfl) (by kernel_rfl) (ih (i + 1) _ g' ⟨hlt, X', f', A'⟩ (show N - (i + 1) < N - i by omega) ⟨by kernel_rfl, by kernel_rfl, by kernel_rfl, by kernel_rfl, (by kernel_rfl : _ = Value.int .i64 (IntKind.wrap .i64 (Int.ofNat (i + 1)))).trans (by rw [wrap_nat (by omega)]), trivial⟩)
  · intro hlt
    have hlt := no_nat hlt
    refine ok_go 0 ?_
    exact sy_done 0 (v := .slice (some ⟨h.next, 0, none⟩) N (2 * N)) (h := g) (by kernel_rfl) ⟨h.next, f, rfl, Nat.le_refl _, X, A⟩
end Go.Proofs.Ytnfboopfpkaeaaa
