/- ChkQB: contracts and laws of ChkA. -/
import Derived.Test.YtnfboopfpkaeaaaGreatDoorProg
import Derived.KernelRfl
import Derived.Test.YtnfboopfpkaeaaaGreatDoorSyF
import Derived.Test.YtnfboopfpkaeaaaGreatDoorAwake
import Derived.Test.YtnfboopfpkaeaaaGreatDoorChkQA
namespace Go.Proofs.YtnfboopfpkaeaaaGreatDoor
open Go Go.Eng Nim
set_option maxRecDepth 100000
set_option maxHeartbeats 4000000
/-- A number that is not less than 0. -/
abbrev J (a : Nat) : Value := .int .i64 (Int.ofNat a)
/-- A number of Go's int. -/
abbrev I (z : Int) : Value := .int .i64 z
noncomputable abbrev Ev (lf n f : Nat) (l : List Value) (h : Hp) := evInv Tryz.prog orc lf n (.fn f l) h
theorem ok_nat {a b : Nat} (h : decide (Int.ofNat a < Int.ofNat b) = true) : a < b := by have := of_decide_eq_true h; simpa using this
theorem no_nat {a b : Nat} (h : decide (Int.ofNat a < Int.ofNat b) = false) : b ≤ a := by have := of_decide_eq_false h; simp at this; omega
/-- The number of bits of a table. -/
theorem size_of (n : Nat) (hn : n ≤ 6) (m : Nat) (h : Hp) : Ev 100000 (m + 10) 28 [J (2 ^ n)] h = some (.tuple #[J n, .bool true], h) := by
  rcases (by omega : n = 0 ∨ n = 1 ∨ n = 2 ∨ n = 3 ∨ n = 4 ∨ n = 5 ∨ n = 6) with rfl | rfl | rfl | rfl | rfl | rfl | rfl <;> kernel_rfl
/-- Bools in block b. -/
structure ArB (b N : Nat) (v : Nat → Bool) (h : Hp) : Prop where
  lt : b < h.next
  get : ∃ opn, h.get b = some (.cells (cellsF N fun x => Value.bool (v x)) 4 opn)
theorem uB : Tryz.prog.underlying 22 = some (.slice 4) := by kernel_rfl
theorem zB : sizeT Tryz.prog 4 = some 1 := by kernel_rfl
theorem agB : isAggT Tryz.prog 4 = some false := by kernel_rfl
theorem idxB {b N c v : Nat} (hv : v < N) : indexAddrOp Tryz.prog 22 (.slice (some ⟨b, 0, none⟩) N c) (J v) = some (ptr b v) := by
  rw [idxSl uB zB hv, Nat.zero_add, Nat.mul_one]
theorem ArB.read {b N : Nat} {v : Nat → Bool} {h : Hp} (H : ArB b N v h) {x : Nat} (hx : x < N) : loadT Tryz.prog h 4 (ptr b x) = some (Value.bool (v x)) := by
  obtain ⟨o, e⟩ := H.get
  exact load1 agB e (cellsF_get hx)
theorem ArB.store {b N : Nat} {v : Nat → Bool} {h : Hp} (H : ArB b N v h) {x : Nat} (hx : x < N) (z : Bool) : ∃ g, storeT Tryz.prog h 4 (ptr b x) (Value.bool z) = some g ∧ ArB b N (fun y => if y = x then z else v y) g ∧ g.next = h.next ∧ ∀ j, j ≠ b → g.get j = h.get j := by
  obtain ⟨o, e⟩ := H.get
  refine ⟨_, store1 zB rfl e (by rw [cellsF_len]; exact hx), ⟨H.lt, o, ?_⟩, rfl, fun j hj => Hp.get_put_ne hj⟩
  rw [cellsF_set, get_put]
  refine congrArg (fun l => some (AObj.cells l 4 o)) (cellsF_congr fun y _ => ?_)
  show (if y = x then Value.bool z else Value.bool (v y)) = Value.bool (if y = x then z else v y)
  by_cases hy : y = x
  · rw [if_pos hy, if_pos hy]
  · rw [if_neg hy, if_neg hy]
theorem ArB.congr {b N : Nat} {v v' : Nat → Bool} {h : Hp} (H : ArB b N v h) (e : ∀ x, x < N → v x = v' x) : ArB b N v' h := by
  obtain ⟨o, e'⟩ := H.get
  exact ⟨H.lt, o, by rw [e']; exact congrArg (fun l => some (AObj.cells l 4 o)) (cellsF_congr fun x hx => by rw [e x hx])⟩
theorem ArB.rds {b N : Nat} {v : Nat → Bool} {h : Hp} (H : ArB b N v h) (c : Nat) : Rds h (.slice (some ⟨b, 0, none⟩) N c) (cellsF N fun x => Value.bool (v x)) := by
  obtain ⟨o, e⟩ := H.get
  exact rd_cells H.lt e
theorem uI : Tryz.prog.underlying 29 = some (.slice 3) := by kernel_rfl
theorem zI : sizeT Tryz.prog 3 = some 1 := by kernel_rfl
theorem agI : isAggT Tryz.prog 3 = some false := by kernel_rfl
theorem slB : SlT Tryz.prog 22 4 := ⟨by kernel_rfl, by kernel_rfl, ⟨_, rfl, by kernel_rfl⟩, ⟨_, rfl, by kernel_rfl⟩⟩
theorem check_of (n : Nat) (a : Option Addr) (c lf m : Nat) (h : Hp) (sz : ∀ h, Ev lf m 28 [J (2 ^ n)] h = some (.tuple #[J n, .bool true], h)) : Ev lf (m + 1) 5 [.slice a (2 ^ n) c] h = some (J 0, h) := by
  refine fn_eq ?_
  refine ok_go 1 ?_
  refine sy_call 0 (by kernel_rfl) (sz h) ?_
  refine ok_go 4 ?_
  exact sy_done 0 (v := J 0) (h := h) (by kernel_rfl) ⟨rfl, rfl⟩
/-- A block that is new may be turned. -/
theorem ext_of {h g g' : Hp} {b : Nat} (X : h.Ext g) (hb : h.next ≤ b) (hn : g'.next = g.next) (ho : ∀ j, j ≠ b → g'.get j = g.get j) : h.Ext g' :=
  ⟨by rw [hn]; exact X.next, fun j hj => (ho j (by omega)).trans (X.get j hj)⟩
theorem ArB.ext {b N : Nat} {v : Nat → Bool} {h g : Hp} (H : ArB b N v h) (k : h.Ext g) : ArB b N v g := ⟨Nat.lt_of_lt_of_le H.lt k.next, by obtain ⟨o, e⟩ := H.get; exact ⟨o, k.at_ H.lt e⟩⟩
theorem bits_of (z : Int) : ∃ k, k ≤ 6 ∧ ∀ lf m h, Ev lf (m + 1) 24 [I z, J 6] h = some (J k, h) := by
  have h0 : 0 ≤ IntKind.wrap .u64 z := by
    show 0 ≤ z % 2 ^ 64
    exact Int.emod_nonneg _ (by decide)
  obtain ⟨u, hu⟩ := Int.eq_ofNat_of_zero_le h0
  have hu : IntKind.wrap .u64 z = Int.ofNat u := hu
  refine ⟨u % 7, by omega, fun lf m h => ?_⟩
  refine fn_eq ?_
  refine ok_go 5 ?_
  exact sy_done 0 (v := I (IntKind.wrap .i64 ((IntKind.wrap .u64 z).tmod 7))) (h := h) (by kernel_rfl) ⟨by rw [hu]; show I (IntKind.wrap .i64 (Int.ofNat (u % 7))) = _; rw [wrap_nat (by omega)], rfl⟩
/-- What make makes. -/
theorem makeSl {P : Program} {h : Hp} {t e : TypeId} {len : Nat} {z : Value} {inf : TypeInfo} {kd kd' : IntKind} (hu : P.underlying t = some (.slice e)) (hz : zeroOf P e = some z) (hi : P.info? e = some inf) (hb : Nat.ble inf.bytes 4096 = true)
    (hs : Nat.beq z.cells.size inf.size = true) (hsc : z.cells.toList.all scalar = true) (hn : len < 16777216) :
    makeSliceOp P h t (.int kd (Int.ofNat len)) (.int kd' (Int.ofNat len)) = some (.slice (some ⟨h.next, 0, none⟩) len (2 * len), h.new (.cells (zeros z.cells.toList len) e false)) := by
  have h1 : Nat.ble len len = true := Nat.ble_eq_true_of_le (Nat.le_refl _)
  have h2 : Nat.ble len most = true := Nat.ble_eq_true_of_le (by unfold most; omega)
  simp only [makeSliceOp, hu, natOf, hz, hi, h1, h2, hb, hs, hsc]
theorem table_of (x : Int) (n : Nat) (hn : n ≤ 6) (kind : Int) (lf m : Nat) (hlf : 300 ≤ lf) (h : Hp) :
    ∃ y h', Ev lf (m + 1) 25 [.int .u64 x, J n, I kind] h = some (y, h') ∧ ∃ b f, y = .slice (some ⟨b, 0, none⟩) (2 ^ n) (2 * 2 ^ n) ∧ h.next ≤ b ∧ h.Ext h' ∧ ArB b (2 ^ n) f h' := by
  have hp64 : 2 ^ n ≤ 64 := Nat.pow_le_pow_right (n := 2) (by decide) hn
  have hpc : ((2 : Int) ^ n) = ((2 ^ n : Nat) : Int) := by simp
  have hmin : min (IntKind.wrap .u64 (Int.ofNat n)).toNat IntKind.i64.bits = n := by
    rcases (by omega : n = 0 ∨ n = 1 ∨ n = 2 ∨ n = 3 ∨ n = 4 ∨ n = 5 ∨ n = 6) with rfl | rfl | rfl | rfl | rfl | rfl | rfl <;> rfl
  have hsh : IntKind.wrap .i64 (1 * 2 ^ n) = Int.ofNat (2 ^ n) := by
    rw [Int.one_mul, hpc]
    exact wrap_nat (by omega)
  obtain ⟨y, hy, ey⟩ : ∃ y, y < 4 ∧ (IntKind.wrap .u64 kind).tmod 4 = Int.ofNat y := by
    have h0 : 0 ≤ IntKind.wrap .u64 kind := by
      show 0 ≤ kind % 2 ^ 64
      exact Int.emod_nonneg _ (by decide)
    obtain ⟨u, hu⟩ := Int.eq_ofNat_of_zero_le h0
    have hu : IntKind.wrap .u64 kind = Int.ofNat u := hu
    exact ⟨u % 4, by omega, by rw [hu]; rfl⟩
  refine fnS_ok (Q := fun y h' => ∃ b f, y = .slice (some ⟨b, 0, none⟩) (2 ^ n) (2 * 2 ^ n) ∧ h.next ≤ b ∧ h.Ext h' ∧ ArB b (2 ^ n) f h') ?_
  generalize hN : 2 ^ n = N at *
  refine sy_call 1 (r := some (.int .i64 (IntKind.wrap .i64 (1 * 2 ^ min (IntKind.wrap .u64 (Int.ofNat n)).toNat IntKind.i64.bits)), h)) (v := J N) (h' := h) (by kernel_rfl) (by rw [hmin, hsh]) ?_
  refine ok_go 0 ?_
  refine sy_call 0 (r := makeSliceOp Tryz.prog h 22 (J N) (J N)) (v := .slice (some ⟨h.next, 0, none⟩) N (2 * N)) (h' := h.new (.cells (zeros [.bool false] N) 4 false)) (by kernel_rfl) (makeSl (z := .bool false) (inf := (Tryz.prog.info? 4).get!) uB (by kernel_rfl) (by kernel_rfl) (by kernel_rfl) (by kernel_rfl) (by kernel_rfl) (by omega)) ?_
  have B0 : ArB h.next N (fun _ => false) (h.new (.cells (zeros [.bool false] N) 4 false)) := ⟨Nat.lt_succ_self _, false, by rw [zeros_one]; exact get_new _ _⟩
  have X0 : h.Ext (h.new (.cells (zeros [.bool false] N) 4 false)) := Hp.Ext.new _ _
  generalize hh0 : h.new (.cells (zeros [.bool false] N) 4 false) = h0 at B0 X0
  clear hh0
  refine ok_go 0 ?_
  refine sy_loop 0 lf h0 (α := Nat) (fun s => [(0, .int .u64 x), (2, I kind), (7, J N), (8, .slice (some ⟨h.next, 0, none⟩) N (2 * N)), (9, J s)]) (fun s g => s ≤ N ∧ h.Ext g ∧ ∃ f, ArB h.next N f g) (fun s _ => N - s) 0 (by kernel_rfl) (by kernel_rfl) ⟨by kernel_rfl, by kernel_rfl, by kernel_rfl, by kernel_rfl, by kernel_rfl, trivial⟩ (show N - 0 < lf by omega) ⟨Nat.zero_le _, X0, _, B0⟩ ?_
  rintro m1 i f1 g ⟨hi, X, f, A⟩ ih
  refine ok_go 1 ?_
  refine sy_test 0 (decide (Int.ofNat i < Int.ofNat N)) (by kernel_rfl) ?_ ?_
  · intro hlt
    have hlt := ok_nat hlt
    have fin : ∀ z : Bool, ∃ g', storeT Tryz.prog g 4 (ptr h.next i) (.bool z) = some g' ∧ h.Ext g' ∧ ∃ f, ArB h.next N f g' := fun z => by
      obtain ⟨g', e, A', n', o'⟩ := A.store hlt z
      exact ⟨g', e, ext_of X (Nat.le_refl _) n' o', _, A'⟩
    refine sy_call 5 (r := some (.int .u64 ((IntKind.wrap .u64 kind).tmod 4), g)) (v := .int .u64 (Int.ofNat y)) (h' := g) (by kernel_rfl) (by rw [ey]) ?_
    rcases (by omega : y = 0 ∨ y = 1 ∨ y = 2 ∨ y = 3) with rfl | rfl | rfl | rfl
    · obtain ⟨g', e, X', f', A'⟩ := fin ((x.fdiv (2 ^ min (IntKind.wrap .u64 (Int.ofNat i)).toNat IntKind.u64.bits)).tmod 2 == 1)
      refine ok_go 6 ?_
      refine sy_load 0 (r := indexAddrOp Tryz.prog 22 (.slice (some ⟨h.next, 0, none⟩) N (2 * N)) (J i)) (h' := g) (by kernel_rfl) (idxB hlt) ?_
      refine ok_go 0 ?_
      refine sy_store 0 (r := storeT Tryz.prog g 4 (ptr h.next i) (.bool ((x.fdiv (2 ^ min (IntKind.wrap .u64 (Int.ofNat i)).toNat IntKind.u64.bits)).tmod 2 == 1))) (by kernel_rfl) e ?_
      refine ok_go 1 ?_
      exact sy_next 0 _ g' (by kernel_rfl) (by kernel_rfl) (ih (i + 1) _ g' ⟨hlt, X', f', A'⟩ (show N - (i + 1) < N - i by omega) ⟨by kernel_rfl, by kernel_rfl, by kernel_rfl, by kernel_rfl, (by kernel_rfl : _ = Value.int .i64 (IntKind.wrap .i64 (Int.ofNat (i + 1)))).trans (by rw [wrap_nat (by omega)]), trivial⟩)
    · refine ok_go 2 ?_
      refine sy_test 0 ((x.fdiv (2 ^ min (IntKind.wrap .u64 (Int.ofNat i)).toNat IntKind.u64.bits)).tmod 2 == 1) (by kernel_rfl) ?_ ?_
      · intro _
        have hw : (IntKind.wrap .i64 (IntKind.wrap .i64 (Int.ofNat i * 7) + 3)).tmod 64 = Int.ofNat ((i * 7 + 3) % 64) := by
          rw [show Int.ofNat i * 7 = Int.ofNat (i * 7) from rfl, wrap_nat (by omega), show Int.ofNat (i * 7) + 3 = Int.ofNat (i * 7 + 3) from rfl, wrap_nat (by omega)]
          rfl
        refine sy_call 6 (r := some (.int .i64 ((IntKind.wrap .i64 (IntKind.wrap .i64 (Int.ofNat i * 7) + 3)).tmod 64), g)) (v := J ((i * 7 + 3) % 64)) (h' := g) (by kernel_rfl) (by rw [hw]) ?_
        obtain ⟨g', e, X', f', A'⟩ := fin ((x.fdiv (2 ^ min (IntKind.wrap .u64 (Int.ofNat ((i * 7 + 3) % 64))).toNat IntKind.u64.bits)).tmod 2 == 1)
        refine ok_go 9 ?_
        refine sy_load 0 (r := indexAddrOp Tryz.prog 22 (.slice (some ⟨h.next, 0, none⟩) N (2 * N)) (J i)) (h' := g) (by kernel_rfl) (idxB hlt) ?_
        refine ok_go 0 ?_
        refine sy_store 0 (r := storeT Tryz.prog g 4 (ptr h.next i) (.bool ((x.fdiv (2 ^ min (IntKind.wrap .u64 (Int.ofNat ((i * 7 + 3) % 64))).toNat IntKind.u64.bits)).tmod 2 == 1))) (by kernel_rfl) e ?_
        refine ok_go 1 ?_
        exact sy_next 0 _ g' (by kernel_rfl) (by kernel_rfl) (ih (i + 1) _ g' ⟨hlt, X', f', A'⟩ (show N - (i + 1) < N - i by omega) ⟨by kernel_rfl, by kernel_rfl, by kernel_rfl, by kernel_rfl, (by kernel_rfl : _ = Value.int .i64 (IntKind.wrap .i64 (Int.ofNat (i + 1)))).trans (by rw [wrap_nat (by omega)]), trivial⟩)
      · intro _
        obtain ⟨g', e, X', f', A'⟩ := fin false
        refine ok_go 9 ?_
        refine sy_load 0 (r := indexAddrOp Tryz.prog 22 (.slice (some ⟨h.next, 0, none⟩) N (2 * N)) (J i)) (h' := g) (by kernel_rfl) (idxB hlt) ?_
        refine ok_go 0 ?_
        refine sy_store 0 (r := storeT Tryz.prog g 4 (ptr h.next i) (.bool false)) (by kernel_rfl) e ?_
        refine ok_go 1 ?_
        exact sy_next 0 _ g' (by kernel_rfl) (by kernel_rfl) (ih (i + 1) _ g' ⟨hlt, X', f', A'⟩ (show N - (i + 1) < N - i by omega) ⟨by kernel_rfl, by kernel_rfl, by kernel_rfl, by kernel_rfl, (by kernel_rfl : _ = Value.int .i64 (IntKind.wrap .i64 (Int.ofNat (i + 1)))).trans (by rw [wrap_nat (by omega)]), trivial⟩)
    · refine ok_go 4 ?_
      refine sy_loop 0 lf g (α := Nat × Nat) (fun s => [(0, .int .u64 x), (2, I kind), (7, J N), (8, .slice (some ⟨h.next, 0, none⟩) N (2 * N)), (9, J i), (11, J s.1), (12, J s.2)]) (fun s k => k = g ∧ s.1 + s.2 ≤ i) (fun s _ => s.2) (0, i) (by kernel_rfl) (by kernel_rfl) ⟨by kernel_rfl, by kernel_rfl, by kernel_rfl, by kernel_rfl, by kernel_rfl, by kernel_rfl, by kernel_rfl, trivial⟩ (show i < lf by omega) ⟨rfl, by show 0 + i ≤ i; omega⟩ ?_
      rintro m2 ⟨o, k⟩ f2 g2 ⟨rfl, hok⟩ ih2
      dsimp only at hok
      refine ok_go 1 ?_
      refine sy_test 0 (decide (Int.ofNat k > 0)) (by kernel_rfl) ?_ ?_
      · intro hk
        have hk : 0 < k := by have := of_decide_eq_true hk; simp at this; omega
        refine ok_go 3 ?_
        exact sy_next 0 _ g2 (by kernel_rfl) (by kernel_rfl) (ih2 (o + k % 2, k / 2) _ g2 ⟨rfl, by show o + k % 2 + k / 2 ≤ i; omega⟩ (show k / 2 < k by omega) ⟨by kernel_rfl, by kernel_rfl, by kernel_rfl, by kernel_rfl, by kernel_rfl, (by kernel_rfl : _ = Value.int .i64 (IntKind.wrap .i64 (Int.ofNat (o + k % 2)))).trans (by rw [wrap_nat (by omega)]), (by kernel_rfl : _ = Value.int .i64 (IntKind.wrap .i64 (Int.ofNat (k / 2)))).trans (by rw [wrap_nat (by omega)]), trivial⟩)
      · intro _
        obtain ⟨g', e, X', f', A'⟩ := fin ((x.fdiv (2 ^ min (IntKind.wrap .u64 (Int.ofNat o)).toNat IntKind.u64.bits)).tmod 2 == 1)
        refine ok_go 4 ?_
        refine sy_load 0 (r := indexAddrOp Tryz.prog 22 (.slice (some ⟨h.next, 0, none⟩) N (2 * N)) (J i)) (h' := g2) (by kernel_rfl) (idxB hlt) ?_
        refine ok_go 0 ?_
        refine sy_store 0 (r := storeT Tryz.prog g2 4 (ptr h.next i) (.bool ((x.fdiv (2 ^ min (IntKind.wrap .u64 (Int.ofNat o)).toNat IntKind.u64.bits)).tmod 2 == 1))) (by kernel_rfl) e ?_
        refine ok_go 1 ?_
        exact sy_next 0 _ g' (by kernel_rfl) (by kernel_rfl) (ih (i + 1) _ g' ⟨hlt, X', f', A'⟩ (show N - (i + 1) < N - i by omega) ⟨by kernel_rfl, by kernel_rfl, by kernel_rfl, by kernel_rfl, (by kernel_rfl : _ = Value.int .i64 (IntKind.wrap .i64 (Int.ofNat (i + 1)))).trans (by rw [wrap_nat (by omega)]), trivial⟩)
    · obtain ⟨g', e, X', f', A'⟩ := fin ((x.fdiv (2 ^ min (IntKind.wrap .u64 ((Int.ofNat i).tmod 4)).toNat IntKind.u64.bits)).tmod 2 == 1)
      refine ok_go 11 ?_
      refine sy_load 0 (r := indexAddrOp Tryz.prog 22 (.slice (some ⟨h.next, 0, none⟩) N (2 * N)) (J i)) (h' := g) (by kernel_rfl) (idxB hlt) ?_
      refine ok_go 0 ?_
      refine sy_store 0 (r := storeT Tryz.prog g 4 (ptr h.next i) (.bool ((x.fdiv (2 ^ min (IntKind.wrap .u64 ((Int.ofNat i).tmod 4)).toNat IntKind.u64.bits)).tmod 2 == 1))) (by kernel_rfl) e ?_
      refine ok_go 1 ?_
      exact sy_next 0 _ g' (by kernel_rfl) (by kernel_rfl) (ih (i + 1) _ g' ⟨hlt, X', f', A'⟩ (show N - (i + 1) < N - i by omega) ⟨by kernel_rfl, by kernel_rfl, by kernel_rfl, by kernel_rfl, (by kernel_rfl : _ = Value.int .i64 (IntKind.wrap .i64 (Int.ofNat (i + 1)))).trans (by rw [wrap_nat (by omega)]), trivial⟩)
  · intro hlt
    have hlt := no_nat hlt
    refine ok_go 0 ?_
    exact sy_done 0 (v := .slice (some ⟨h.next, 0, none⟩) N (2 * N)) (h := g) (by kernel_rfl) ⟨h.next, f, rfl, Nat.le_refl _, X, A⟩
/-- Other places are as they were. -/
structure Exc (S : List Nat) (h g : Hp) : Prop where
  next : h.next ≤ g.next
  get : ∀ j, j < h.next → j ∉ S → g.get j = h.get j
/-- The masks of one bit, given to a round each. -/
theorem single_run (n : Nat) (hn : n ≤ 6) (lf m b l : Nat) (hlf : 300 ≤ lf) (a : Option Addr) (c : Nat) (I : Nat → Hp → Prop) (E : Hp → Prop)
    (hb : ∀ i g, I i g → loadT Tryz.prog g 22 (ptr b 0) = some (.slice a (2 ^ n) c))
    (hy : ∀ i g, i < n → I i g → (∃ g', evInv Tryz.prog orc lf m (.yield l [J (2 ^ i)]) g = some (.bool true, g') ∧ I (i + 1) g') ∨ (∃ g', evInv Tryz.prog orc lf m (.yield l [J (2 ^ i)]) g = some (.bool false, g') ∧ E g'))
    {h : Hp} (h0 : I 0 h) : ∃ v h', Ev lf (m + 1) 73 [.func (.yield l) #[] #[], ptr b 0] h = some (v, h') ∧ (I n h' ∨ E h') := by
  refine fnS_ok (Q := fun _ h' => I n h' ∨ E h') ?_
  refine sy_loop 0 lf h (α := Nat) (fun i => [(0, .func (.yield l) #[] #[]), (1, ptr b 0), (3, J (2 ^ i))]) (fun i g => i ≤ n ∧ I i g) (fun i _ => n - i) 0 (by kernel_rfl) (by kernel_rfl) ⟨by kernel_rfl, by kernel_rfl, by kernel_rfl, trivial⟩ (by omega) ⟨Nat.zero_le _, h0⟩ ?_
  rintro m1 i f1 g ⟨hi, hI⟩ ih
  refine ok_go 0 ?_
  refine sy_load 0 (h' := g) (by kernel_rfl) (hb i g hI) ?_
  refine ok_go 2 ?_
  refine sy_test 0 (decide (Int.ofNat (2 ^ i) < Int.ofNat (2 ^ n))) (by kernel_rfl) ?_ ?_
  · intro hlt
    have hlt : i < n := (Nat.pow_lt_pow_iff_right (by decide)).1 (ok_nat hlt)
    refine ok_go 0 ?_
    rcases hy i g hlt hI with ⟨g', e, hI'⟩ | ⟨g', e, hE⟩
    · refine sy_call 0 (by kernel_rfl) e ?_
      have hw : IntKind.i64.wrap (Int.ofNat (2 ^ i) * 2) = Int.ofNat (2 ^ (i + 1)) := by
        have h6 : 2 ^ (i + 1) ≤ 2 ^ 6 := Nat.pow_le_pow_right (by decide) (by omega)
        have h7 : Int.ofNat (2 ^ i) * 2 = Int.ofNat (2 ^ (i + 1)) := by rw [Nat.pow_succ]; rfl
        rw [h7, wrap_small (by exact Int.natCast_nonneg _) (by have : Int.ofNat (2 ^ (i + 1)) ≤ 64 := Int.ofNat_le.2 h6; omega)]
      refine ok_go 3 ?_
      exact sy_next 0 _ g' (by kernel_rfl) (by kernel_rfl) (ih (i + 1) _ g' ⟨hlt, hI'⟩ (by show n - (i + 1) < n - i; omega) ⟨by kernel_rfl, by kernel_rfl, (by kernel_rfl : _ = Value.int .i64 (IntKind.i64.wrap (Int.ofNat (2 ^ i) * 2))).trans (by rw [hw]), trivial⟩)
    · refine sy_call 0 (by kernel_rfl) e ?_
      refine ok_go 2 ?_
      exact sy_done 0 (v := undef) (h := g') (by kernel_rfl) (.inr hE)
  · intro hlt
    have hlt := no_nat hlt
    have hin : i = n := by
      have := (Nat.pow_le_pow_iff_right (a := 2) (by decide)).1 hlt
      omega
    subst hin
    refine ok_go 0 ?_
    exact sy_done 0 (v := undef) (h := g) (by kernel_rfl) (.inl hI)
/-- What the mask behind s is within M, as the code has it. -/
def nxZ (s M : Nat) : Int := andI (IntKind.i64.wrap (Int.ofNat s - Int.ofNat M)) (Int.ofNat M)
noncomputable def nxB (M s : Nat) : Bool := (Nat.beq (s &&& M) s).not || (match Nat.beq s M, nxZ s M with
  | true, .ofNat 0 => true
  | false, .ofNat t => Nat.blt s t && Nat.ble t M && Nat.beq (t &&& M) t && allB t fun v => (Nat.blt s v).not || (Nat.beq (v &&& M) v).not
  | _, _ => false)
theorem nx_all : allB 64 (fun M => allB 64 fun s => nxB M s) = true := by kernel_rfl
theorem nx_end {M : Nat} (hM : M < 64) : nxZ M M = 0 := by
  have h := allB_ok (allB_ok nx_all M hM) M hM
  unfold nxB at h
  rw [Nat.and_self, Nat.beq_refl, Bool.not_true, Bool.false_or] at h
  split at h
  · rename_i e; exact e
  · rename_i e _; cases e
  · cases h
theorem nx_ok {M s : Nat} (hM : M < 64) (hs : s &&& M = s) (hne : s ≠ M) : ∃ t, nxZ s M = Int.ofNat t ∧ s < t ∧ t ≤ M ∧ t &&& M = t ∧ ∀ v, s < v → v < t → v &&& M ≠ v := by
  have hsM : s ≤ M := by rw [← hs]; exact Nat.and_le_right
  have h := allB_ok (allB_ok nx_all M hM) s (by omega)
  unfold nxB at h
  rw [hs, Nat.beq_refl, Bool.not_true, Bool.false_or] at h
  split at h
  · rename_i e _; exact absurd (Nat.eq_of_beq_eq_true e) hne
  · rename_i t _ e
    simp only [Bool.and_eq_true] at h
    obtain ⟨⟨⟨h1, h2⟩, h3⟩, h4⟩ := h
    refine ⟨t, e, Nat.le_of_ble_eq_true h1, Nat.le_of_ble_eq_true h2, Nat.eq_of_beq_eq_true h3, fun v hv1 hv2 hv3 => ?_⟩
    have := allB_ok h4 v hv2
    rw [blt_true hv1, hv3, Nat.beq_refl] at this
    cases this
  · cases h
/-- The masks within a mask, rising, but 0, given to a round each: I s says that those up to s are done. -/
theorem within_run (lf k b l M : Nat) (hM : M < 64) (hlf : 300 ≤ lf) (I : Nat → Hp → Prop) (E : Hp → Prop)
    (hb : ∀ s g, I s g → loadT Tryz.prog g 3 (ptr b 0) = some (J M))
    (hy : ∀ s t g, s < t → t ≤ M → t &&& M = t → (∀ v, s < v → v < t → v &&& M ≠ v) → I s g → (∃ g', evInv Tryz.prog orc lf k (.yield l [J t]) g = some (.bool true, g') ∧ I t g') ∨ (∃ g', evInv Tryz.prog orc lf k (.yield l [J t]) g = some (.bool false, g') ∧ E g'))
    {h : Hp} (h0 : I 0 h) : ∃ v h', Ev lf (k + 1) 84 [.func (.yield l) #[] #[], ptr b 0] h = some (v, h') ∧ (I M h' ∨ E h') := by
  refine fnS_ok (Q := fun _ h' => I M h' ∨ E h') ?_
  refine ok_go 0 ?_
  refine sy_load 0 (h' := h) (by kernel_rfl) (hb _ _ h0) ?_
  refine ok_go 1 ?_
  refine sy_load 0 (h' := h) (by kernel_rfl) (hb _ _ h0) ?_
  refine ok_go 1 ?_
  refine sy_loop 0 lf h (α := Nat) (fun s => [(0, .func (.yield l) #[] #[]), (1, ptr b 0), (3, .int .i64 (nxZ s M))]) (fun s g => s ≤ M ∧ s &&& M = s ∧ I s g) (fun s _ => M - s) 0 (by kernel_rfl) (by kernel_rfl) ⟨by kernel_rfl, by kernel_rfl, by kernel_rfl, trivial⟩ (by omega) ⟨Nat.zero_le _, Nat.zero_and _, h0⟩ ?_
  rintro m1 s f1 g ⟨hs, hsM, hI⟩ ih
  by_cases hend : s = M
  · subst hend
    refine sy_no 1 (b := (nxZ s s != 0)) (by kernel_rfl) (by rw [nx_end hM]; rfl) ?_
    refine ok_go 0 ?_
    exact sy_done 0 (v := undef) (h := g) (by kernel_rfl) (.inl hI)
  · obtain ⟨t, e, h1, h2, h3, h4⟩ := nx_ok hM hsM hend
    rw [e]
    refine sy_yes 1 (b := (Int.ofNat t != 0)) (by kernel_rfl) (by
      cases t with
      | zero => omega
      | succ t => rfl) ?_
    refine ok_go 0 ?_
    rcases hy s t g h1 h2 h3 h4 hI with ⟨g', e', hI'⟩ | ⟨g', e', hE⟩
    · refine sy_call 0 (by kernel_rfl) e' ?_
      refine ok_go 2 ?_
      refine sy_load 0 (h' := g') (by kernel_rfl) (hb _ _ hI') ?_
      refine ok_go 1 ?_
      refine sy_load 0 (h' := g') (by kernel_rfl) (hb _ _ hI') ?_
      refine ok_go 1 ?_
      exact sy_next 0 _ g' (by kernel_rfl) (by kernel_rfl) (ih t _ g' ⟨h2, h3, hI'⟩ (by show M - t < M - s; omega) ⟨by kernel_rfl, by kernel_rfl, by kernel_rfl, trivial⟩)
    · refine sy_call 0 (by kernel_rfl) e' ?_
      refine ok_go 2 ?_
      exact sy_done 0 (v := undef) (h := g') (by kernel_rfl) (.inr hE)
theorem eq_int (a b : Nat) : (Int.ofNat a == Int.ofNat b) = (a == b) := by
  rw [Bool.eq_iff_iff, beq_iff_eq, beq_iff_eq]
  exact Int.ofNat_inj
theorem ne_int (a b : Nat) : (Int.ofNat a != Int.ofNat b) = (a != b) := by
  unfold bne; rw [eq_int]
theorem or_small {a b n : Nat} (ha : a < 2 ^ n) (hb : b < 2 ^ n) : a ||| b < 2 ^ n := Nat.or_lt_two_pow ha hb
theorem gn (h : Hp) (o : AObj) (j : Nat) : (h.new o).get j = if j = h.next then some o else h.get j := by
  split
  · rename_i e; rw [e]; exact get_new h o
  · rename_i e; exact Hp.get_new_ne e
theorem gp (h : Hp) (i : Nat) (o : AObj) (j : Nat) : (h.put i o).get j = if j = i then some o else h.get j := by
  split
  · rename_i e; rw [e]; exact get_put h i o
  · rename_i e; exact Hp.get_put_ne e
theorem nn (h : Hp) (o : AObj) : (h.new o).next = h.next + 1 := rfl
theorem np (h : Hp) (i : Nat) (o : AObj) : (h.put i o).next = h.next := rfl
/-- A mask without another one. -/
abbrev notI (a b : Int) : Int := IntKind.wrap .i64 ((BitVec.ofInt 64 a &&& ~~~BitVec.ofInt 64 b).toNat : Int)
/-- Whether all of the first numbers have it. -/
def al (p : Nat → Bool) : Nat → Bool
  | 0 => true
  | k + 1 => al p k && p k
theorem al_iff {p : Nat → Bool} : ∀ {n : Nat}, al p n = true ↔ ∀ x, x < n → p x = true
  | 0 => ⟨fun _ x hx => absurd hx (Nat.not_lt_zero x), fun _ => rfl⟩
  | n + 1 => by
    rw [al, Bool.and_eq_true, al_iff]
    constructor
    · rintro ⟨h1, h2⟩ x hx
      by_cases e : x = n
      · rw [e]; exact h2
      · exact h1 x (by omega)
    · exact fun h => ⟨fun x hx => h x (by omega), h n (by omega)⟩
/-- A decider over a table, in block bd. -/
def Dcd (bd b0 N c : Nat) (h : Hp) : Prop := bd < h.next ∧ ∃ z opn, h.get bd = some (.cells [.slice (some ⟨b0, 0, none⟩) N c, z] 73 opn)
theorem Dcd.ext {bd b0 N c : Nat} {h g : Hp} (H : Dcd bd b0 N c h) (k : h.Ext g) : Dcd bd b0 N c g := by
  obtain ⟨h1, z, o, e⟩ := H
  exact ⟨Nat.lt_of_lt_of_le h1 k.next, z, o, k.at_ h1 e⟩
theorem Dcd.read {bd b0 N c : Nat} {h : Hp} (H : Dcd bd b0 N c h) : loadT Tryz.prog h 22 (ptr bd 0) = some (.slice (some ⟨b0, 0, none⟩) N c) := by
  obtain ⟨_, z, o, e⟩ := H
  exact load1 (by kernel_rfl) e rfl
def cq (f : Nat → Bool) (m v x : Nat) : Bool := (x &&& m != v) || f x == f v
theorem const_of (f : Nat → Bool) (N : Nat) (hN : N ≤ 64) (lf k : Nat) (hlf : 300 ≤ lf) (b0 c bd m v : Nat) (hv : v < N) (hm : m < 64) (h : Hp) (A : ArB b0 N f h) (D : Dcd bd b0 N c h) :
    ∃ y h', Ev lf (k + 1) 64 [ptr bd 0, .agg #[J m, J v]] h = some (y, h') ∧ y = .tuple #[.bool (f v), .bool (al (cq f m v) N)] ∧ h.Ext h' := by
  refine fnS_ok (Q := fun y h' => y = .tuple #[.bool (f v), .bool (al (cq f m v) N)] ∧ h.Ext h') ?_
  have X0 : h.Ext (h.new (.cells [J m, J v] 76 false)) := Hp.Ext.new _ _
  have gx := get_new h (.cells [J m, J v] 76 false)
  have A1 := A.ext X0
  have D1 := D.ext X0
  refine ok_go 3 ?_
  refine sy_load 0 (r := loadT Tryz.prog (h.new (.cells [J m, J v] 76 false)) 22 (ptr bd 0)) (h' := h.new (.cells [J m, J v] 76 false)) (by kernel_rfl) D1.read ?_
  generalize h.new (.cells [J m, J v] 76 false) = X at X0 gx A1 D1 ⊢
  refine ok_go 1 ?_
  refine sy_load 0 (r := loadT Tryz.prog X 3 (ptr h.next 1)) (h' := X) (v := J v) (by kernel_rfl) (load1 agI gx rfl) ?_
  refine ok_go 0 ?_
  refine sy_load 0 (r := indexAddrOp Tryz.prog 22 (.slice (some ⟨b0, 0, none⟩) N c) (J v)) (h' := X) (by kernel_rfl) (idxB hv) ?_
  refine ok_go 0 ?_
  refine sy_load 0 (r := loadT Tryz.prog X 4 (ptr b0 v)) (h' := X) (by kernel_rfl) (A1.read hv) ?_
  refine ok_go 2 ?_
  refine sy_load 0 (r := loadT Tryz.prog X 22 (ptr bd 0)) (h' := X) (by kernel_rfl) D1.read ?_
  refine ok_go 1 ?_
  refine sy_loop 0 lf X (α := Nat) (fun x => [(3, ptr h.next 0), (4, .bool (f v)), (5, .bool (al (cq f m v) x)), (19, .slice (some ⟨b0, 0, none⟩) N c), (20, J N), (21, J x)]) (fun x g => x ≤ N ∧ g = X) (fun x _ => N - x) 0 (by kernel_rfl) (by kernel_rfl) ⟨by kernel_rfl, by kernel_rfl, by kernel_rfl, by kernel_rfl, by kernel_rfl, by kernel_rfl, trivial⟩ (by omega) ⟨Nat.zero_le _, rfl⟩ ?_
  rintro m1 x f1 g ⟨hx, rfl⟩ ih
  refine ok_go 1 ?_
  refine sy_test 0 (decide (Int.ofNat x < Int.ofNat N)) (by kernel_rfl) ?_ ?_
  · intro hlt
    have hlt := ok_nat hlt
    have hwx : IntKind.wrap .i64 (Int.ofNat (x + 1)) = Int.ofNat (x + 1) := wrap_nat (by omega)
    have hand : (andI (Int.ofNat x) (Int.ofNat m) != Int.ofNat v) = (x &&& m != v) := by rw [and_nat (by omega), ne_int]
    refine ok_go 0 ?_
    refine sy_load 0 (r := indexAddrOp Tryz.prog 22 (.slice (some ⟨b0, 0, none⟩) N c) (J x)) (h' := g) (by kernel_rfl) (idxB hlt) ?_
    refine ok_go 0 ?_
    refine sy_load 0 (r := loadT Tryz.prog g 4 (ptr b0 x)) (h' := g) (by kernel_rfl) (A1.read hlt) ?_
    refine ok_go 0 ?_
    refine sy_test 0 (al (cq f m v) x) (by kernel_rfl) ?_ ?_
    · intro hs
      refine ok_go 3 ?_
      refine sy_load 0 (r := loadT Tryz.prog g 3 (ptr h.next 0)) (h' := g) (v := J m) (by kernel_rfl) (load1 agI gx rfl) ?_
      refine ok_go 5 ?_
      refine sy_load 0 (r := loadT Tryz.prog g 3 (ptr h.next 1)) (h' := g) (v := J v) (by kernel_rfl) (load1 agI gx rfl) ?_
      refine ok_go 3 ?_
      refine sy_test 0 (andI (Int.ofNat x) (Int.ofNat m) != Int.ofNat v) (by kernel_rfl) ?_ ?_
      · intro hd
        rw [hand] at hd
        refine ok_go 6 ?_
        exact sy_next 0 _ g (by kernel_rfl) (by kernel_rfl) (ih (x + 1) _ g ⟨hlt, rfl⟩ (show N - (x + 1) < N - x by omega) ⟨by kernel_rfl, by kernel_rfl, (by kernel_rfl : _ = Value.bool true).trans (by rw [al, hs, cq, hd]; rfl), by kernel_rfl, by kernel_rfl, (by kernel_rfl : _ = Value.int .i64 (IntKind.wrap .i64 (Int.ofNat (x + 1)))).trans (by rw [hwx]), trivial⟩)
      · intro hd
        rw [hand] at hd
        refine ok_go 7 ?_
        exact sy_next 0 _ g (by kernel_rfl) (by kernel_rfl) (ih (x + 1) _ g ⟨hlt, rfl⟩ (show N - (x + 1) < N - x by omega) ⟨by kernel_rfl, by kernel_rfl, (by kernel_rfl : _ = Value.bool (f x == f v)).trans (by rw [al, hs, cq, hd]; rfl), by kernel_rfl, by kernel_rfl, (by kernel_rfl : _ = Value.int .i64 (IntKind.wrap .i64 (Int.ofNat (x + 1)))).trans (by rw [hwx]), trivial⟩)
    · intro hs
      refine ok_go 10 ?_
      exact sy_next 0 _ g (by kernel_rfl) (by kernel_rfl) (ih (x + 1) _ g ⟨hlt, rfl⟩ (show N - (x + 1) < N - x by omega) ⟨by kernel_rfl, by kernel_rfl, (by kernel_rfl : _ = Value.bool false).trans (by rw [al, hs]; rfl), by kernel_rfl, by kernel_rfl, (by kernel_rfl : _ = Value.int .i64 (IntKind.wrap .i64 (Int.ofNat (x + 1)))).trans (by rw [hwx]), trivial⟩)
  · intro hlt
    have hlt := no_nat hlt
    have hxN : x = N := by omega
    subst hxN
    refine ok_go 0 ?_
    exact sy_done 0 (v := .tuple #[.bool (f v), .bool (al (cq f m v) x)]) (h := g) (by kernel_rfl) ⟨rfl, X0⟩
theorem impl_of (f : Nat → Bool) (N : Nat) (lf k : Nat) (bd m v : Nat) (h : Hp) (co : ∀ h', h.Ext h' → ∃ y h'', Ev lf k 64 [ptr bd 0, .agg #[J m, J v]] h' = some (y, h'') ∧ y = .tuple #[.bool (f v), .bool (al (cq f m v) N)] ∧ h'.Ext h'') :
    ∃ y h', Ev lf (k + 1) 57 [ptr bd 0, .agg #[J m, J v]] h = some (y, h') ∧ y = .bool (al (cq f m v) N && f v) ∧ h.Ext h' := by
  refine fnS_ok (Q := fun y h' => y = .bool (al (cq f m v) N && f v) ∧ h.Ext h') ?_
  have X0 : h.Ext (h.new (.cells [J m, J v] 76 false)) := Hp.Ext.new _ _
  have gx := get_new h (.cells [J m, J v] 76 false)
  obtain ⟨_, h2, e, rfl, X2⟩ := co _ X0
  have l1 : loadT Tryz.prog (h.new (.cells [J m, J v] 76 false)) 76 (ptr h.next 0) = some (.agg #[J m, J v]) := by
    have h1 : isAggT Tryz.prog 76 = some true := by kernel_rfl
    have h2 : sizeT Tryz.prog 76 = some 2 := by kernel_rfl
    simp only [loadT, h1, h2, loadN, gx, List.drop_zero, takeN]
  refine ok_go 1 ?_
  refine sy_load 0 (r := loadT Tryz.prog (h.new (.cells [J m, J v] 76 false)) 76 (ptr h.next 0)) (h' := h.new (.cells [J m, J v] 76 false)) (by kernel_rfl) l1 ?_
  refine ok_go 0 ?_
  refine sy_call 0 (by kernel_rfl) e ?_
  refine ok_go 2 ?_
  refine sy_test 0 (al (cq f m v) N) (by kernel_rfl) ?_ ?_
  · intro hs
    refine ok_go 1 ?_
    exact sy_done 0 (v := .bool (f v)) (h := h2) (by kernel_rfl) ⟨by rw [hs]; rfl, X0.trans X2⟩
  · intro hs
    refine ok_go 1 ?_
    exact sy_done 0 (v := .bool false) (h := h2) (by kernel_rfl) ⟨by rw [hs]; rfl, X0.trans X2⟩
/-- Who is given the parts, one a round. W: the blocks that are its own. -/
structure Cons (lf k L N : Nat) (I0 : Nat → List Nat → Hp → Prop) (I1 : Nat → Nat → List Nat → Hp → Prop) : Prop where
  own0 : ∀ m W q, I0 m W q → ∀ j ∈ W, j < q.next
  own1 : ∀ m s W q, I1 m s W q → ∀ j ∈ W, j < q.next
  st0 : ∀ m W q q', I0 m W q → q.next ≤ q'.next → (∀ j ∈ W, q'.get j = q.get j) → I0 m W q'
  st1 : ∀ m s W q q', I1 m s W q → q.next ≤ q'.next → (∀ j ∈ W, q'.get j = q.get j) → I1 m s W q'
  up : ∀ m W q, I1 m m W q → I0 (m + 1) W q
  y0 : ∀ m W q, m < N → I0 m W q → ∃ q' W', evInv Tryz.prog orc lf (k + 2) (.yield L [.agg #[J m, J 0]]) q = some (.bool true, q') ∧ I1 m 0 W' q' ∧ Exc W q q' ∧ ∀ j ∈ W', j ∈ W ∨ q.next ≤ j
  y1 : ∀ m s t W q, m < N → s < t → t ≤ m → t &&& m = t → (∀ v, s < v → v < t → v &&& m ≠ v) → I1 m s W q → ∃ q' W', evInv Tryz.prog orc lf k (.yield L [.agg #[J m, J t]]) q = some (.bool true, q') ∧ I1 m t W' q' ∧ Exc W q q' ∧ ∀ j ∈ W', j ∈ W ∨ q.next ≤ j
theorem parts_run (N : Nat) (hN : N ≤ 64) (lf k L b0 c bd bb : Nat) (hlf : 300 ≤ lf) {I0 : Nat → List Nat → Hp → Prop} {I1 : Nat → Nat → List Nat → Hp → Prop} (C : Cons lf k L N I0 I1) (W0 : List Nat) (h : Hp) (h0 : I0 0 W0 h) (hbb : bb < h.next) (hbw : bb ∉ W0) (gb : ∃ o, h.get bb = some (.cells [ptr bd 0] 70 o)) (D : Dcd bd b0 N c h) :
    ∃ v h' W', Ev lf (k + 3) 86 [.func (.yield L) #[] #[], ptr bb 0] h = some (v, h') ∧ I0 N W' h' ∧ Exc W0 h h' ∧ ∀ j ∈ W', j ∈ W0 ∨ h.next ≤ j := by
  have main : ∃ v h', Ev lf (k + 3) 86 [.func (.yield L) #[] #[], ptr bb 0] h = some (v, h') ∧ ∃ W', I0 N W' h' ∧ Exc W0 h h' ∧ ∀ j ∈ W', j ∈ W0 ∨ h.next ≤ j := by
    refine fnS_ok (Q := fun v h' => ∃ W', I0 N W' h' ∧ Exc W0 h h' ∧ ∀ j ∈ W', j ∈ W0 ∨ h.next ≤ j) ?_
    obtain ⟨ob, gb⟩ := gb
    have X0 : h.Ext (h.new (.cells [.func (.yield L) #[] #[]] 97 false)) := Hp.Ext.new _ _
    have gy := get_new h (.cells [.func (.yield L) #[] #[]] 97 false)
    have nX : (h.new (.cells [.func (.yield L) #[] #[]] 97 false)).next = h.next + 1 := rfl
    have gbX := X0.at_ hbb gb
    have DX := D.ext X0
    refine ok_go 1 ?_
    refine sy_load 0 (r := loadT Tryz.prog (h.new (.cells [.func (.yield L) #[] #[]] 97 false)) 70 (ptr bb 0)) (h' := h.new (.cells [.func (.yield L) #[] #[]] 97 false)) (v := ptr bd 0) (by kernel_rfl) (load1 (by kernel_rfl) gbX rfl) ?_
    have OX : ∀ j, j < h.next → (h.new (.cells [.func (.yield L) #[] #[]] 97 false)).get j = h.get j := fun j hj => X0.get j hj
    generalize h.new (.cells [.func (.yield L) #[] #[]] 97 false) = X at X0 gy nX gbX DX OX ⊢
    refine ok_go 2 ?_
    refine sy_load 0 (r := loadT Tryz.prog X 22 (ptr bd 0)) (h' := X) (by kernel_rfl) DX.read ?_
    have hW0 := C.own0 _ _ _ h0
    refine ok_go 1 ?_
    refine sy_loop 0 lf X (α := Nat × List Nat × List Nat) (fun s => [(2, ptr h.next 0), (9, J N), (10, J s.1), (slotD, marksV s.2.2)])
      (fun s g => s.1 ≤ N ∧ I0 s.1 s.2.1 g ∧ Exc W0 h g ∧ (∀ j ∈ s.2.1, j ∈ W0 ∨ h.next < j) ∧ (h.next < g.next ∧ g.get h.next = some (.cells [.func (.yield L) #[] #[]] 97 false)) ∧ s.2.2.Nodup ∧ ∀ d ∈ s.2.2, h.next < d ∧ d < g.next ∧ d ∉ s.2.1 ∧ g.get d = some (.defd false)) (fun s _ => N - s.1) (0, W0, []) (by kernel_rfl) (by kernel_rfl)
      ⟨by kernel_rfl, by kernel_rfl, by kernel_rfl, by kernel_rfl, trivial⟩ (show N - 0 < lf by omega) ⟨Nat.zero_le _, C.st0 _ _ _ _ h0 (by omega) (fun j hj => OX j (hW0 j hj)), ⟨by omega, fun j hj _ => OX j hj⟩, fun j hj => .inl hj, ⟨by omega, gy⟩, List.nodup_nil, fun d hd => by cases hd⟩ ?_
    rintro m1 ⟨m, W, ds⟩ f1 g ⟨hm, hI, EX, hW, ⟨hby, gy'⟩, nd, hds⟩ ih
    dsimp only at hm hI hW nd hds
    refine ok_go 1 ?_
    refine sy_test 0 (decide (Int.ofNat m < Int.ofNat N)) (by kernel_rfl) ?_ ?_
    · intro hlt
      have hlt := ok_nat hlt
      have hWg := C.own0 _ _ _ hI
      let g1 : Hp := g.new (.cells [I 0] 3 false)
      let g2 : Hp := g1.put g.next (.cells [J m] 3 false)
      have k1 : g1.get g.next = some (.cells [I 0] 3 false) := get_new _ _
      have k2 : g2.get g.next = some (.cells [J m] 3 false) := get_put _ _ _
      have n2 : g2.next = g.next + 1 := rfl
      have o2 : ∀ j, j < g.next → g2.get j = g.get j := fun j hj => by
        simp only [g2, g1, gn, gp]
        repeat (first | rw [if_pos (by omega)] | rw [if_neg (by omega)])
      have hI2 : I0 m W g2 := C.st0 _ _ _ _ hI (by omega) (fun j hj => o2 j (hWg j hj))
      obtain ⟨q, W', ey, hI1, Eq, hW'⟩ := C.y0 m W g2 hlt hI2
      have nq := Eq.next
      have hWx : ∀ j ∈ W', j ≠ h.next ∧ j ≠ g.next ∧ (j ∈ W0 ∨ h.next < j) := fun j hj => by
        rcases hW' j hj with h1 | h1
        · have h3 := hWg j h1
          rcases hW j h1 with h2 | h2
          · have := hW0 j h2
            exact ⟨by omega, by omega, .inl h2⟩
          · exact ⟨by omega, by omega, .inr h2⟩
        · exact ⟨by omega, by omega, .inr (by omega)⟩
      have hbyW : h.next ∉ W := fun hc => by
        rcases hW _ hc with h2 | h2
        · have := hW0 _ h2; omega
        · omega
      have qy : q.get h.next = some (.cells [.func (.yield L) #[] #[]] 97 false) := by rw [Eq.get _ (by omega) hbyW, o2 _ hby]; exact gy'
      have qx : q.get g.next = some (.cells [J m] 3 false) := by rw [Eq.get _ (by omega) (fun hc => by have := hWg _ hc; omega)]; exact k2
      have qd : ∀ d ∈ ds, d ∉ W' ∧ q.get d = some (.defd false) := fun d hd => by
        obtain ⟨d1, d2, d3, d4⟩ := hds d hd
        refine ⟨fun hc => ?_, by rw [Eq.get _ (by omega) d3, o2 _ d2]; exact d4⟩
        rcases hW' d hc with h1 | h1
        · exact d3 h1
        · omega
      have EXq : Exc W0 h q := ⟨by have := EX.next; omega, fun j hj hjw => by
        rw [Eq.get j (by omega) (fun hc => by
          rcases hW j hc with h2 | h2
          · exact hjw h2
          · omega), o2 j (by have := EX.next; omega)]
        exact EX.get j hj hjw⟩
      refine ok_go 1 ?_
      refine sy_store 0 (r := storeT Tryz.prog g1 3 (ptr g.next 0) (J m)) (h' := g2) (by kernel_rfl) (store1 zI rfl k1 (show 0 < 1 by omega)) ?_
      have y2 : g2.get h.next = some (.cells [.func (.yield L) #[] #[]] 97 false) := by rw [o2 _ hby]; exact gy'
      refine ok_go 0 ?_
      refine sy_load 0 (r := loadT Tryz.prog g2 97 (ptr h.next 0)) (h' := g2) (v := .func (.yield L) #[] #[]) (by kernel_rfl) (load1 (by kernel_rfl) y2 rfl) ?_
      refine ok_go 0 ?_
      refine sy_load 0 (r := loadT Tryz.prog g2 3 (ptr g.next 0)) (h' := g2) (v := J m) (by kernel_rfl) (load1 agI k2 rfl) ?_
      refine ok_go 1 ?_
      refine sy_call 0 (by kernel_rfl) ey ?_
      refine ok_go 2 ?_
      refine sy_load 0 (r := loadT Tryz.prog q 3 (ptr g.next 0)) (h' := q) (v := J m) (by kernel_rfl) (load1 agI qx rfl) ?_
      let g5 : Hp := q.new (.cells [J m] 3 false)
      have n5 : g5.next = q.next + 1 := rfl
      have hm64 : m < 64 := by omega
      refine ok_go 1 ?_
      refine sy_range 0 (callF := evInv Tryz.prog orc lf (k + 2)) (P := Tryz.prog) (lf := lf) (m := 28) (rcOf Tryz.prog 86 0) g5 [(2, ptr h.next 0), (3, ptr g.next 0)] 84 [.func (.yield (g5.next + 1)) #[] #[], ptr q.next 0]
        (by kernel_rfl) (fun F => by kernel_rfl) ⟨by kernel_rfl, by kernel_rfl, trivial⟩ (by kernel_rfl) (by kernel_rfl) fun F f2 hr => ?_
      let CC := rcOf Tryz.prog 86 0
      let HH : Hp := CC.heap F g5
      have nH : HH.next = q.next + 3 := rfl
      have oH : ∀ j, j < q.next → HH.get j = q.get j := fun j hj => by
        simp only [HH, g5, RC.heap, gn, nn]
        repeat (first | rw [if_pos (by omega)] | rw [if_neg (by omega)])
      have HB : HH.get q.next = some (.cells [J m] 3 false) := by
        simp only [HH, g5, RC.heap, gn, nn, if_true]
        repeat (first | rw [if_pos (by omega)] | rw [if_neg (by omega)])
      have HD : HH.get (q.next + 1) = some (.defd false) := by
        simp only [HH, g5, RC.heap, gn, nn, if_true]
        repeat (first | rw [if_pos (by omega)] | rw [if_neg (by omega)])
      have HL : HH.get (q.next + 2) = some (CC.obj F (q.next + 1) .ready none) := by
        simp only [HH, g5, RC.heap, gn, nn, if_true]
      have hV0 := C.own1 _ _ _ _ hI1
      have EH : Exc W0 h HH := ⟨by have := EXq.next; omega, fun j hj hjw => by rw [oH j (by omega)]; exact EXq.get j hj hjw⟩
      let Inv : Nat → Hp → Prop := fun s r => ∃ V, I1 m s V r ∧ (∀ j ∈ V, j ∈ W0 ∨ h.next < j) ∧ (h.next ∉ V ∧ g.next ∉ V ∧ q.next ∉ V ∧ q.next + 1 ∉ V ∧ q.next + 2 ∉ V ∧ ∀ e ∈ ds, e ∉ V) ∧ q.next + 3 ≤ r.next ∧ Exc W0 h r ∧
        r.get h.next = some (.cells [.func (.yield L) #[] #[]] 97 false) ∧ r.get g.next = some (.cells [J m] 3 false) ∧ r.get q.next = some (.cells [J m] 3 false) ∧ r.get (q.next + 1) = some (.defd false) ∧ r.get (q.next + 2) = some (CC.obj F (q.next + 1) .ready none) ∧ ∀ e ∈ ds, r.get e = some (.defd false)
      have hdq : ∀ e ∈ ds, h.next < e ∧ e < g.next := fun e he => ⟨(hds e he).1, (hds e he).2.1⟩
      have hb : ∀ s r, Inv s r → loadT Tryz.prog r 3 (ptr q.next 0) = some (J m) := fun s r ⟨V, i1, i2, i3, i4, i5, i6, i7, i8, _⟩ => load1 agI i8 rfl
      have hy : ∀ s t r, s < t → t ≤ m → t &&& m = t → (∀ v, s < v → v < t → v &&& m ≠ v) → Inv s r → ∃ g', evInv Tryz.prog orc lf (k + 1) (.yield (q.next + 2) [J t]) r = some (.bool true, g') ∧ Inv t g' := fun s t r hst htm hts hbt ⟨V, i1, i2, ⟨j1, j2, j3, j4, j5, j6⟩, i4, i5, i6, i7, i8, i9, i10, i11⟩ => by
        have key : ∃ v g', evInv Tryz.prog orc lf (k + 1) (.yield (q.next + 2) [J t]) r = some (v, g') ∧ (v = .bool true ∧ Inv t g') := by
          refine yld_ok (c := CC) (Q := fun v g' => v = .bool true ∧ Inv t g') hr i10 (by kernel_rfl) ?_
          refine ok_go 0 ?_
          refine sy_busy 0 (by kernel_rfl) i10 ?_
          have R' : ∀ j, j ≠ q.next + 2 → (r.put (q.next + 2) (CC.obj F (q.next + 1) .busy none)).get j = r.get j := fun j hj => Hp.get_put_ne hj
          have Rl : (r.put (q.next + 2) (CC.obj F (q.next + 1) .busy none)).get (q.next + 2) = some (CC.obj F (q.next + 1) .busy none) := get_put _ _ _
          have nr' : (r.put (q.next + 2) (CC.obj F (q.next + 1) .busy none)).next = r.next := rfl
          generalize r.put (q.next + 2) (CC.obj F (q.next + 1) .busy none) = r' at R' Rl nr' ⊢
          have I1' : I1 m s V r' := C.st1 _ _ _ _ _ i1 (by omega) (fun j hj => R' j (fun e => j5 (e ▸ hj)))
          have hVr := C.own1 _ _ _ _ I1'
          obtain ⟨r2, V2, ey2, I2, E2, hV2⟩ := C.y1 m s t V r' hlt hst htm hts hbt I1'
          have nr2 := E2.next
          have kp : ∀ j, j < r.next → j ∉ V → j ≠ q.next + 2 → r2.get j = r.get j := fun j hj hv hl => by rw [E2.get j (by omega) hv]; exact R' j hl
          have nv : ∀ j, j ∉ V → j < r.next → j ∉ V2 := fun j hj hl hc => by
            rcases hV2 j hc with h1 | h1
            · exact hj h1
            · omega
          refine ok_go 0 ?_
          refine sy_load 0 (r := loadT Tryz.prog r' 97 (ptr h.next 0)) (h' := r') (v := .func (.yield L) #[] #[]) (by kernel_rfl) (load1 (by kernel_rfl) (by rw [R' _ (by omega)]; exact i6) rfl) ?_
          refine ok_go 0 ?_
          refine sy_load 0 (r := loadT Tryz.prog r' 3 (ptr g.next 0)) (h' := r') (v := J m) (by kernel_rfl) (load1 agI (by rw [R' _ (by omega)]; exact i7) rfl) ?_
          refine ok_go 1 ?_
          refine sy_call 0 (by kernel_rfl) ey2 ?_
          have L2 : r2.get (q.next + 2) = some (CC.obj F (q.next + 1) .busy none) := by rw [E2.get _ (by omega) j5]; exact Rl
          refine ok_go 2 ?_
          refine sy_round 0 (by kernel_rfl) L2 ?_
          have P2 : ∀ j, j ≠ q.next + 2 → (r2.put (q.next + 2) (CC.obj F (q.next + 1) .ready none)).get j = r2.get j := fun j hj => Hp.get_put_ne hj
          refine ok_go 0 ?_
          refine sy_done 0 (v := .bool true) (h := r2.put (q.next + 2) (CC.obj F (q.next + 1) .ready none)) (by kernel_rfl) ⟨rfl, V2, C.st1 _ _ _ _ _ I2 (Nat.le_refl _) (fun j hj => P2 j (fun e => nv _ j5 (by omega) (e ▸ hj))), fun j hj => ?_, ⟨nv _ j1 (by omega), nv _ j2 (by omega), nv _ j3 (by omega), nv _ j4 (by omega), nv _ j5 (by omega), fun e he => nv _ (j6 e he) (by have := hdq e he; omega)⟩, by show _ ≤ r2.next; omega, ⟨by show _ ≤ r2.next; have := i5.next; omega, fun j hj hjw => ?_⟩, ?_, ?_, ?_, ?_, get_put _ _ _, fun e he => ?_⟩
          · rcases hV2 j hj with h1 | h1
            · exact i2 j h1
            · exact .inr (by omega)
          · rw [P2 j (by omega), kp j (by omega) (fun hc => by
              rcases i2 j hc with h1 | h1
              · exact hjw h1
              · omega) (by omega)]
            exact i5.get j hj hjw
          · rw [P2 _ (by omega), kp _ (by omega) j1 (by omega)]; exact i6
          · rw [P2 _ (by omega), kp _ (by omega) j2 (by omega)]; exact i7
          · rw [P2 _ (by omega), kp _ (by omega) j3 (by omega)]; exact i8
          · rw [P2 _ (by omega), kp _ (by omega) j4 (by omega)]; exact i9
          · have := hdq e he
            rw [P2 _ (by omega), kp _ (by omega) (j6 e he) (by omega)]; exact i11 e he
        obtain ⟨v, g', e, rfl, hI⟩ := key
        exact ⟨g', e, hI⟩
      obtain ⟨v, h3, ev, hI3⟩ := within_run lf (k + 1) q.next (q.next + 2) m hm64 hlf Inv (fun _ => False) hb (fun s t q h1 h2 h3 h4 hq => .inl (hy s t q h1 h2 h3 h4 hq)) (h := HH)
        ⟨W', C.st1 _ _ _ _ _ hI1 (by omega) (fun j hj => oH j (hV0 j hj)), fun j hj => (hWx j hj).2.2, ⟨fun hc => (hWx _ hc).1 rfl, fun hc => (hWx _ hc).2.1 rfl, fun hc => by have := hV0 _ hc; omega, fun hc => by have := hV0 _ hc; omega, fun hc => by have := hV0 _ hc; omega, fun e he => (qd e he).1⟩, by omega, EH, by rw [oH _ (by omega)]; exact qy, by rw [oH _ (by omega)]; exact qx, HB, HD, HL, fun e he => by rw [oH _ (by have := hdq e he; omega)]; exact (qd e he).2⟩
      obtain ⟨V, i1, i2, ⟨j1, j2, j3, j4, j5, j6⟩, i4, i5, i6, i7, i8, i9, i10, i11⟩ := hI3.resolve_right id
      refine ⟨v, h3, .ready, none, q.next + 1, .normal, ev, i10, by decide, rfl, ?_⟩
      let h4 : Hp := h3.put (q.next + 2) (CC.obj F (q.next + 1) .exhausted none)
      have P4 : ∀ j, j ≠ q.next + 2 → h4.get j = h3.get j := fun j hj => Hp.get_put_ne hj
      refine ok_go 1 ?_
      exact sy_next 0 _ h4 (by kernel_rfl) (by kernel_rfl) (ih (m + 1, V, (q.next + 1) :: ds) _ h4 ⟨hlt, C.st0 _ _ _ _ (C.up _ _ _ i1) (Nat.le_refl _) (fun j hj => P4 j (fun e => j5 (e ▸ hj))), ⟨i5.next, fun j hj hjw => by rw [P4 j (by omega)]; exact i5.get j hj hjw⟩, i2, ⟨by show _ < h3.next; omega, by rw [P4 _ (by omega)]; exact i6⟩, List.nodup_cons.2 ⟨fun hd => by have := hdq _ hd; omega, nd⟩, fun d hd => by
          rcases List.mem_cons.1 hd with rfl | hd
          · exact ⟨by omega, by show _ < h3.next; omega, j4, by rw [P4 _ (by omega)]; exact i9⟩
          · have := hdq d hd
            exact ⟨by omega, by show _ < h3.next; omega, j6 d hd, by rw [P4 _ (by omega)]; exact i11 d hd⟩⟩ (show N - (m + 1) < N - m by omega)
        ⟨by kernel_rfl, by kernel_rfl, (by kernel_rfl : _ = Value.int .i64 (IntKind.wrap .i64 (Int.ofNat (m + 1)))).trans (by rw [wrap_nat (by omega)]), by kernel_rfl, trivial⟩)
    · intro hlt
      have hlt := no_nat hlt
      have hmN : m = N := by omega
      subst hmN
      refine ok_go 0 ?_
      refine sy_marks 0 (h := g) ds (by kernel_rfl) nd (fun d hd => (hds d hd).2.2.2) fun h' n'' o'' => ?_
      refine ok_go 0 ?_
      refine sy_done 0 (v := undef) (h := h') (by kernel_rfl) ⟨W, C.st0 _ _ _ _ hI (by omega) (fun j hj => o'' j (fun hd => (hds j hd).2.2.1 hj)), ⟨by have := EX.next; omega, fun j hj hjw => ?_⟩, fun j hj => (hW j hj).imp (fun h => h) (fun h => by omega)⟩
      rw [o'' j (fun hd => by have := (hds j hd).1; omega)]
      exact EX.get j hj hjw
  obtain ⟨v, h', e, W', r⟩ := main
  exact ⟨v, h', W', e, r⟩
/-- A type of slices whose elements have two cells. -/
structure S2T (P : Program) (t e : TypeId) : Prop where
  u : P.underlying t = some (.slice e)
  s : sizeT P e = some 2
  i : ∃ inf, P.info? e = some inf ∧ Nat.ble inf.bytes 4096 = true
  z : ∃ z, zeroOf P e = some z ∧ Nat.beq z.cells.size 2 = true
def flat2 : List (Nat × Nat) → List Value
  | [] => []
  | p :: r => J p.1 :: J p.2 :: flat2 r
theorem flat2_len : ∀ l, (flat2 l).length = l.length * 2
  | [] => rfl
  | p :: r => by simp only [flat2, List.length_cons, flat2_len r]; omega
theorem flat2_app : ∀ (l : List (Nat × Nat)) (p : Nat × Nat), flat2 (l ++ [p]) = flat2 l ++ [J p.1, J p.2]
  | [], p => rfl
  | q :: r, p => by show J q.1 :: J q.2 :: flat2 (r ++ [p]) = _; rw [flat2_app r p]; rfl
theorem flat2_at : ∀ (l : List (Nat × Nat)) (k : Nat) (p : Nat × Nat), l[k]? = some p → (flat2 l).drop (k * 2) = J p.1 :: J p.2 :: (flat2 l).drop ((k + 1) * 2)
  | [], k, p, h => by cases h
  | q :: r, 0, p, h => by cases h; rfl
  | q :: r, k + 1, p, h => by
    rw [show (k + 1) * 2 = k * 2 + 2 by omega, show (k + 1 + 1) * 2 = (k + 1) * 2 + 2 by omega]
    exact flat2_at r k p h
/-- A slice of pairs that appends alone have made (or nil), and what it holds. -/
def OpenP (h : Hp) (e : TypeId) (l : Value) (ps : List (Nat × Nat)) : Prop :=
  (l = .slice none 0 0 ∧ ps = []) ∨ ∃ i, l = .slice (some ⟨i, 0, none⟩) ps.length (2 * ps.length + 1) ∧ ps ≠ [] ∧ i < h.next ∧ h.get i = some (.cells (flat2 ps) e true)
theorem OpenP.shape {h : Hp} {e : TypeId} {l : Value} {ps : List (Nat × Nat)} (hl : OpenP h e l ps) : ∃ a c, l = .slice a ps.length c := by
  rcases hl with ⟨rfl, rfl⟩ | ⟨i, rfl, _⟩ <;> exact ⟨_, _, rfl⟩
theorem append2 {P : Program} {h : Hp} {t e : TypeId} {l : Value} {ps : List (Nat × Nat)} {a b : Nat} (hT : S2T P t e) (hl : OpenP h e l ps) (hn : ps.length < 8388608) :
    ∃ l' h', appendOp P (h.new (.cells [J a, J b] e false)) t l (.slice (some ⟨h.next, 0, none⟩) 1 2) = some (l', h') ∧ OpenP h' e l' (ps ++ [(a, b)]) ∧ h.next ≤ h'.next ∧
      (∀ j, j < h.next → (∀ n c, l ≠ .slice (some ⟨j, 0, none⟩) n c) → h'.get j = h.get j) ∧ (∀ j, j < h.next → ∀ n c, l' ≠ .slice (some ⟨j, 0, none⟩) n c) := by
  obtain ⟨inf, hi1, hi2⟩ := hT.i
  obtain ⟨z, hz1, hz2⟩ := hT.z
  have hel : elems (h.new (.cells [J a, J b] e false)) 2 1 (.slice (some ⟨h.next, 0, none⟩) 1 2) = some [J a, J b] := by
    simp only [elems, loadN, get_new, List.drop_zero, takeN]
  have hall : [J a, J b].all scalar = true := rfl
  have hnx : (h.new (.cells [J a, J b] e false)).next = h.next + 1 := rfl
  rcases hl with ⟨rfl, rfl⟩ | ⟨i, rfl, hne, hlt, hg⟩
  · refine ⟨_, _, by simp only [appendOp, hT.u, hT.s, hi1, hz1, lenV, hel, hz2, hi2, hall]; rfl, .inr ⟨h.next + 1, rfl, by simp, ?_, ?_⟩, ?_, ?_, ?_⟩
    · show h.next + 1 < h.next + 1 + 1
      omega
    · exact get_new (h.new (.cells [J a, J b] e false)) _
    · show h.next ≤ h.next + 1 + 1
      omega
    · intro j hj _
      rw [Hp.get_new_ne (by rw [hnx]; omega), Hp.get_new_ne (by omega)]
    · intro j hj n c hc
      injection hc with h1
      injection h1 with h1
      injection h1 with h1
      have h1 : h.next + 1 = j := h1
      omega
  · have h1 : Nat.ble (ps.length + 1) most = true := Nat.ble_eq_true_of_le (by unfold most; omega)
    have h2 : Nat.ble (ps.length + 1) ((2 * ps.length + 1) / 2) = false := by
      cases hb : Nat.ble (ps.length + 1) ((2 * ps.length + 1) / 2) with
      | false => rfl
      | true => have := Nat.le_of_ble_eq_true hb; omega
    have hgi : (h.new (.cells [J a, J b] e false)).get i = some (.cells (flat2 ps) e true) := by rw [Hp.get_new_ne (by omega)]; exact hg
    have h3 : loadN (h.new (.cells [J a, J b] e false)) i 0 (ps.length * 2) = some (flat2 ps) := by
      simp only [loadN, hgi, List.drop_zero]
      rw [← flat2_len]
      exact takeN_all _
    have h4 : Nat.beq ((2 * ps.length + 1) % 2) 0 = false := by
      rw [show (2 * ps.length + 1) % 2 = 1 by omega]
      rfl
    have h5 : (Nat.beq e e && Nat.beq (flat2 ps).length ((2 * ps.length + 1) / 2 * 2)) = true := by
      rw [flat2_len, show (2 * ps.length + 1) / 2 = ps.length by omega]
      simp
    refine ⟨.slice (some ⟨h.next + 1, 0, none⟩) (ps.length + 1) (2 * (ps.length + 1) + 1), ((h.new (.cells [J a, J b] e false)).kill i).new (.cells (flat2 ps ++ [J a, J b]) e true), ?_, .inr ⟨h.next + 1, by simp, by simp, ?_, ?_⟩, ?_, ?_, ?_⟩
    · simp only [appendOp, hT.u, hT.s, hi1, hz1, lenV, hel, hz2, hi2, hall, h1, h2, h3, h4, hgi, h5]
      rfl
    · show h.next + 1 < h.next + 1 + 1
      omega
    · rw [flat2_app]
      exact get_new ((h.new (.cells [J a, J b] e false)).kill i) _
    · show h.next ≤ h.next + 1 + 1
      omega
    · intro j hj hne
      have hji : j ≠ i := fun hc => hne _ _ (by rw [hc])
      rw [Hp.get_new_ne (by show j ≠ h.next + 1; omega), Hp.get_kill_ne hji, Hp.get_new_ne (by omega)]
    · intro j hj n c hc
      injection hc with h1
      injection h1 with h1
      injection h1 with h1
      omega
theorem s49 : S2T Tryz.prog 79 76 := ⟨by kernel_rfl, by kernel_rfl, ⟨_, rfl, by kernel_rfl⟩, ⟨_, rfl, by kernel_rfl⟩⟩
theorem s27 : S2T Tryz.prog 42 95 := ⟨by kernel_rfl, by kernel_rfl, ⟨_, rfl, by kernel_rfl⟩, ⟨_, rfl, by kernel_rfl⟩⟩
/-- Reading one element. -/
theorem OpenP.read {t e : TypeId} {h : Hp} {l : Value} {ps : List (Nat × Nat)} {k : Nat} {p : Nat × Nat} (hT : S2T Tryz.prog t e) (ha : isAggT Tryz.prog e = some true) (hl : OpenP h e l ps) (hk : ps[k]? = some p) :
    ∃ q, indexAddrOp Tryz.prog t l (J k) = some q ∧ loadT Tryz.prog h e q = some (.agg #[J p.1, J p.2]) := by
  have hlt : k < ps.length := (List.getElem?_eq_some_iff.1 hk).1
  rcases hl with ⟨rfl, rfl⟩ | ⟨i, rfl, _, _, hg⟩
  · cases hk
  · refine ⟨ptr i (0 + k * 2), idxSl hT.u hT.s hlt, ?_⟩
    simp only [ptr, loadT, ha, hT.s, loadN, hg, Nat.zero_add, flat2_at ps k p hk, takeN]

/-! Which parts are taken, and the list of them. -/
def rowP (pr : Nat → Nat → Bool) (m : Nat) : Nat → List (Nat × Nat)
  | 0 => []
  | k + 1 => if (sub k m && pr m k) = true then rowP pr m k ++ [(m, k)] else rowP pr m k
def accP (pr : Nat → Nat → Bool) : Nat → List (Nat × Nat)
  | 0 => []
  | m + 1 => accP pr m ++ rowP pr m (m + 1)
theorem rowP_skip (pr : Nat → Nat → Bool) (m s : Nat) : ∀ t, s ≤ t → (∀ v, s ≤ v → v < t → sub v m = false) → rowP pr m t = rowP pr m s
  | 0, h, _ => by rw [show s = 0 by omega]
  | t + 1, h, hv => by
    by_cases e : s = t + 1
    · rw [e]
    · rw [rowP, hv t (by omega) (Nat.lt_succ_self _)]
      exact rowP_skip pr m s t (by omega) fun v h1 h2 => hv v h1 (by omega)
theorem rowP_len (pr : Nat → Nat → Bool) (m : Nat) : ∀ k, (rowP pr m k).length ≤ k
  | 0 => Nat.le_refl _
  | k + 1 => by
    have := rowP_len pr m k
    rw [rowP]
    split
    · rw [List.length_append, List.length_singleton]; omega
    · omega
theorem accP_len (pr : Nat → Nat → Bool) : ∀ m, m ≤ 64 → (accP pr m).length ≤ m * 65
  | 0, _ => Nat.le_refl _
  | m + 1, h => by
    have h1 := accP_len pr m (by omega)
    have h2 := rowP_len pr m (m + 1)
    rw [accP, List.length_append]
    omega
noncomputable def notG (a b : Nat) : Bool := decide (notI (Int.ofNat a) (Int.ofNat b) = Int.ofNat (a ^^^ (a &&& b)))
theorem notG_all : allB 64 (fun a => allB 64 fun b => notG a b) = true := by kernel_rfl
theorem not_gen {a b : Nat} (ha : a < 64) (hb : b < 64) : notI (Int.ofNat a) (Int.ofNat b) = Int.ofNat (a ^^^ (a &&& b)) := of_decide_eq_true (allB_ok (allB_ok notG_all a ha) b hb)
noncomputable def lesB (a b : Nat) : Bool := Nat.ble (a ^^^ (a &&& b)) a
theorem les_all : allB 64 (fun a => allB 64 fun b => lesB a b) = true := by kernel_rfl
theorem les {a b : Nat} (ha : a < 64) (hb : b < 64) : a ^^^ (a &&& b) ≤ a := Nat.le_of_ble_eq_true (allB_ok (allB_ok les_all a ha) b hb)
theorem sub_less {v m b : Nat} (h : v &&& m = v) : (v ^^^ (v &&& b)) &&& (m ^^^ (m &&& b)) = v ^^^ (v &&& b) := by
  refine Nat.eq_of_testBit_eq fun i => ?_
  have hi := congrArg (fun z => z.testBit i) h
  simp only [Nat.testBit_and, Nat.testBit_xor] at hi ⊢
  cases h1 : v.testBit i <;> cases h2 : m.testBit i <;> cases h3 : b.testBit i <;> simp_all
/-- Whether a part is an implicant. -/
def IM (f : Nat → Bool) (N m v : Nat) : Bool := al (cq f m v) N && f v
/-- Whether it is none without any of the first bits. -/
def pb (f : Nat → Bool) (N m v : Nat) : Nat → Bool
  | 0 => true
  | i + 1 => pb f N m v i && ((m &&& 2 ^ i == 0) || !IM f N (m ^^^ (m &&& 2 ^ i)) (v ^^^ (v &&& 2 ^ i)))
/-- Whether a part is a prime implicant. -/
def prm (f : Nat → Bool) (N n m v : Nat) : Bool := IM f N m v && pb f N m v n
/-- The block of a slice. -/
def lw : Value → List Nat
  | .slice (some ⟨i, _, _⟩) _ _ => [i]
  | _ => []
theorem OpenP.lw {h : Hp} {e : TypeId} {l : Value} {ps : List (Nat × Nat)} (H : OpenP h e l ps) : (l = .slice none 0 0 ∧ ps = [] ∧ lw l = []) ∨ ∃ i n c, l = .slice (some ⟨i, 0, none⟩) n c ∧ lw l = [i] ∧ i < h.next := by
  rcases H with ⟨rfl, rfl⟩ | ⟨i, rfl, _, hi, _⟩
  · exact .inl ⟨rfl, rfl, rfl⟩
  · exact .inr ⟨i, _, _, rfl, rfl, hi⟩
theorem OpenP.of {h g : Hp} {e : TypeId} {l : Value} {ps : List (Nat × Nat)} (H : OpenP h e l ps) (hn : h.next ≤ g.next) (hg : ∀ i n c, l = .slice (some ⟨i, 0, none⟩) n c → g.get i = h.get i) : OpenP g e l ps := by
  rcases H with H | ⟨i, rfl, h1, h2, h3⟩
  · exact .inl H
  · exact .inr ⟨i, rfl, h1, by omega, by rw [hg i _ _ rfl]; exact h3⟩
theorem store2 {P : Program} {h : Hp} {t : TypeId} {i a b : Nat} {cs : List Value} {e : TypeId} {o : Bool} (hs : sizeT P t = some 2) (hg : h.get i = some (.cells cs e o)) (hc : cs.length = 2) : storeT P h t (ptr i 0) (.agg #[J a, J b]) = some (h.put i (.cells [J a, J b] e o)) := by
  have hb : Nat.ble (0 + [J a, J b].length) cs.length = true := by rw [hc]; rfl
  have hv : (Value.agg #[J a, J b]).cells.toList = [J a, J b] := rfl
  have hz : Nat.beq (Value.agg #[J a, J b]).cells.size 2 = true := rfl
  simp only [storeT, hs, hz, hv, storeN, hg, hb]
  unfold splice
  rw [List.take_zero, List.drop_eq_nil_of_le (by simp [hc])]
  rfl
theorem load2 {P : Program} {h : Hp} {t : TypeId} {i : Nat} {a b : Value} {e : TypeId} {o : Bool} (ha : isAggT P t = some true) (hs : sizeT P t = some 2) (hg : h.get i = some (.cells [a, b] e o)) : loadT P h t (ptr i 0) = some (.agg #[a, b]) := by
  simp only [ptr, loadT, ha, hs, loadN, hg, List.drop_zero, takeN]
/-- What the loop over the parts holds: a list of parts in oB. -/
structure St (f : Nat → Bool) (N c b0 bd b1 oB L d : Nat) (CC : RC) (F : Fm) (l : Value) (ps : List (Nat × Nat)) (q : Hp) : Prop where
  loop : L < q.next ∧ q.get L = some (CC.obj F d .ready none)
  out : oB < q.next ∧ ∃ o, q.get oB = some (.cells [l] 79 o)
  list : OpenP q 76 l ps
  far : ∀ j ∈ [b0, bd, b1, oB, L], ∀ n c, l ≠ .slice (some ⟨j, 0, none⟩) n c
  box : b1 < q.next ∧ ∃ o, q.get b1 = some (.cells [ptr bd 0] 70 o)
  dcd : Dcd bd b0 N c q
  arr : ArB b0 N f q
theorem agP : isAggT Tryz.prog 76 = some true := by kernel_rfl
theorem szP : sizeT Tryz.prog 76 = some 2 := by kernel_rfl
/-- One part more. -/
theorem round22 (f : Nat → Bool) (n : Nat) (hn : n ≤ 6) (lf m b0 c bd b1 oB L d : Nat) (hlf : 300 ≤ lf) (hdist : oB ≠ L ∧ b1 ≠ oB ∧ b1 ≠ L ∧ bd ≠ oB ∧ bd ≠ L ∧ b0 ≠ oB ∧ b0 ≠ L)
    (io : ∀ F mm v h, (F = m + 2 ∨ F = m) → mm < 64 → v < 2 ^ n → ArB b0 (2 ^ n) f h → Dcd bd b0 (2 ^ n) c h → ∃ y h', Ev lf F 57 [ptr bd 0, .agg #[J mm, J v]] h = some (y, h') ∧ y = .bool (IM f (2 ^ n) mm v) ∧ h.Ext h')
    (F : Fm) (f1 : Fr) (hr : Rel ⟨none, true⟩ 48 F (upds f1 [(1, ptr b1 0), (3, ptr oB 0)])) (q : Hp) (l : Value) (ps : List (Nat × Nat)) (mm v : Nat) (hm : mm < 2 ^ n) (hv : v < 2 ^ n) (hps : ps.length < 8388608)
    (S : St f (2 ^ n) c b0 bd b1 oB L d (rcOf Tryz.prog 45 0) F l ps q) :
    ∃ q' l', evInv Tryz.prog orc lf (m + 3) (.yield L [.agg #[J mm, J v]]) q = some (.bool true, q') ∧ St f (2 ^ n) c b0 bd b1 oB L d (rcOf Tryz.prog 45 0) F l' (if prm f (2 ^ n) n mm v = true then ps ++ [(mm, v)] else ps) q' ∧
      Exc ([oB, L] ++ lw l) q q' ∧ ∀ j ∈ lw l', j ∈ lw l ∨ q.next ≤ j := by
  have hp64 : 2 ^ n ≤ 64 := Nat.pow_le_pow_right (n := 2) (by decide) hn
  obtain ⟨⟨hLq, gL⟩, ⟨hoq, oo, gO⟩, lst, far, ⟨hbq, ob, gB⟩, D, A⟩ := S
  obtain ⟨d1, d2, d3, d4, d5, d6, d7⟩ := hdist
  let Qp : Value → Hp → Prop := fun w q' => w = .bool true ∧ ∃ l', St f (2 ^ n) c b0 bd b1 oB L d (rcOf Tryz.prog 45 0) F l' (if prm f (2 ^ n) n mm v = true then ps ++ [(mm, v)] else ps) q' ∧ Exc ([oB, L] ++ lw l) q q' ∧ ∀ j ∈ lw l', j ∈ lw l ∨ q.next ≤ j
  have key : ∃ w q', evInv Tryz.prog orc lf (m + 2 + 1) (.yield L [.agg #[J mm, J v]]) q = some (w, q') ∧ Qp w q' := by
    refine yld_ok (c := (rcOf Tryz.prog 45 0)) (Q := Qp) hr gL (by kernel_rfl) ?_
    let q1 : Hp := q.new (.cells [J 0, J 0] 76 false)
    let q2 : Hp := q1.put q.next (.cells [J mm, J v] 76 false)
    let q3 : Hp := q2.put L ((rcOf Tryz.prog 45 0).obj F d .busy none)
    have k1 : q1.get q.next = some (.cells [J 0, J 0] 76 false) := get_new _ _
    have kL : q2.get L = some ((rcOf Tryz.prog 45 0).obj F d .ready none) := by
      simp only [q2, q1, gn, gp]
      repeat (first | rw [if_pos (by omega)] | rw [if_neg (by omega)])
      exact gL
    have n3 : q3.next = q.next + 1 := rfl
    have o3 : ∀ j, j < q.next → j ≠ L → q3.get j = q.get j := fun j hj hl => by
      simp only [q3, q2, q1, gn, gp]
      repeat (first | rw [if_pos (by omega)] | rw [if_neg (by omega)])
    have x3 : q3.get q.next = some (.cells [J mm, J v] 76 false) := by
      simp only [q3, q2, q1, gn, gp, if_true]
      repeat (first | rw [if_pos (by omega)] | rw [if_neg (by omega)])
    have L3 : q3.get L = some ((rcOf Tryz.prog 45 0).obj F d .busy none) := get_put _ _ _
    refine ok_go 1 ?_
    refine sy_store 0 (r := storeT Tryz.prog q1 76 (ptr q.next 0) (.agg #[J mm, J v])) (h' := q2) (by kernel_rfl) (store2 szP k1 rfl) ?_
    refine ok_go 0 ?_
    refine sy_busy 0 (by kernel_rfl) kL ?_
    have B3 : q3.get b1 = some (.cells [ptr bd 0] 70 ob) := by rw [o3 _ hbq d3]; exact gB
    have D3 : Dcd bd b0 (2 ^ n) c q3 := by
      obtain ⟨h1, z, o, e⟩ := D
      exact ⟨by omega, z, o, by rw [o3 _ h1 d5]; exact e⟩
    have A3 : ArB b0 (2 ^ n) f q3 := by
      obtain ⟨o, e⟩ := A.get
      have := A.lt
      exact ⟨by omega, o, by rw [o3 _ this d7]; exact e⟩
    obtain ⟨_, q4, e4, rfl, X4⟩ := io (m + 2) mm v q3 (.inl rfl) (by omega) hv A3 D3
    have n4 := X4.next
    -- what is left as it was, but L
    have o4 : ∀ j, j < q.next → j ≠ L → q4.get j = q.get j := fun j hj hl => by rw [X4.get j (by omega)]; exact o3 j hj hl
    have L4 : q4.get L = some ((rcOf Tryz.prog 45 0).obj F d .busy none) := by rw [X4.get L (by omega)]; exact L3
    have x4 : q4.get q.next = some (.cells [J mm, J v] 76 false) := by rw [X4.get _ (by omega)]; exact x3
    have stay : prm f (2 ^ n) n mm v = false → ∀ q5 : Hp, q4.Ext q5 → Qp (.bool true) (q5.put L ((rcOf Tryz.prog 45 0).obj F d .ready none)) := fun hp q5 X5 => by
      have n5 := X5.next
      have o5 : ∀ j, j < q.next → j ≠ L → (q5.put L ((rcOf Tryz.prog 45 0).obj F d .ready none)).get j = q.get j := fun j hj hl => by
        rw [Hp.get_put_ne hl, X5.get j (by omega)]; exact o4 j hj hl
      refine ⟨rfl, l, ?_, ⟨by show _ ≤ q5.next; omega, fun j hj hm => o5 j hj (fun e => hm (by simp [e]))⟩, fun j hj => .inl hj⟩
      rw [if_neg (by rw [hp]; decide)]
      refine ⟨⟨by show _ < q5.next; omega, get_put _ _ _⟩, ⟨by show _ < q5.next; omega, oo, by rw [o5 _ hoq d1]; exact gO⟩, lst.of (by show _ ≤ q5.next; omega) (fun i n c e => ?_), far, ⟨by show _ < q5.next; omega, ob, by rw [o5 _ hbq d3]; exact gB⟩, ?_, ?_⟩
      · rcases lst.lw with ⟨h1, _, _⟩ | ⟨i', n', c', h1, _, hi⟩
        · rw [h1] at e; cases e
        · rw [h1] at e
          injection e with e1
          injection e1 with e1
          injection e1 with e1
          subst e1
          exact o5 _ hi (fun hl => far L (by simp) _ _ (by rw [h1, hl]))
      · obtain ⟨h1, z, o, e⟩ := D
        exact ⟨by show _ < q5.next; omega, z, o, by rw [o5 _ h1 d5]; exact e⟩
      · obtain ⟨o, e⟩ := A.get
        have := A.lt
        exact ⟨by show _ < q5.next; omega, o, by rw [o5 _ this d7]; exact e⟩
    refine ok_go 0 ?_
    refine sy_load 0 (r := loadT Tryz.prog q3 70 (ptr b1 0)) (h' := q3) (v := ptr bd 0) (by kernel_rfl) (load1 (by kernel_rfl) B3 rfl) ?_
    refine ok_go 0 ?_
    refine sy_load 0 (r := loadT Tryz.prog q3 76 (ptr q.next 0)) (h' := q3) (by kernel_rfl) (load2 agP szP x3) ?_
    refine ok_go 0 ?_
    refine sy_call 0 (by kernel_rfl) e4 ?_
    refine ok_go 1 ?_
    refine sy_test 0 (!IM f (2 ^ n) mm v) (by kernel_rfl) ?_ ?_
    · intro hI
      have hI : IM f (2 ^ n) mm v = false := by simpa using hI
      refine ok_go 0 ?_
      refine sy_round 0 (by kernel_rfl) L4 ?_
      refine ok_go 0 ?_
      exact sy_done 0 (v := .bool true) (h := q4.put L ((rcOf Tryz.prog 45 0).obj F d .ready none)) (by kernel_rfl) (stay (by unfold prm; rw [hI]; rfl) q4 (Hp.Ext.refl _))
    · intro hI
      have hI : IM f (2 ^ n) mm v = true := by simpa using hI
      let q5 : Hp := q4.new (.cells [.bool false] 4 false)
      let q6 : Hp := q5.put q4.next (.cells [.bool true] 4 false)
      have k5 : q5.get q4.next = some (.cells [.bool false] 4 false) := get_new _ _
      have x6 : q6.get q4.next = some (.cells [.bool true] 4 false) := get_put _ _ _
      have n6 : q6.next = q4.next + 1 := rfl
      have o6 : ∀ j, j < q4.next → q6.get j = q4.get j := fun j hj => by
        simp only [q6, q5, gn, gp]
        repeat (first | rw [if_pos (by omega)] | rw [if_neg (by omega)])
      have X6 : q4.Ext q6 := ⟨by omega, o6⟩
      have B6 : q6.get b1 = some (.cells [ptr bd 0] 70 ob) := by rw [o6 _ (by omega), X4.get _ (by omega)]; exact B3
      have D6 : Dcd bd b0 (2 ^ n) c q6 := D3.ext (X4.trans X6)
      refine ok_go 1 ?_
      refine sy_store 0 (r := storeT Tryz.prog q5 4 (ptr q4.next 0) (.bool true)) (h' := q6) (by kernel_rfl) (store1 zB rfl k5 (show 0 < 1 by omega)) ?_
      refine ok_go 0 ?_
      refine sy_load 0 (r := loadT Tryz.prog q6 70 (ptr b1 0)) (h' := q6) (v := ptr bd 0) (by kernel_rfl) (load1 (by kernel_rfl) B6 rfl) ?_
      refine ok_go 2 ?_
      refine sy_load 0 (r := loadT Tryz.prog q6 22 (ptr bd 0)) (h' := q6) (by kernel_rfl) D6.read ?_
      let SL : Value := .slice (some ⟨b0, 0, none⟩) (2 ^ n) c
      let q7 : Hp := q6.new (.cells [SL] 22 false)
      have n7 : q7.next = q4.next + 2 := rfl
      have o7 : ∀ j, j < q4.next + 1 → q7.get j = q6.get j := fun j hj => Hp.get_new_ne (by omega)
      have X7 : q4.Ext q7 := X6.trans ⟨by omega, fun j hj => o7 j (by omega)⟩
      have L7 : q7.get L = some ((rcOf Tryz.prog 45 0).obj F d .busy none) := by rw [X7.get L (by omega)]; exact L4
      refine ok_go 1 ?_
      refine sy_range_in 0 (callF := evInv Tryz.prog orc lf (m + 2)) (P := Tryz.prog) (lf := lf) (m := 48) (rcOf Tryz.prog 45 1) q7 [(1, ptr b1 0), (3, ptr oB 0), (4, ptr q.next 0), (5, ptr q4.next 0)] 73 [.func (.yield q7.next) #[] #[], ptr q6.next 0]
        (by kernel_rfl) (fun F => by kernel_rfl) L7 ⟨by kernel_rfl, by kernel_rfl, by kernel_rfl, by kernel_rfl, trivial⟩ (by kernel_rfl) (by kernel_rfl) fun F2 f2 hr2 => ?_
      let HH : Hp := q7.new ((rcOf Tryz.prog 45 1).obj F2 d .ready none)
      have nH : HH.next = q4.next + 3 := rfl
      have oH : ∀ j, j < q4.next + 2 → HH.get j = q7.get j := fun j hj => Hp.get_new_ne (by omega)
      have HL : HH.get (q4.next + 2) = some ((rcOf Tryz.prog 45 1).obj F2 d .ready none) := get_new q7 _
      have HB : HH.get (q4.next + 1) = some (.cells [SL] 22 false) := by rw [oH _ (by omega)]; exact get_new q6 _
      have H5 : HH.get q4.next = some (.cells [.bool true] 4 false) := by rw [oH _ (by omega), o7 _ (by omega)]; exact x6
      have XH : q4.Ext HH := X7.trans ⟨by omega, fun j hj => oH j (by omega)⟩
      have H4 : HH.get q.next = some (.cells [J mm, J v] 76 false) := by rw [XH.get _ (by omega)]; exact x4
      let Inv : Nat → Hp → Prop := fun i r => Exc [q4.next, q4.next + 2] HH r ∧ r.get q4.next = some (.cells [.bool (pb f (2 ^ n) mm v i)] 4 false) ∧ r.get (q4.next + 2) = some ((rcOf Tryz.prog 45 1).obj F2 d .ready none)
      have hb : ∀ i r, Inv i r → loadT Tryz.prog r 22 (ptr (q4.next + 1) 0) = some (.slice (some ⟨b0, 0, none⟩) (2 ^ n) c) := fun i r hr => load1 (by kernel_rfl) (by rw [hr.1.get _ (by omega) (by simp)]; exact HB) rfl
      have hy : ∀ i r, i < n → Inv i r → ∃ g', evInv Tryz.prog orc lf (m + 1) (.yield (q4.next + 2) [J (2 ^ i)]) r = some (.bool true, g') ∧ Inv (i + 1) g' := fun i r hi ⟨Xr, P5, Lr⟩ => by
        have key2 : ∃ w g', evInv Tryz.prog orc lf (m + 1) (.yield (q4.next + 2) [J (2 ^ i)]) r = some (w, g') ∧ (w = .bool true ∧ Inv (i + 1) g') := by
          refine yld_ok (c := rcOf Tryz.prog 45 1) (Q := fun w g' => w = .bool true ∧ Inv (i + 1) g') hr2 Lr (by kernel_rfl) ?_
          refine ok_go 0 ?_
          refine sy_busy 0 (by kernel_rfl) Lr ?_
          have R' : ∀ j, j ≠ q4.next + 2 → (r.put (q4.next + 2) ((rcOf Tryz.prog 45 1).obj F2 d .busy none)).get j = r.get j := fun j hj => Hp.get_put_ne hj
          have Rl : (r.put (q4.next + 2) ((rcOf Tryz.prog 45 1).obj F2 d .busy none)).get (q4.next + 2) = some ((rcOf Tryz.prog 45 1).obj F2 d .busy none) := get_put _ _ _
          have nr' : (r.put (q4.next + 2) ((rcOf Tryz.prog 45 1).obj F2 d .busy none)).next = r.next := rfl
          generalize r.put (q4.next + 2) ((rcOf Tryz.prog 45 1).obj F2 d .busy none) = r' at R' Rl nr' ⊢
          have nXr := Xr.next
          have LB : ∀ (g : Hp) (o : AObj), g.get (q4.next + 2) = some ((rcOf Tryz.prog 45 1).obj F2 d .busy none) → (g.put q4.next o).get (q4.next + 2) = some ((rcOf Tryz.prog 45 1).obj F2 d .busy none) := fun g o e => by
            rw [Hp.get_put_ne (by omega)]; exact e
          have R5 : r'.get q4.next = some (.cells [.bool (pb f (2 ^ n) mm v i)] 4 false) := by rw [R' _ (by omega)]; exact P5
          have Rk : ∀ j, j < q4.next → r'.get j = q4.get j := fun j hj => by rw [R' j (by omega), Xr.get j (by omega) (by simp; omega), XH.get j hj]
          have R4 : r'.get q.next = some (.cells [J mm, J v] 76 false) := by rw [Rk _ (by omega)]; exact x4
          have hpi : 2 ^ i < 2 ^ n := Nat.pow_lt_pow_right (by decide) hi
          have fin : ∀ (g : Hp) (b : Bool), r'.Ext g → b = pb f (2 ^ n) mm v (i + 1) → Inv (i + 1) ((g.put q4.next (.cells [.bool b] 4 false)).put (q4.next + 2) ((rcOf Tryz.prog 45 1).obj F2 d .ready none)) := fun g b Xg hb' => by
            have ng := Xg.next
            refine ⟨⟨by show _ ≤ g.next; omega, fun j hj hm => ?_⟩, ?_, get_put _ _ _⟩
            · have hm' : j ≠ q4.next ∧ j ≠ q4.next + 2 := by simpa using hm
              rw [Hp.get_put_ne hm'.2, Hp.get_put_ne hm'.1, Xg.get j (by omega), R' j hm'.2]
              exact Xr.get j hj hm
            · rw [Hp.get_put_ne (by omega), get_put, hb']
          refine ok_go 0 ?_
          refine sy_load 0 (r := loadT Tryz.prog r' 4 (ptr q4.next 0)) (h' := r') (v := .bool (pb f (2 ^ n) mm v i)) (by kernel_rfl) (load1 agB R5 rfl) ?_
          refine ok_go 0 ?_
          refine sy_test 0 (pb f (2 ^ n) mm v i) (by kernel_rfl) ?_ ?_
          · intro hp
            refine ok_go 2 ?_
            refine sy_load 0 (r := loadT Tryz.prog r' 3 (ptr q.next 0)) (h' := r') (v := J mm) (by kernel_rfl) (load1 agI R4 rfl) ?_
            have hand : (andI (Int.ofNat mm) (Int.ofNat (2 ^ i)) == 0) = (mm &&& 2 ^ i == 0) := by rw [and_nat (by omega)]; exact eq_int _ 0
            refine ok_go 6 ?_
            refine sy_test 0 (andI (Int.ofNat mm) (Int.ofNat (2 ^ i)) == 0) (by kernel_rfl) ?_ ?_
            · intro hz
              rw [hand] at hz
              refine ok_go 14 ?_
              refine sy_store 0 (r := storeT Tryz.prog r' 4 (ptr q4.next 0) (.bool true)) (h' := r'.put q4.next (.cells [.bool true] 4 false)) (by kernel_rfl) (store1 zB rfl R5 (show 0 < 1 by omega)) ?_
              refine ok_go 0 ?_
              refine sy_round 0 (by kernel_rfl) (LB r' (.cells [.bool true] 4 false) Rl) ?_
              refine ok_go 0 ?_
              exact sy_done 0 (v := .bool true) (h := (r'.put q4.next (.cells [.bool true] 4 false)).put (q4.next + 2) ((rcOf Tryz.prog 45 1).obj F2 d .ready none)) (by kernel_rfl) ⟨rfl, fin r' true (Hp.Ext.refl _) (by rw [pb, hp, hz]; rfl)⟩
            · intro hz
              rw [hand] at hz
              have Br : r'.get b1 = some (.cells [ptr bd 0] 70 ob) := by rw [Rk _ (by omega), X4.get _ (by omega)]; exact B3
              have Dr : Dcd bd b0 (2 ^ n) c r' := by
                obtain ⟨h1, z, o, e⟩ := D3.ext X4
                obtain ⟨h1', _⟩ := D
                exact ⟨by omega, z, o, by rw [Rk _ (by omega)]; exact e⟩
              have Ar : ArB b0 (2 ^ n) f r' := by
                obtain ⟨o, e⟩ := (A3.ext X4).get
                have := A.lt
                exact ⟨by omega, o, by rw [Rk _ (by omega)]; exact e⟩
              have hl1 := les (a := mm) (b := 2 ^ i) (by omega) (by omega)
              have hl2 := les (a := v) (b := 2 ^ i) (by omega) (by omega)
              have hn1 := not_gen (a := mm) (b := 2 ^ i) (by omega) (by omega)
              have hn2 := not_gen (a := v) (b := 2 ^ i) (by omega) (by omega)
              obtain ⟨_, r2, e2, rfl, X2⟩ := io m (mm ^^^ (mm &&& 2 ^ i)) (v ^^^ (v &&& 2 ^ i)) r' (.inr rfl) (by omega) (by omega) Ar Dr
              have nX2 := X2.next
              have L2 : r2.get (q4.next + 2) = some ((rcOf Tryz.prog 45 1).obj F2 d .busy none) := by rw [X2.get _ (by omega)]; exact Rl
              have R25 : r2.get q4.next = some (.cells [.bool (pb f (2 ^ n) mm v i)] 4 false) := by rw [X2.get _ (by omega)]; exact R5
              refine ok_go 0 ?_
              refine sy_load 0 (r := loadT Tryz.prog r' 70 (ptr b1 0)) (h' := r') (v := ptr bd 0) (by kernel_rfl) (load1 (by kernel_rfl) Br rfl) ?_
              refine ok_go 3 ?_
              refine sy_load 0 (r := loadT Tryz.prog r' 3 (ptr q.next 0)) (h' := r') (v := J mm) (by kernel_rfl) (load1 agI R4 rfl) ?_
              refine ok_go 6 ?_
              refine sy_load 0 (r := loadT Tryz.prog r' 3 (ptr q.next 1)) (h' := r') (v := J v) (by kernel_rfl) (load1 agI R4 rfl) ?_
              refine ok_go 6 ?_
              refine sy_call 0 (r := Ev lf m 57 [ptr bd 0, .agg #[.int .i64 (notI (Int.ofNat mm) (Int.ofNat (2 ^ i))), .int .i64 (notI (Int.ofNat v) (Int.ofNat (2 ^ i)))]] r') (by kernel_rfl) (by rw [hn1, hn2]; exact e2) ?_
              refine ok_go 5 ?_
              refine sy_store 0 (r := storeT Tryz.prog r2 4 (ptr q4.next 0) (.bool (!IM f (2 ^ n) (mm ^^^ (mm &&& 2 ^ i)) (v ^^^ (v &&& 2 ^ i))))) (h' := r2.put q4.next (.cells [.bool (!IM f (2 ^ n) (mm ^^^ (mm &&& 2 ^ i)) (v ^^^ (v &&& 2 ^ i)))] 4 false)) (by kernel_rfl) (store1 zB rfl R25 (show 0 < 1 by omega)) ?_
              refine ok_go 0 ?_
              refine sy_round 0 (by kernel_rfl) (LB r2 (.cells [.bool (!IM f (2 ^ n) (mm ^^^ (mm &&& 2 ^ i)) (v ^^^ (v &&& 2 ^ i)))] 4 false) L2) ?_
              refine ok_go 0 ?_
              exact sy_done 0 (v := .bool true) (h := (r2.put q4.next (.cells [.bool (!IM f (2 ^ n) (mm ^^^ (mm &&& 2 ^ i)) (v ^^^ (v &&& 2 ^ i)))] 4 false)).put (q4.next + 2) ((rcOf Tryz.prog 45 1).obj F2 d .ready none)) (by kernel_rfl) ⟨rfl, fin r2 _ X2 (by rw [pb, hp, hz]; rfl)⟩
          · intro hp
            refine ok_go 7 ?_
            refine sy_store 0 (r := storeT Tryz.prog r' 4 (ptr q4.next 0) (.bool false)) (h' := r'.put q4.next (.cells [.bool false] 4 false)) (by kernel_rfl) (store1 zB rfl R5 (show 0 < 1 by omega)) ?_
            refine ok_go 0 ?_
            refine sy_round 0 (by kernel_rfl) (LB r' (.cells [.bool false] 4 false) Rl) ?_
            refine ok_go 0 ?_
            exact sy_done 0 (v := .bool true) (h := (r'.put q4.next (.cells [.bool false] 4 false)).put (q4.next + 2) ((rcOf Tryz.prog 45 1).obj F2 d .ready none)) (by kernel_rfl) ⟨rfl, fin r' false (Hp.Ext.refl _) (by rw [pb, hp]; rfl)⟩
        obtain ⟨w, g', e, rfl, hI⟩ := key2
        exact ⟨g', e, hI⟩
      obtain ⟨w, h3, ev, hI3⟩ := single_run n hn lf (m + 1) (q4.next + 1) (q4.next + 2) hlf (some ⟨b0, 0, none⟩) c Inv (fun _ => False) hb (fun i q hi hq => .inl (hy i q hi hq)) (h := HH) ⟨⟨Nat.le_refl _, fun _ _ _ => rfl⟩, H5, HL⟩
      obtain ⟨X3', P3, L3'⟩ := hI3.resolve_right id
      refine ⟨w, h3, .ready, none, d, .normal, ev, L3', by decide, rfl, ?_⟩
      have nh3 := X3'.next
      let h4 : Hp := h3.put (q4.next + 2) ((rcOf Tryz.prog 45 1).obj F2 d .exhausted none)
      have K4 : ∀ j, j < q4.next → h4.get j = q4.get j := fun j hj => by
        show (h3.put _ _).get _ = _
        rw [Hp.get_put_ne (by omega), X3'.get j (by omega) (by simp; omega), XH.get j hj]
      have n4h : h4.next = h3.next := rfl
      have X44 : q4.Ext h4 := ⟨by omega, K4⟩
      have P4 : h4.get q4.next = some (.cells [.bool (pb f (2 ^ n) mm v n)] 4 false) := by
        show (h3.put _ _).get _ = _
        rw [Hp.get_put_ne (by omega)]; exact P3
      have LL : h4.get L = some ((rcOf Tryz.prog 45 0).obj F d .busy none) := by rw [K4 L (by omega)]; exact L4
      refine ok_go 0 ?_
      refine sy_load 0 (r := loadT Tryz.prog h4 4 (ptr q4.next 0)) (h' := h4) (v := .bool (pb f (2 ^ n) mm v n)) (by kernel_rfl) (load1 agB P4 rfl) ?_
      refine ok_go 0 ?_
      refine sy_test 0 (pb f (2 ^ n) mm v n) (by kernel_rfl) ?_ ?_
      · intro hp
        have hprm : prm f (2 ^ n) n mm v = true := by unfold prm; rw [hI, hp]; rfl
        have O4 : h4.get oB = some (.cells [l] 79 oo) := by rw [K4 _ (by omega), o4 _ hoq d1]; exact gO
        have xx4 : h4.get q.next = some (.cells [J mm, J v] 76 false) := by rw [K4 _ (by omega)]; exact x4
        have lst4 : OpenP h4 76 l ps := lst.of (by omega) (fun i n c e => by
          rcases lst.lw with ⟨h1, _, _⟩ | ⟨i', n', c', h1, _, hi⟩
          · rw [h1] at e; cases e
          · rw [h1] at e
            injection e with e1
            injection e1 with e1
            injection e1 with e1
            subst e1
            rw [K4 _ (by omega)]
            exact o4 _ hi (fun hl => far L (by simp) _ _ (by rw [h1, hl])))
        obtain ⟨l', h5, e5, O5, y1, y2, y3⟩ := append2 s49 lst4 (a := mm) (b := v) hps
        have oB5 : h5.get oB = some (.cells [l] 79 oo) := by rw [y2 oB (by omega) (fun n c => far oB (by simp) n c)]; exact O4
        let h6 : Hp := h5.put oB (.cells [l'] 79 oo)
        have L6 : h6.get L = some ((rcOf Tryz.prog 45 0).obj F d .busy none) := by
          show (h5.put _ _).get _ = _
          rw [Hp.get_put_ne (fun e => d1 e.symm), y2 L (by omega) (fun n c => far L (by simp) n c)]; exact LL
        have sc : scalar l' = true := by obtain ⟨a, c, rfl⟩ := O5.shape; rfl
        have K6 : ∀ j, j < q.next → j ≠ L → j ≠ oB → (∀ n c, l ≠ .slice (some ⟨j, 0, none⟩) n c) → h6.get j = q.get j := fun j hj h1 h2 h3 => by
          show (h5.put _ _).get _ = _
          rw [Hp.get_put_ne h2, y2 j (by omega) h3, K4 j (by omega)]; exact o4 j hj h1
        obtain ⟨a0, c0, hl0⟩ := lst.shape
        refine ok_go 0 ?_
        refine sy_load 0 (r := loadT Tryz.prog h4 79 (ptr oB 0)) (h' := h4) (v := l) (by kernel_rfl) (load1 (by kernel_rfl) O4 rfl) ?_
        refine ok_go 0 ?_
        refine sy_load 0 (r := loadT Tryz.prog h4 76 (ptr q.next 0)) (h' := h4) (by kernel_rfl) (load2 agP szP xx4) ?_
        refine ok_go 1 ?_
        refine sy_call 0 (r := appendOp Tryz.prog (h4.new (.cells [J mm, J v] 76 false)) 79 l (.slice (some ⟨h4.next, 0, none⟩) 1 2)) (v := l') (h' := h5) (by subst hl0; kernel_rfl) e5 ?_
        refine ok_go 0 ?_
        refine sy_store 0 (r := storeT Tryz.prog h5 79 (ptr oB 0) l') (h' := h6) (by kernel_rfl) (store1 (by kernel_rfl) sc oB5 (show 0 < 1 by omega)) ?_
        refine ok_go 0 ?_
        refine sy_round 0 (by kernel_rfl) L6 ?_
        refine ok_go 0 ?_
        have K7 : ∀ j, j < q.next → j ≠ L → j ≠ oB → (∀ n c, l ≠ .slice (some ⟨j, 0, none⟩) n c) → (h6.put L ((rcOf Tryz.prog 45 0).obj F d .ready none)).get j = q.get j := fun j hj h1 h2 h3 => by
          rw [Hp.get_put_ne h1]; exact K6 j hj h1 h2 h3
        have n7' : (h6.put L ((rcOf Tryz.prog 45 0).obj F d .ready none)).next = h5.next := rfl
        have flw : ∀ j, j ∉ lw l → ∀ n c, l ≠ .slice (some ⟨j, 0, none⟩) n c := fun j hj n c e => hj (by rw [e]; simp [lw])
        refine sy_done 0 (v := .bool true) (h := h6.put L ((rcOf Tryz.prog 45 0).obj F d .ready none)) (by kernel_rfl) ⟨rfl, l', ?_, ⟨by omega, fun j hj hm => ?_⟩, fun j hj => ?_⟩
        · rw [if_pos hprm]
          refine ⟨⟨by omega, get_put _ _ _⟩, ⟨by omega, oo, ?_⟩, ?_, fun j hj n c => ?_, ⟨by omega, ob, ?_⟩, ?_, ?_⟩
          · rw [Hp.get_put_ne d1]; exact get_put _ _ _
          · refine O5.of (by omega) (fun i n c e => ?_)
            have hi : i ≠ oB := fun h => y3 oB (by omega) n c (by rw [e, h])
            have hi2 : i ≠ L := fun h => y3 L (by omega) n c (by rw [e, h])
            rw [Hp.get_put_ne hi2]
            exact Hp.get_put_ne hi
          · refine y3 j ?_ n c
            simp only [List.mem_cons, List.not_mem_nil, or_false] at hj
            have := A.lt
            obtain ⟨h1', _⟩ := D
            rcases hj with rfl | rfl | rfl | rfl | rfl <;> omega
          · rw [K7 b1 hbq d3 d2 (far b1 (by simp))]; exact gB
          · obtain ⟨h1, z, o, e⟩ := D
            exact ⟨by omega, z, o, by rw [K7 bd h1 d5 d4 (far bd (by simp))]; exact e⟩
          · obtain ⟨o, e⟩ := A.get
            have := A.lt
            exact ⟨by omega, o, by rw [K7 b0 this d7 d6 (far b0 (by simp))]; exact e⟩
        · have hm' : j ≠ oB ∧ j ≠ L ∧ j ∉ lw l := by simpa [not_or] using hm
          exact K7 j hj hm'.2.1 hm'.1 (flw j hm'.2.2)
        · rcases O5.lw with ⟨_, h1, _⟩ | ⟨i, n', c', h1, h2, _⟩
          · simp at h1
          · rw [h2] at hj
            have hj : j = i := by simpa using hj
            subst hj
            rcases Nat.lt_or_ge j q.next with h3 | h3
            · exact absurd h1 (y3 j (by omega) n' c')
            · exact .inr h3
      · intro hp
        refine ok_go 0 ?_
        refine sy_round 0 (by kernel_rfl) LL ?_
        refine ok_go 0 ?_
        exact sy_done 0 (v := .bool true) (h := h4.put L ((rcOf Tryz.prog 45 0).obj F d .ready none)) (by kernel_rfl) (stay (by unfold prm; rw [hp, Bool.and_false]) h4 X44)
  obtain ⟨w, q', e, rfl, l', r⟩ := key
  exact ⟨q', l', e, r⟩
/-- All that is there is as it was: the state too. -/
theorem St.of {f : Nat → Bool} {N c b0 bd b1 oB L d : Nat} {CC : RC} {F : Fm} {l : Value} {ps : List (Nat × Nat)} {q q' : Hp} (S : St f N c b0 bd b1 oB L d CC F l ps q) (hn : q.next ≤ q'.next) (hg : ∀ j, j ∈ [b0, bd, b1, oB, L] ++ lw l → q'.get j = q.get j) : St f N c b0 bd b1 oB L d CC F l ps q' := by
  obtain ⟨⟨h1, g1⟩, ⟨h2, o2, g2⟩, lst, far, ⟨h3, o3, g3⟩, D, A⟩ := S
  refine ⟨⟨by omega, by rw [hg L (by simp)]; exact g1⟩, ⟨by omega, o2, by rw [hg oB (by simp)]; exact g2⟩, lst.of hn (fun i n c e => hg i (by rw [e]; simp [lw])), far, ⟨by omega, o3, by rw [hg b1 (by simp)]; exact g3⟩, ?_, ?_⟩
  · obtain ⟨h4, z, o, e⟩ := D
    exact ⟨by omega, z, o, by rw [hg bd (by simp)]; exact e⟩
  · obtain ⟨o, e⟩ := A.get
    have := A.lt
    exact ⟨by omega, o, by rw [hg b0 (by simp)]; exact e⟩
theorem St.lt {f : Nat → Bool} {N c b0 bd b1 oB L d : Nat} {CC : RC} {F : Fm} {l : Value} {ps : List (Nat × Nat)} {q : Hp} (S : St f N c b0 bd b1 oB L d CC F l ps q) : ∀ j, j ∈ [b0, bd, b1, oB, L] ++ lw l → j < q.next := by
  obtain ⟨⟨h1, g1⟩, ⟨h2, o2, g2⟩, lst, far, ⟨h3, o3, g3⟩, ⟨h4, _⟩, A⟩ := S
  intro j hj
  rcases List.mem_append.1 hj with hj | hj
  · simp only [List.mem_cons, List.not_mem_nil, or_false] at hj
    have := A.lt
    rcases hj with rfl | rfl | rfl | rfl | rfl <;> omega
  · rcases lst.lw with ⟨_, _, h⟩ | ⟨i, _, _, _, h, hi⟩
    · rw [h] at hj; cases hj
    · rw [h] at hj
      have hj : j = i := by simpa using hj
      omega
theorem primes_of (f : Nat → Bool) (n : Nat) (hn : n ≤ 6) (lf k b0 c bd : Nat) (hlf : 300 ≤ lf) (h : Hp) (A : ArB b0 (2 ^ n) f h) (D : Dcd bd b0 (2 ^ n) c h)
    (io : ∀ F mm v h, (F = k + 4 ∨ F = k + 2 ∨ F = k) → mm < 64 → v < 2 ^ n → ArB b0 (2 ^ n) f h → Dcd bd b0 (2 ^ n) c h → ∃ y h', Ev lf F 57 [ptr bd 0, .agg #[J mm, J v]] h = some (y, h') ∧ y = .bool (IM f (2 ^ n) mm v) ∧ h.Ext h') :
    ∃ v h', Ev lf (k + 7) 45 [ptr bd 0] h = some (v, h') ∧ OpenP h' 76 v (accP (prm f (2 ^ n) n) (2 ^ n)) ∧ Exc [b0, bd] h h' ∧ ArB b0 (2 ^ n) f h' := by
  have hp64 : 2 ^ n ≤ 64 := Nat.pow_le_pow_right (n := 2) (by decide) hn
  have hp0 : 1 ≤ 2 ^ n := Nat.one_le_two_pow
  refine fnS_ok (Q := fun v h' => OpenP h' 76 v (accP (prm f (2 ^ n) n) (2 ^ n)) ∧ Exc [b0, bd] h h' ∧ ArB b0 (2 ^ n) f h') ?_
  obtain ⟨hbd, zd, od, gd⟩ := D
  have hb0 := A.lt
  let H1 : Hp := h.new (.cells [ptr bd 0] 70 false)
  let H2 : Hp := H1.new (.cells [.slice none 0 0] 79 false)
  let H3 : Hp := H2.new (.cells [ptr bd 0] 70 false)
  have n3 : H3.next = h.next + 3 := rfl
  have o3 : ∀ j, j < h.next → H3.get j = h.get j := fun j hj => by
    simp only [H3, H2, H1, gn, nn]
    repeat (first | rw [if_pos (by omega)] | rw [if_neg (by omega)])
  have e2 : H2.get h.next = some (.cells [ptr bd 0] 70 false) := by
    simp only [H2, H1, gn, nn, if_true]
    repeat (first | rw [if_pos (by omega)] | rw [if_neg (by omega)])
  refine ok_go 2 ?_
  refine sy_load 0 (r := loadT Tryz.prog H2 70 (ptr h.next 0)) (h' := H2) (v := ptr bd 0) (by kernel_rfl) (load1 (by kernel_rfl) e2 rfl) ?_
  refine ok_go 1 ?_
  refine sy_range 0 (callF := evInv Tryz.prog orc lf (k + 6)) (P := Tryz.prog) (lf := lf) (m := 48) (rcOf Tryz.prog 45 0) H3 [(1, ptr h.next 0), (3, ptr (h.next + 1) 0)] 86 [.func (.yield (H3.next + 1)) #[] #[], ptr H2.next 0]
    (by kernel_rfl) (fun F => by kernel_rfl) ⟨by kernel_rfl, by kernel_rfl, trivial⟩ (by kernel_rfl) (by kernel_rfl) fun F f2 hr => ?_
  let CC : RC := rcOf Tryz.prog 45 0
  let HH : Hp := (rcOf Tryz.prog 45 0).heap F H3
  have nH : HH.next = h.next + 5 := rfl
  have oH : ∀ j, j < h.next + 3 → HH.get j = H3.get j := fun j hj => by
    simp only [HH, RC.heap, gn, nn]
    repeat (first | rw [if_pos (by omega)] | rw [if_neg (by omega)])
  have HD : HH.get (h.next + 3) = some (.defd false) := by
    simp only [HH, RC.heap, gn, nn, n3, if_true]
    repeat (first | rw [if_pos (by omega)] | rw [if_neg (by omega)])
  have HL : HH.get (h.next + 4) = some ((rcOf Tryz.prog 45 0).obj F (h.next + 3) .ready none) := get_new (H3.new _) _
  have H1g : HH.get h.next = some (.cells [ptr bd 0] 70 false) := by
    rw [oH _ (by omega)]
    simp only [H3, H2, H1, gn, nn, if_true]
    repeat (first | rw [if_pos (by omega)] | rw [if_neg (by omega)])
  have H2g : HH.get (h.next + 1) = some (.cells [.slice none 0 0] 79 false) := by
    rw [oH _ (by omega)]
    simp only [H3, H2, H1, gn, nn, if_true]
    repeat (first | rw [if_pos (by omega)] | rw [if_neg (by omega)])
  have H3g : HH.get (h.next + 2) = some (.cells [ptr bd 0] 70 false) := by
    rw [oH _ (by omega)]
    simp only [H3, H2, H1, gn, nn, if_true]
  have XH : h.Ext HH := ⟨by omega, fun j hj => by rw [oH j (by omega)]; exact o3 j hj⟩
  have DH : Dcd bd b0 (2 ^ n) c HH := ⟨by omega, zd, od, by rw [XH.get _ hbd]; exact gd⟩
  have AH : ArB b0 (2 ^ n) f HH := A.ext XH
  let base : List Nat := [b0, bd, h.next, h.next + 1, h.next + 4]
  let pr := prm f (2 ^ n) n
  let S : Value → List (Nat × Nat) → Hp → Prop := fun l ps q => St f (2 ^ n) c b0 bd h.next (h.next + 1) (h.next + 4) (h.next + 3) (rcOf Tryz.prog 45 0) F l ps q
  let I0 : Nat → List Nat → Hp → Prop := fun m W q => ∃ l, W = base ++ lw l ∧ S l (accP pr m) q
  let I1 : Nat → Nat → List Nat → Hp → Prop := fun m s W q => ∃ l, W = base ++ lw l ∧ S l (accP pr m ++ rowP pr m (s + 1)) q
  have hdist : h.next + 1 ≠ h.next + 4 ∧ h.next ≠ h.next + 1 ∧ h.next ≠ h.next + 4 ∧ bd ≠ h.next + 1 ∧ bd ≠ h.next + 4 ∧ b0 ≠ h.next + 1 ∧ b0 ≠ h.next + 4 := by omega
  have step : ∀ mm' (m : Nat) (v : Nat) l ps q, (mm' = k ∨ mm' = k + 2) → m < 2 ^ n → v < 2 ^ n → ps.length < 8388608 → S l ps q → ∃ q' W', evInv Tryz.prog orc lf (mm' + 3) (.yield (h.next + 4) [.agg #[J m, J v]]) q = some (.bool true, q') ∧ (∃ l', W' = base ++ lw l' ∧ S l' (if pr m v = true then ps ++ [(m, v)] else ps) q') ∧ Exc (base ++ lw l) q q' ∧ ∀ j ∈ W', j ∈ base ++ lw l ∨ q.next ≤ j := fun mm' m v l ps q hmm hm hv hps hS => by
    obtain ⟨q', l', e, S', E', hW'⟩ := round22 f n hn lf mm' b0 c bd h.next (h.next + 1) (h.next + 4) (h.next + 3) hlf hdist (fun F mm v h hF => io F mm v h (by omega)) F f2 hr q l ps m v hm hv hps hS
    refine ⟨q', base ++ lw l', e, ⟨l', rfl, S'⟩, ⟨E'.next, fun j hj hm => E'.get j hj (fun hc => hm ?_)⟩, fun j hj => ?_⟩
    · rcases List.mem_append.1 hc with h1 | h1
      · refine List.mem_append_left _ ?_
        simp only [List.mem_cons, List.not_mem_nil, or_false] at h1
        rcases h1 with rfl | rfl <;> simp [base]
      · exact List.mem_append_right _ h1
    · rcases List.mem_append.1 hj with h1 | h1
      · exact .inl (List.mem_append_left _ h1)
      · rcases hW' j h1 with h2 | h2
        · exact .inl (List.mem_append_right _ h2)
        · exact .inr h2
  have C : Cons lf (k + 3) (h.next + 4) (2 ^ n) I0 I1 := by
    refine ⟨fun m W q ⟨l, hW, hS⟩ j hj => ?_, fun m s W q ⟨l, hW, hS⟩ j hj => ?_, fun m W q q' ⟨l, hW, hS⟩ hn' hg => ⟨l, hW, hS.of hn' (fun j hj => hg j (by rw [hW]; exact hj))⟩, fun m s W q q' ⟨l, hW, hS⟩ hn' hg => ⟨l, hW, hS.of hn' (fun j hj => hg j (by rw [hW]; exact hj))⟩, fun m W q ⟨l, hW, hS⟩ => ⟨l, hW, hS⟩, fun m W q hm ⟨l, hW, hS⟩ => ?_, fun m s t W q hm hst htm hts hbt ⟨l, hW, hS⟩ => ?_⟩
    · rw [hW] at hj; exact hS.lt j hj
    · rw [hW] at hj; exact hS.lt j hj
    · subst hW
      have hl := accP_len pr m (by omega)
      obtain ⟨q', W', e, ⟨l', hW', S'⟩, E', r⟩ := step (k + 2) m 0 l _ q (.inr rfl) hm (by omega) (by omega) hS
      refine ⟨q', W', e, ⟨l', hW', ?_⟩, E', r⟩
      have hs0 : sub 0 m = true := by simp [sub]
      rw [rowP, hs0, Bool.true_and]
      cases hp : pr m 0
      · rw [hp] at S'
        rw [if_neg (by decide)] at S' ⊢
        show S l' (accP pr m ++ rowP pr m 0) q'
        rw [rowP, List.append_nil]; exact S'
      · rw [hp, if_pos rfl] at S'
        rw [if_pos rfl]
        exact S'
    · subst hW
      have hl := accP_len pr m (by omega)
      have hl2 := rowP_len pr m (s + 1)
      have hsk : rowP pr m t = rowP pr m (s + 1) := rowP_skip pr m (s + 1) t (by omega) fun v h1 h2 => by
        cases hs : sub v m with
        | false => rfl
        | true => exact absurd (eq_of_beq hs) (hbt v (by omega) h2)
      obtain ⟨q', W', e, ⟨l', hW', S'⟩, E', r⟩ := step k m t l _ q (.inl rfl) hm (by omega) (by rw [List.length_append]; omega) hS
      refine ⟨q', W', e, ⟨l', hW', ?_⟩, E', r⟩
      have hst' : sub t m = true := by show (t &&& m == t) = true; rw [hts]; exact beq_self_eq_true t
      rw [rowP, hst', Bool.true_and, hsk]
      cases hp : pr m t
      · rw [hp] at S'
        rw [if_neg (by decide)] at S' ⊢
        exact S'
      · rw [hp, if_pos rfl] at S'
        rw [if_pos rfl, ← List.append_assoc]
        exact S'
  have S0 : S (.slice none 0 0) [] HH := ⟨⟨by omega, HL⟩, ⟨by omega, false, H2g⟩, .inl ⟨rfl, rfl⟩, fun j _ n c hc => (by cases hc), ⟨by omega, false, H1g⟩, DH, AH⟩
  obtain ⟨v, h3, W', ev, ⟨l, hW, S3⟩, E3, hW3⟩ := parts_run (2 ^ n) hp64 lf (k + 3) (h.next + 4) b0 c bd (h.next + 2) hlf C (base ++ lw (.slice none 0 0)) HH ⟨_, rfl, S0⟩ (by omega) (by simp [base, lw]; omega) ⟨false, H3g⟩ DH
  obtain ⟨⟨hL3, gL3⟩, ⟨hO3, oo, gO3⟩, lst, far, _, _, A3⟩ := S3
  refine ⟨v, h3, .ready, none, h.next + 3, .normal, ev, gL3, by decide, rfl, ?_⟩
  let h4 : Hp := h3.put (h.next + 4) ((rcOf Tryz.prog 45 0).obj F (h.next + 3) .exhausted none)
  have nh3 := E3.next
  have O4 : h4.get (h.next + 1) = some (.cells [l] 79 oo) := by
    show (h3.put _ _).get _ = _
    rw [Hp.get_put_ne (by omega)]; exact gO3
  have D4 : h4.get (h.next + 3) = some (.defd false) := by
    show (h3.put _ _).get _ = _
    rw [Hp.get_put_ne (by omega), E3.get _ (by omega) (by simp [base, lw]; omega)]; exact HD
  obtain ⟨a0, c0, hl0⟩ := lst.shape
  have sc : scalar l = true := by rw [hl0]; rfl
  have hA3 := A3.lt
  have hlwd : ∀ i n c, l = .slice (some ⟨i, 0, none⟩) n c → i ≠ h.next + 3 := fun i n c e hi => by
    have h1 : i ∈ W' := by rw [hW]; exact List.mem_append_right _ (by rw [e]; simp [lw])
    rcases hW3 i h1 with h2 | h2
    · simp [base, lw] at h2; omega
    · omega
  refine ok_go 0 ?_
  refine sy_load 0 (r := loadT Tryz.prog h4 79 (ptr (h.next + 1) 0)) (h' := h4) (v := l) (by kernel_rfl) (load1 (by kernel_rfl) O4 rfl) ?_
  refine ok_go 0 ?_
  refine sy_marks 0 (h := h4) [h.next + 3] (by kernel_rfl) (by simp) (fun e he => by
    have he : e = h.next + 3 := by simpa using he
    rw [he]; exact D4) fun h' n'' o'' => ?_
  have P4 : ∀ j, j ≠ h.next + 4 → j ≠ h.next + 3 → h'.get j = h3.get j := fun j h1 h2 => by
    rw [o'' j (by simpa using h2)]
    exact Hp.get_put_ne h1
  have nh' : h'.next = h3.next := n''
  refine ok_go 0 ?_
  refine sy_done 0 (v := l) (h := h') (by kernel_rfl) ⟨lst.of (by omega) (fun i n c e => P4 i (fun hi => far (h.next + 4) (by simp) n c (by rw [e, hi])) (hlwd i n c e)), ⟨by omega, fun j hj hm => ?_⟩, ?_⟩
  · have hm' : j ≠ b0 ∧ j ≠ bd := by simpa using hm
    rw [P4 j (by omega) (by omega), E3.get j (by omega) (by simp [base, lw]; omega)]
    exact XH.get j hj
  · obtain ⟨o, e⟩ := A3.get
    exact ⟨by omega, o, by rw [P4 b0 (by omega) (by omega)]; exact e⟩
theorem OpenP.ext {h g : Hp} {e : TypeId} {l : Value} {ps : List (Nat × Nat)} (H : OpenP h e l ps) (k : h.Ext g) : OpenP g e l ps := by
  rcases H with H | ⟨i, rfl, h1, h2, h3⟩
  · exact .inl H
  · exact .inr ⟨i, rfl, h1, Nat.lt_of_lt_of_le h2 k.next, k.at_ h2 h3⟩
theorem pairs_of (lf k : Nat) (hlf : 5000 ≤ lf) (h : Hp) (l : Value) (ps : List (Nat × Nat)) (hps : ps.length ≤ 4200) (O : OpenP h 76 l ps) :
    ∃ v h', Ev lf (k + 1) 44 [l] h = some (v, h') ∧ OpenP h' 95 v ps ∧ h.Ext h' ∧ ∀ j, j < h.next → ∀ p q, v ≠ .slice (some ⟨j, 0, none⟩) p q := by
  refine fnS_ok (Q := fun v h' => OpenP h' 95 v ps ∧ h.Ext h' ∧ ∀ j, j < h.next → ∀ p q, v ≠ .slice (some ⟨j, 0, none⟩) p q) ?_
  obtain ⟨a, c, rfl⟩ := O.shape
  refine ok_go 1 ?_
  refine sy_loop 0 lf h (α := Nat × Value) (fun s => [(3, s.2), (6, .slice a ps.length c), (7, J ps.length), (8, J s.1)]) (fun s g => s.1 ≤ ps.length ∧ h.Ext g ∧ OpenP g 95 s.2 (ps.take s.1) ∧ ∀ j, j < h.next → ∀ p q, s.2 ≠ .slice (some ⟨j, 0, none⟩) p q) (fun s _ => ps.length - s.1) (0, .slice none 0 0) (by kernel_rfl) (by kernel_rfl) ⟨by kernel_rfl, by kernel_rfl, by kernel_rfl, by kernel_rfl, trivial⟩ (show ps.length - 0 < lf by omega) ⟨Nat.zero_le _, Hp.Ext.refl _, .inl ⟨rfl, rfl⟩, fun j _ p q hc => by cases hc⟩ ?_
  rintro m1 ⟨i, out⟩ f1 g ⟨hi, X, OU, far⟩ ih
  dsimp only at hi OU far
  refine ok_go 1 ?_
  refine sy_test 0 (decide (Int.ofNat i < Int.ofNat ps.length)) (by kernel_rfl) ?_ ?_
  · intro hlt
    have hlt := ok_nat hlt
    have hwi : IntKind.wrap .i64 (Int.ofNat (i + 1)) = Int.ofNat (i + 1) := wrap_nat (by omega)
    obtain ⟨q, e1, e2⟩ := (O.ext X).read s49 agP (k := i) (p := ps[i]) (List.getElem?_eq_getElem hlt)
    have htk : ps.take (i + 1) = ps.take i ++ [ps[i]] := by rw [List.take_add_one, List.getElem?_eq_getElem hlt]; rfl
    generalize ps[i] = p at e2 htk
    obtain ⟨pa, pb⟩ := p
    refine ok_go 0 ?_
    refine sy_load 0 (r := indexAddrOp Tryz.prog 79 (.slice a ps.length c) (J i)) (h' := g) (by kernel_rfl) e1 ?_
    refine ok_go 0 ?_
    refine sy_load 0 (r := loadT Tryz.prog g 76 q) (h' := g) (by kernel_rfl) e2 ?_
    let g1 : Hp := g.new (.cells [J 0, J 0] 76 false)
    let g2 : Hp := g1.put g.next (.cells [J pa, J pb] 76 false)
    have k1 : g1.get g.next = some (.cells [J 0, J 0] 76 false) := get_new _ _
    have k2 : g2.get g.next = some (.cells [J pa, J pb] 76 false) := get_put _ _ _
    have X2 : g.Ext g2 := ⟨Nat.le_succ _, fun j hj => by
      simp only [g2, g1, gn, gp]
      repeat (first | rw [if_pos (by omega)] | rw [if_neg (by omega)])⟩
    obtain ⟨oa, oc, hol⟩ := (OU.ext X2).shape
    obtain ⟨l', h5, e5, O5, y1, y2, y3⟩ := append2 s27 (OU.ext X2) (a := pa) (b := pb) (by rw [List.length_take]; omega)
    have hxn := (X.trans X2).next
    refine ok_go 1 ?_
    refine sy_store 0 (r := storeT Tryz.prog g1 76 (ptr g.next 0) (.agg #[J pa, J pb])) (h' := g2) (by kernel_rfl) (store2 szP k1 rfl) ?_
    refine ok_go 1 ?_
    refine sy_load 0 (r := loadT Tryz.prog g2 3 (ptr g.next 0)) (h' := g2) (v := J pa) (by kernel_rfl) (load1 agI k2 rfl) ?_
    refine ok_go 1 ?_
    refine sy_load 0 (r := loadT Tryz.prog g2 3 (ptr g.next 1)) (h' := g2) (v := J pb) (by kernel_rfl) (load1 agI k2 rfl) ?_
    refine ok_go 2 ?_
    refine sy_call 0 (r := appendOp Tryz.prog (g2.new (.cells [J pa, J pb] 95 false)) 42 out (.slice (some ⟨g2.next, 0, none⟩) 1 2)) (v := l') (h' := h5) (by subst hol; kernel_rfl) e5 ?_
    refine ok_go 1 ?_
    exact sy_next 0 _ h5 (by kernel_rfl) (by kernel_rfl) (ih (i + 1, l') _ h5 ⟨hlt, ⟨by omega, fun j hj => (y2 j (by omega) (far j hj)).trans ((X.trans X2).get j hj)⟩, by show OpenP h5 95 l' (ps.take (i + 1)); rw [htk]; exact O5, fun j hj => y3 j (by omega)⟩ (show ps.length - (i + 1) < ps.length - i by omega) ⟨by kernel_rfl, by kernel_rfl, by kernel_rfl, (by kernel_rfl : _ = Value.int .i64 (IntKind.wrap .i64 (Int.ofNat (i + 1)))).trans (by rw [hwi]), trivial⟩)
  · intro hlt
    have hlt := no_nat hlt
    have hil : i = ps.length := by omega
    rw [hil, List.take_length] at OU
    refine ok_go 0 ?_
    exact sy_done 0 (v := out) (h := g) (by kernel_rfl) ⟨OU, X, far⟩
theorem rowP_small (pr : Nat → Nat → Bool) (m : Nat) : ∀ k, ∀ p ∈ rowP pr m k, p.1 = m ∧ p.2 < k
  | 0, p, h => by cases h
  | k + 1, p, h => by
    rw [rowP] at h
    split at h
    · rcases List.mem_append.1 h with h | h
      · have := rowP_small pr m k p h
        exact ⟨this.1, by omega⟩
      · have h : p = (m, k) := by simpa using h
        rw [h]; exact ⟨rfl, Nat.lt_succ_self k⟩
    · have := rowP_small pr m k p h
      exact ⟨this.1, by omega⟩
theorem accP_small (pr : Nat → Nat → Bool) : ∀ m, m ≤ 64 → ∀ p ∈ accP pr m, p.1 < 64 ∧ p.2 < 64
  | 0, _, p, h => by cases h
  | m + 1, hm, p, h => by
    rw [accP] at h
    rcases List.mem_append.1 h with h | h
    · exact accP_small pr m (by omega) p h
    · have := rowP_small pr m (m + 1) p h
      omega
theorem io_of (f : Nat → Bool) (n : Nat) (hn : n ≤ 6) (b0 c bd : Nat) : ∀ F, 10 ≤ F → ∀ mm v h, mm < 64 → v < 2 ^ n → ArB b0 (2 ^ n) f h → Dcd bd b0 (2 ^ n) c h → ∃ y h', Ev 100000 F 57 [ptr bd 0, .agg #[J mm, J v]] h = some (y, h') ∧ y = .bool (IM f (2 ^ n) mm v) ∧ h.Ext h' := fun F hF mm v h hmm hv A D => by
  have hp64 : 2 ^ n ≤ 64 := Nat.pow_le_pow_right (n := 2) (by decide) hn
  obtain ⟨k, rfl⟩ : ∃ k, F = k + 2 := ⟨F - 2, by omega⟩
  exact impl_of f (2 ^ n) 100000 (k + 1) bd mm v h fun h' X => const_of f (2 ^ n) hp64 100000 k (by decide) b0 c bd mm v hv hmm h' (A.ext X) (D.ext X)
theorem idxI {b N c v : Nat} (hv : v < N) : indexAddrOp Tryz.prog 29 (.slice (some ⟨b, 0, none⟩) N c) (J v) = some (ptr b v) := by
  rw [idxSl uI zI hv, Nat.zero_add, Nat.mul_one]
theorem slI : SlT Tryz.prog 29 3 := ⟨by kernel_rfl, by kernel_rfl, ⟨_, rfl, by kernel_rfl⟩, ⟨_, rfl, by kernel_rfl⟩⟩
theorem u64_nat {a : Nat} (h : a < 2 ^ 64) : IntKind.wrap .u64 (Int.ofNat a) = Int.ofNat a := by
  show (Int.ofNat a) % 2 ^ 64 = _
  exact Int.emod_eq_of_lt (Int.natCast_nonneg a) (by show (a : Int) < _; omega)
/-- The place of a number in a list, from i on; -1 if it is not there. -/
def ixL (v : Nat) : Nat → List Nat → Int
  | _, [] => -1
  | i, a :: l => if v = a then Int.ofNat i else ixL v (i + 1) l
theorem ixL_in (v : Nat) : ∀ (l : List Nat) (i : Nat), decide (ixL v i l ≥ 0) = l.contains v
  | [], i => rfl
  | a :: l, i => by
    rw [ixL, List.contains_cons]
    by_cases h : v = a
    · rw [if_pos h]
      have : (v == a) = true := beq_iff_eq.2 h
      rw [this, Bool.true_or]
      exact decide_eq_true (by show (0 : Int) ≤ (i : Int); omega)
    · rw [if_neg h, beq_eq_false_iff_ne.2 h, Bool.false_or]
      exact ixL_in v l (i + 1)
theorem index_of (ps : List Nat) (v : Nat) (lf m : Nat) (hlf : 300 ≤ lf) (hps : ps.length ≤ 16) (a : Option Addr) (c : Nat) (h : Hp) (R : Rds h (.slice a ps.length c) (ps.map J)) :
    Ev lf (m + 1) 89 [.slice a ps.length c, J v] h = some (I (ixL v 0 ps), h) := by
  refine fn_eq ?_
  refine ok_go 1 ?_
  refine sy_loop 0 lf h (α := Nat) (fun i => [(0, .slice a ps.length c), (1, J v), (7, J ps.length), (8, J i)]) (fun i g => i ≤ ps.length ∧ g = h ∧ ixL v 0 ps = ixL v i (ps.drop i)) (fun i _ => ps.length - i) 0 (by kernel_rfl) (by kernel_rfl) ⟨by kernel_rfl, by kernel_rfl, by kernel_rfl, by kernel_rfl, trivial⟩ (show ps.length - 0 < lf by omega) ⟨Nat.zero_le _, rfl, by rw [List.drop_zero]⟩ ?_
  rintro m1 i f1 g ⟨hi, rfl, hx⟩ ih
  refine ok_go 1 ?_
  refine sy_test 0 (decide (Int.ofNat i < Int.ofNat ps.length)) (by kernel_rfl) ?_ ?_
  · intro hlt
    have hlt := ok_nat hlt
    have hwi : IntKind.wrap .i64 (Int.ofNat (i + 1)) = Int.ofNat (i + 1) := wrap_nat (by omega)
    obtain ⟨q, e1, e2⟩ := R.read (P := Tryz.prog) (k := i) (kd := .i64) (v := J ps[i]) slI.u slI.s agI (by rw [List.getElem?_map, List.getElem?_eq_getElem hlt]; rfl)
    rw [List.drop_eq_getElem_cons hlt, ixL] at hx
    refine ok_go 0 ?_
    refine sy_load 0 (r := indexAddrOp Tryz.prog 29 (.slice a ps.length c) (J i)) (h' := g) (by kernel_rfl) e1 ?_
    refine ok_go 0 ?_
    refine sy_load 0 (r := loadT Tryz.prog g 3 q) (h' := g) (by kernel_rfl) e2 ?_
    refine ok_go 1 ?_
    refine sy_test 0 (Int.ofNat v == Int.ofNat ps[i]) (by kernel_rfl) ?_ ?_
    · intro he
      have he : v = ps[i] := by rw [eq_int] at he; exact eq_of_beq he
      rw [if_pos he] at hx
      refine ok_go 0 ?_
      exact sy_done 0 (v := J i) (h := g) (by kernel_rfl) ⟨by rw [hx], rfl⟩
    · intro he
      have he : v ≠ ps[i] := by rw [eq_int] at he; exact beq_eq_false_iff_ne.1 he
      rw [if_neg he] at hx
      refine ok_go 1 ?_
      exact sy_next 0 _ g (by kernel_rfl) (by kernel_rfl) (ih (i + 1) _ g ⟨hlt, rfl, hx⟩ (show ps.length - (i + 1) < ps.length - i by omega) ⟨by kernel_rfl, by kernel_rfl, by kernel_rfl, (by kernel_rfl : _ = Value.int .i64 (IntKind.wrap .i64 (Int.ofNat (i + 1)))).trans (by rw [hwi]), trivial⟩)
  · intro hlt
    have hlt := no_nat hlt
    obtain rfl : i = ps.length := by omega
    rw [List.drop_length] at hx
    refine ok_go 0 ?_
    exact sy_done 0 (v := I (-1)) (h := g) (by kernel_rfl) ⟨by rw [hx]; rfl, rfl⟩
theorem contains_of (ps : List Nat) (v : Nat) (lf m : Nat) (hlf : 300 ≤ lf) (hps : ps.length ≤ 16) (a : Option Addr) (c : Nat) (h : Hp) (R : Rds h (.slice a ps.length c) (ps.map J)) :
    Ev lf (m + 2) 78 [.slice a ps.length c, J v] h = some (.bool (ps.contains v), h) := by
  have e := index_of ps v lf m hlf hps a c h R
  refine fn_eq ?_
  refine ok_go 0 ?_
  refine sy_call 0 (by kernel_rfl) e ?_
  refine ok_go 1 ?_
  exact sy_done 0 (v := .bool (ps.contains v)) (h := h) (by rw [← ixL_in v ps 0]; kernel_rfl) ⟨rfl, rfl⟩
/-- What fill has: the list, its room, how many numbers, who is told, itself. -/
structure Fil (n L B N Y F Yl : Nat) (p : List Nat) (h : Hp) : Prop where
  lt : L < h.next ∧ B < h.next ∧ N < h.next ∧ Y < h.next ∧ F < h.next
  ne : L ≠ B ∧ L ≠ N ∧ L ≠ Y ∧ L ≠ F ∧ B ≠ N ∧ B ≠ Y ∧ B ≠ F
  gl : h.get L = some (.cells [.slice (some ⟨B, 0, none⟩) p.length (2 * n)] 29 false)
  gb : ∃ r, p.length + r.length = n ∧ h.get B = some (.cells (p.map J ++ r) 3 false)
  gn : h.get N = some (.cells [J n] 3 false)
  gy : h.get Y = some (.cells [.func (.yield Yl) #[] #[]] 116 false)
  gf : h.get F = some (.cells [.func (.func 77) #[] #[ptr L 0, ptr N 0, ptr Y 0, ptr F 0]] 52 false)
/-- The permutations that go on from a list. -/
def pf (n : Nat) : Nat → List Nat → List (List Nat)
  | 0, p => [p]
  | d + 1, p => (List.range n).flatMap fun i => if p.contains i = true then [] else pf n d (p ++ [i])
theorem Fil.ext {n L B N Y F Yl : Nat} {p : List Nat} {h g : Hp} (K : Fil n L B N Y F Yl p h) (X : h.Ext g) : Fil n L B N Y F Yl p g := by
  obtain ⟨⟨l1, l2, l3, l4, l5⟩, ne, gl, ⟨r, r1, r2⟩, gn, gy, gf⟩ := K
  have hn := X.next
  exact ⟨⟨by omega, by omega, by omega, by omega, by omega⟩, ne, by rw [X.get _ l1]; exact gl, ⟨r, r1, by rw [X.get _ l2]; exact r2⟩, by rw [X.get _ l3]; exact gn, by rw [X.get _ l4]; exact gy, by rw [X.get _ l5]; exact gf⟩
theorem takeN_left : ∀ (l r : List Value), takeN l.length (l ++ r) = some l
  | [], r => rfl
  | v :: l, r => by simp only [List.length_cons, List.cons_append, takeN, takeN_left l r]
theorem append_in {h : Hp} {B k n x : Nat} {cs : List Value} {o : Bool} {v : Value} (hv : scalar v = true) (hk : k < n) (hn : n ≤ 16) (hc : cs.length = n) (hb : h.get B = some (.cells cs 3 o)) (hx : h.get x = some (.cells [v] 3 false)) :
    appendOp Tryz.prog h 29 (.slice (some ⟨B, 0, none⟩) k (2 * n)) (.slice (some ⟨x, 0, none⟩) 1 2) = some (.slice (some ⟨B, 0, none⟩) (k + 1) (2 * n), h.put B (.cells (cs.set k v) 3 o)) := by
  obtain ⟨inf, hi1, hi2⟩ := slI.i
  obtain ⟨z, hz1, hz2⟩ := slI.z
  have hel : elems h 1 1 (.slice (some ⟨x, 0, none⟩) 1 2) = some [v] := by
    simp only [elems, loadN, hx, List.drop_zero, takeN]
  have hall : [v].all scalar = true := by simp [hv]
  have h1 : Nat.ble (k + 1) most = true := Nat.ble_eq_true_of_le (by unfold most; omega)
  have h2 : Nat.ble (k + 1) (2 * n / 2) = true := Nat.ble_eq_true_of_le (by omega)
  have h3 : Nat.ble (0 + k * 1 + [v].length) cs.length = true := Nat.ble_eq_true_of_le (by simp; omega)
  simp only [appendOp, slI.u, slI.s, hi1, hz1, lenV, hel, hz2, hi2, hall, h1, h2, storeN, hb, h3]
  rw [Nat.zero_add, Nat.mul_one, splice1 (by omega)]
theorem cut_in {B k n : Nat} (hk : k < n) (z : Int) (hz : z = Int.ofNat k) : sliceOp Tryz.prog 29 (.slice (some ⟨B, 0, none⟩) (k + 1) (2 * n)) none (some (.int .i64 z)) none = some (.slice (some ⟨B, 0, none⟩) k (2 * n)) := by
  subst hz
  have h1 : Nat.ble k n = true := Nat.ble_eq_true_of_le (by omega)
  have h2 : Nat.beq n 0 = false := by cases e : Nat.beq n 0 with | false => rfl | true => have := Nat.eq_of_beq_eq_true e; omega
  have h0 : Nat.ble 0 n = true := Nat.ble_eq_true_of_le (Nat.zero_le _)
  have h3 : 2 * n / 2 = n := by omega
  have h4 : 2 * n % 2 = 0 := by omega
  have h5 : Nat.ble 0 k = true := Nat.ble_eq_true_of_le (Nat.zero_le _)
  simp only [sliceOp, slI.u, slI.s, h3, h4]
  simp only [sliceV, bound, natOf, h1, h0, h2, h5, Option.isSome_none, Bool.not_false, Bool.and_true, Bool.false_eq_true, if_false]
  rfl
theorem fill_of (n : Nat) (hn : n ≤ 4) (lf m : Nat) (hlf : 300 ≤ lf) (L B N Y F Yl : Nat) (Inv : List (List Nat) → Hp → Prop)
    (st : ∀ done g g', Inv done g → g.next ≤ g'.next → (∀ j, j < g.next → j ≠ L → j ≠ B → g'.get j = g.get j) → Inv done g')
    (hy : ∀ done p g, Inv done g → Fil n L B N Y F Yl p g → p.length = n → (∀ x ∈ p, x < n) → ∃ g', evInv Tryz.prog orc lf (m + 2) (.yield Yl [.slice (some ⟨B, 0, none⟩) n (2 * n)]) g = some (.bool true, g') ∧ Inv (done ++ [p]) g' ∧ Fil n L B N Y F Yl p g') :
    ∀ d p done h, p.length + d = n → (∀ x ∈ p, x < n) → Inv done h → Fil n L B N Y F Yl p h → ∃ v h', Ev lf (m + d + 3) 77 [ptr L 0, ptr N 0, ptr Y 0, ptr F 0] h = some (v, h') ∧ v = .bool true ∧ Inv (done ++ pf n d p) h' ∧ Fil n L B N Y F Yl p h'
  | 0, p, done, h, hd, hp', hI, K => by
    refine fnS_ok (Q := fun v h' => v = .bool true ∧ Inv (done ++ pf n 0 p) h' ∧ Fil n L B N Y F Yl p h') ?_
    have hp : p.length = n := by omega
    obtain ⟨g', e, I', K'⟩ := hy done p h hI K hp hp'
    obtain ⟨⟨l1, l2, l3, l4, l5⟩, ⟨n1, n2, n3', n4, n5, n6, n7⟩, gl, gb, gn, gy, gf⟩ := K
    rw [hp] at gl
    refine ok_go 0 ?_
    refine sy_load 0 (r := loadT Tryz.prog h 29 (ptr L 0)) (h' := h) (by kernel_rfl) (load1 (by kernel_rfl) gl rfl) ?_
    refine ok_go 1 ?_
    refine sy_load 0 (r := loadT Tryz.prog h 3 (ptr N 0)) (h' := h) (by kernel_rfl) (load1 agI gn rfl) ?_
    refine ok_go 1 ?_
    refine sy_yes 0 (b := Int.ofNat n == Int.ofNat n) (by kernel_rfl) (beq_self_eq_true _) ?_
    refine ok_go 0 ?_
    refine sy_load 0 (r := loadT Tryz.prog h 116 (ptr Y 0)) (h' := h) (by kernel_rfl) (load1 (by kernel_rfl) gy rfl) ?_
    refine ok_go 0 ?_
    refine sy_load 0 (r := loadT Tryz.prog h 29 (ptr L 0)) (h' := h) (by kernel_rfl) (load1 (by kernel_rfl) gl rfl) ?_
    refine ok_go 0 ?_
    refine sy_call 0 (by kernel_rfl) e ?_
    refine ok_go 0 ?_
    exact sy_done 0 (v := .bool true) (h := g') (by kernel_rfl) ⟨rfl, I', K'⟩
  | d + 1, p, done, h, hd, hp', hI, K => by
    have rc := fill_of n hn lf m hlf L B N Y F Yl Inv st hy d
    refine fnS_ok (Q := fun v h' => v = .bool true ∧ Inv (done ++ pf n (d + 1) p) h' ∧ Fil n L B N Y F Yl p h') ?_
    have K0 := K
    obtain ⟨⟨l1, l2, l3, l4, l5⟩, ⟨n1, n2, n3', n4, n5, n6, n7⟩, gl, gb, gn, gy, gf⟩ := K
    refine ok_go 0 ?_
    refine sy_load 0 (r := loadT Tryz.prog h 29 (ptr L 0)) (h' := h) (by kernel_rfl) (load1 (by kernel_rfl) gl rfl) ?_
    refine ok_go 1 ?_
    refine sy_load 0 (r := loadT Tryz.prog h 3 (ptr N 0)) (h' := h) (by kernel_rfl) (load1 agI gn rfl) ?_
    refine ok_go 1 ?_
    refine sy_no 0 (b := Int.ofNat p.length == Int.ofNat n) (by kernel_rfl) (by rw [eq_int]; exact beq_eq_false_iff_ne.2 (by omega)) ?_
    refine ok_go 0 ?_
    refine sy_load 0 (r := loadT Tryz.prog h 3 (ptr N 0)) (h' := h) (by kernel_rfl) (load1 agI gn rfl) ?_
    refine ok_go 0 ?_
    refine sy_loop 0 lf h (α := Nat) (fun i => [(0, ptr L 0), (1, ptr N 0), (2, ptr Y 0), (3, ptr F 0), (13, J n), (14, J i)]) (fun i g => i ≤ n ∧ Inv (done ++ (List.range i).flatMap fun i => if p.contains i = true then [] else pf n d (p ++ [i])) g ∧ Fil n L B N Y F Yl p g) (fun i _ => n - i) 0 (by kernel_rfl) (by kernel_rfl) ⟨by kernel_rfl, by kernel_rfl, by kernel_rfl, by kernel_rfl, by kernel_rfl, by kernel_rfl, trivial⟩ (show n - 0 < lf by omega) ⟨Nat.zero_le _, by rw [List.range_zero, List.flatMap_nil, List.append_nil]; exact hI, K0⟩ ?_
    clear gl gb gn gy gf K0 hI l1 l2 l3 l4 l5
    rintro m1 i f1 g ⟨hi, hI, K⟩ ih
    have K0 := K
    obtain ⟨⟨l1, l2, l3, l4, l5⟩, -, gl, ⟨r, r1, r2⟩, gn, gy, gf⟩ := K
    refine ok_go 1 ?_
    refine sy_test 0 (decide (Int.ofNat i < Int.ofNat n)) (by kernel_rfl) ?_ ?_
    · intro hlt
      have hlt := ok_nat hlt
      have hwi : IntKind.wrap .i64 (Int.ofNat (i + 1)) = Int.ofNat (i + 1) := wrap_nat (by omega)
      have R : Rds g (.slice (some ⟨B, 0, none⟩) p.length (2 * n)) (p.map J) := .inr ⟨B, 0, 2 * n, by rw [List.length_map], fun _ => ⟨l2, by
        unfold loadN
        rw [r2]
        exact takeN_left _ _⟩⟩
      have ec := contains_of p i lf (m + d + 1) hlf (by omega) (some ⟨B, 0, none⟩) (2 * n) g R
      refine ok_go 0 ?_
      refine sy_load 0 (r := loadT Tryz.prog g 29 (ptr L 0)) (h' := g) (by kernel_rfl) (load1 (by kernel_rfl) gl rfl) ?_
      refine ok_go 0 ?_
      refine sy_call 0 (by kernel_rfl) ec ?_
      refine ok_go 0 ?_
      refine sy_test 0 (p.contains i) (by kernel_rfl) ?_ ?_
      · intro hc
        refine ok_go 1 ?_
        exact sy_next 0 _ g (by kernel_rfl) (by kernel_rfl) (ih (i + 1) _ g ⟨hlt, by rw [List.range_succ, List.flatMap_append, List.flatMap_singleton, if_pos hc, List.append_nil]; exact hI, K0⟩ (show n - (i + 1) < n - i by omega) ⟨by kernel_rfl, by kernel_rfl, by kernel_rfl, by kernel_rfl, by kernel_rfl, (by kernel_rfl : _ = Value.int .i64 (IntKind.wrap .i64 (Int.ofNat (i + 1)))).trans (by rw [hwi]), trivial⟩)
      · intro hc
        obtain ⟨a, r', rfl⟩ : ∃ a r', r = a :: r' := by
          cases r with
          | nil => simp at r1; omega
          | cons a r' => exact ⟨a, r', rfl⟩
        have hlen : (p.map J ++ a :: r').length = n := by rw [List.length_append, List.length_map]; exact r1
        have hset : (p.map J ++ a :: r').set p.length (J i) = (p ++ [i]).map J ++ r' := by
          rw [show p.length = (p.map J).length from (List.length_map ..).symm, List.set_append_right _ _ (Nat.le_refl _), Nat.sub_self, List.set_cons_zero, List.map_append, List.append_assoc]
          rfl
        let g1 : Hp := g.new (.cells [J i] 3 false)
        let g2 : Hp := g1.put B (.cells ((p ++ [i]).map J ++ r') 3 false)
        let g3 : Hp := g2.put L (.cells [.slice (some ⟨B, 0, none⟩) (p.length + 1) (2 * n)] 29 false)
        have o3 : ∀ j, j < g.next → j ≠ L → j ≠ B → g3.get j = g.get j := fun j hj h1 h2 => by
          rw [show g3.get j = g2.get j from Hp.get_put_ne h1, show g2.get j = g1.get j from Hp.get_put_ne h2]
          exact Hp.get_new_ne (by omega)
        have n3 : g3.next = g.next + 1 := rfl
        have gl1 : g1.get L = some (.cells [.slice (some ⟨B, 0, none⟩) p.length (2 * n)] 29 false) := (Hp.get_new_ne (by omega)).trans gl
        have gb1 : g1.get B = some (.cells (p.map J ++ a :: r') 3 false) := (Hp.get_new_ne (by omega)).trans r2
        have e2 : appendOp Tryz.prog g1 29 (.slice (some ⟨B, 0, none⟩) p.length (2 * n)) (.slice (some ⟨g.next, 0, none⟩) 1 2) = some (.slice (some ⟨B, 0, none⟩) (p.length + 1) (2 * n), g2) := by
          rw [append_in (v := J i) rfl (by omega) (by omega) hlen gb1 (get_new g _), hset]
        have gl2 : g2.get L = some (.cells [.slice (some ⟨B, 0, none⟩) p.length (2 * n)] 29 false) := (Hp.get_put_ne n1).trans gl1
        have gl3 : g3.get L = some (.cells [.slice (some ⟨B, 0, none⟩) (p.length + 1) (2 * n)] 29 false) := get_put _ _ _
        have gb3 : g3.get B = some (.cells ((p ++ [i]).map J ++ r') 3 false) := (Hp.get_put_ne (Ne.symm n1)).trans (get_put _ _ _)
        have gf3 : g3.get F = some (.cells [.func (.func 77) #[] #[ptr L 0, ptr N 0, ptr Y 0, ptr F 0]] 52 false) := by rw [o3 _ l5 (Ne.symm n4) (Ne.symm n7)]; exact gf
        have K3 : Fil n L B N Y F Yl (p ++ [i]) g3 := ⟨⟨by omega, by omega, by omega, by omega, by omega⟩, ⟨n1, n2, n3', n4, n5, n6, n7⟩, by rw [List.length_append]; exact gl3, ⟨r', by rw [List.length_append]; simp at r1 ⊢; omega, gb3⟩, by rw [o3 _ l3 (Ne.symm n2) (Ne.symm n5)]; exact gn, by rw [o3 _ l4 (Ne.symm n3') (Ne.symm n6)]; exact gy, gf3⟩
        obtain ⟨_, g4, e4, rfl, I4, K4⟩ := rc (p ++ [i]) _ g3 (by rw [List.length_append]; simp; omega) (fun x hx => (List.mem_append.1 hx).elim (hp' x) fun h => by rw [List.mem_singleton.1 h]; exact hlt) (st _ _ g3 hI (by omega) o3) K3
        obtain ⟨⟨m1', m2', m3', m4', m5'⟩, -, gl4, ⟨r4, r41, r42⟩, gn4, gy4, gf4⟩ := K4
        rw [List.length_append] at gl4
        let g5 : Hp := g4.put L (.cells [.slice (some ⟨B, 0, none⟩) p.length (2 * n)] 29 false)
        have o5 : ∀ j, j ≠ L → g5.get j = g4.get j := fun j hj => Hp.get_put_ne hj
        have K5 : Fil n L B N Y F Yl p g5 := ⟨⟨m1', m2', m3', m4', m5'⟩, ⟨n1, n2, n3', n4, n5, n6, n7⟩, get_put _ _ _, ⟨J i :: r4, by rw [List.length_append] at r41; simp at r41 ⊢; omega, by rw [o5 _ (Ne.symm n1), r42, List.map_append, List.append_assoc]; rfl⟩, by rw [o5 _ (Ne.symm n2)]; exact gn4, by rw [o5 _ (Ne.symm n3')]; exact gy4, by rw [o5 _ (Ne.symm n4)]; exact gf4⟩
        refine ok_go 0 ?_
        refine sy_load 0 (r := loadT Tryz.prog g 29 (ptr L 0)) (h' := g) (by kernel_rfl) (load1 (by kernel_rfl) gl rfl) ?_
        refine ok_go 1 ?_
        refine sy_call 0 (r := appendOp Tryz.prog g1 29 (.slice (some ⟨B, 0, none⟩) p.length (2 * n)) (.slice (some ⟨g.next, 0, none⟩) 1 2)) (v := .slice (some ⟨B, 0, none⟩) (p.length + 1) (2 * n)) (h' := g2) (by kernel_rfl) e2 ?_
        refine ok_go 0 ?_
        refine sy_store 0 (r := storeT Tryz.prog g2 29 (ptr L 0) (.slice (some ⟨B, 0, none⟩) (p.length + 1) (2 * n))) (h' := g3) (by kernel_rfl) (store1 (by kernel_rfl) rfl gl2 (show 0 < 1 by omega)) ?_
        refine ok_go 0 ?_
        refine sy_load 0 (r := loadT Tryz.prog g3 52 (ptr F 0)) (h' := g3) (by kernel_rfl) (load1 (by kernel_rfl) gf3 rfl) ?_
        refine ok_go 0 ?_
        refine sy_call 0 (by kernel_rfl) e4 ?_
        have hw1 : IntKind.i64.wrap (Int.ofNat (p.length + 1) - 1) = Int.ofNat p.length := by
          rw [show Int.ofNat (p.length + 1) - 1 = Int.ofNat p.length from by show ((p.length + 1 : Nat) : Int) - 1 = (p.length : Int); omega]
          exact wrap_nat (by omega)
        have hl4 : p.length + [i].length = p.length + 1 := rfl
        rw [hl4] at gl4
        refine ok_go 2 ?_
        refine sy_load 0 (r := loadT Tryz.prog g4 29 (ptr L 0)) (h' := g4) (by kernel_rfl) (load1 (by kernel_rfl) gl4 rfl) ?_
        refine ok_go 0 ?_
        refine sy_load 0 (r := loadT Tryz.prog g4 29 (ptr L 0)) (h' := g4) (by kernel_rfl) (load1 (by kernel_rfl) gl4 rfl) ?_
        refine ok_go 2 ?_
        refine sy_load 0 (r := sliceOp Tryz.prog 29 (.slice (some ⟨B, 0, none⟩) (p.length + 1) (2 * n)) none (some (.int .i64 (IntKind.i64.wrap (Int.ofNat (p.length + 1) - 1)))) none) (h' := g4) (by kernel_rfl) (cut_in (by omega) _ hw1) ?_
        refine ok_go 0 ?_
        refine sy_store 0 (r := storeT Tryz.prog g4 29 (ptr L 0) (.slice (some ⟨B, 0, none⟩) p.length (2 * n))) (h' := g5) (by kernel_rfl) (store1 (by kernel_rfl) rfl gl4 (show 0 < 1 by omega)) ?_
        refine ok_go 1 ?_
        exact sy_next 0 _ g5 (by kernel_rfl) (by kernel_rfl) (ih (i + 1) _ g5 ⟨hlt, by
          rw [List.range_succ, List.flatMap_append, List.flatMap_singleton, if_neg (by rw [hc]; decide), ← List.append_assoc]
          exact st _ g4 g5 I4 (Nat.le_refl _) fun j _ hj _ => o5 j hj, K5⟩ (show n - (i + 1) < n - i by omega) ⟨by kernel_rfl, by kernel_rfl, by kernel_rfl, by kernel_rfl, by kernel_rfl, (by kernel_rfl : _ = Value.int .i64 (IntKind.wrap .i64 (Int.ofNat (i + 1)))).trans (by rw [hwi]), trivial⟩)
    · intro hlt
      have hlt := no_nat hlt
      obtain rfl : i = n := by omega
      refine ok_go 0 ?_
      exact sy_done 0 (v := .bool true) (h := g) (by kernel_rfl) ⟨rfl, hI, K0⟩
theorem makeSl2 {P : Program} {h : Hp} {t e : TypeId} {len cap : Nat} {z : Value} {inf : TypeInfo} {kd kd' : IntKind} (hu : P.underlying t = some (.slice e)) (hz : zeroOf P e = some z) (hi : P.info? e = some inf) (hb : Nat.ble inf.bytes 4096 = true)
    (hs : Nat.beq z.cells.size inf.size = true) (hsc : z.cells.toList.all scalar = true) (hl : len ≤ cap) (hn : cap < 16777216) :
    makeSliceOp P h t (.int kd (Int.ofNat len)) (.int kd' (Int.ofNat cap)) = some (.slice (some ⟨h.next, 0, none⟩) len (2 * cap), h.new (.cells (zeros z.cells.toList cap) e false)) := by
  have h1 : Nat.ble len cap = true := Nat.ble_eq_true_of_le hl
  have h2 : Nat.ble cap most = true := Nat.ble_eq_true_of_le (by unfold most; omega)
  simp only [makeSliceOp, hu, natOf, hz, hi, h1, h2, hb, hs, hsc]
theorem orders_run (n : Nat) (hn : n ≤ 4) (lf m : Nat) (hlf : 300 ≤ lf) (N Yl : Nat) (h : Hp) (hN : N < h.next) (gN : h.get N = some (.cells [J n] 3 false)) (Inv : Nat → Nat → List (List Nat) → Hp → Prop)
    (st : ∀ L B done g g', h.next ≤ L → h.next ≤ B → Inv L B done g → g.next ≤ g'.next → (∀ j, j < g.next → j ≠ L → j ≠ B → g'.get j = g.get j) → Inv L B done g')
    (hy : ∀ L B Y F done p g, h.next ≤ L → h.next ≤ B → h.next ≤ Y → h.next ≤ F → Inv L B done g → Fil n L B N Y F Yl p g → p.length = n → (∀ x ∈ p, x < n) → ∃ g', evInv Tryz.prog orc lf (m + 2) (.yield Yl [.slice (some ⟨B, 0, none⟩) n (2 * n)]) g = some (.bool true, g') ∧ Inv L B (done ++ [p]) g' ∧ Fil n L B N Y F Yl p g')
    (h0 : ∀ L B g, h.next ≤ L → h.next ≤ B → h.Ext g → Inv L B [] g) :
    ∃ v h', Ev lf (m + n + 4) 76 [.func (.yield Yl) #[] #[], ptr N 0] h = some (v, h') ∧ ∃ L B, h.next ≤ L ∧ h.next ≤ B ∧ Inv L B (pf n n []) h' := by
  refine fnS_ok (n := m + n + 3) (Q := fun _ h' => ∃ L B, h.next ≤ L ∧ h.next ≤ B ∧ Inv L B (pf n n []) h') ?_
  refine ok_go 1 ?_
  refine sy_load 0 (r := loadT Tryz.prog (h.new (.cells [.func (.yield Yl) #[] #[]] 116 false)) 3 (ptr N 0)) (h' := h.new (.cells [.func (.yield Yl) #[] #[]] 116 false)) (by kernel_rfl) (load1 agI ((Hp.get_new_ne (by omega)).trans gN) rfl) ?_
  have uI : Tryz.prog.underlying 29 = some (.slice 3) := slI.u
  let h1 : Hp := h.new (.cells [.func (.yield Yl) #[] #[]] 116 false)
  let h2 : Hp := h1.new (.cells (zeros [J 0] n) 3 false)
  let h3 : Hp := h2.new (.cells [.slice none 0 0] 29 false)
  let h4 : Hp := h3.put (h.next + 2) (.cells [.slice (some ⟨h.next + 1, 0, none⟩) 0 (2 * n)] 29 false)
  have hmk : makeSliceOp Tryz.prog h1 29 (J 0) (J n) = some (.slice (some ⟨h.next + 1, 0, none⟩) 0 (2 * n), h2) :=
    makeSl2 (z := J 0) (inf := (Tryz.prog.info? 3).get!) slI.u (by kernel_rfl) (by kernel_rfl) (by kernel_rfl) (by kernel_rfl) (by kernel_rfl) (Nat.zero_le _) (by omega)
  refine ok_go 0 ?_
  refine sy_call 0 (r := makeSliceOp Tryz.prog h1 29 (J 0) (J n)) (v := .slice (some ⟨h.next + 1, 0, none⟩) 0 (2 * n)) (h' := h2) (by kernel_rfl) hmk ?_
  refine ok_go 1 ?_
  refine sy_store 0 (r := storeT Tryz.prog h3 29 (ptr (h.next + 2) 0) (.slice (some ⟨h.next + 1, 0, none⟩) 0 (2 * n))) (h' := h4) (by kernel_rfl) (store1 (by kernel_rfl) rfl (get_new h2 _) (show 0 < 1 by omega)) ?_
  let h5 : Hp := h4.new (.cells [.nilFunc] 52 false)
  let h6 : Hp := h5.put (h.next + 3) (.cells [.func (.func 77) #[] #[ptr (h.next + 2) 0, ptr N 0, ptr h.next 0, ptr (h.next + 3) 0]] 52 false)
  have n6 : h6.next = h.next + 4 := rfl
  refine ok_go 2 ?_
  refine sy_store 0 (r := storeT Tryz.prog h5 52 (ptr (h.next + 3) 0) (.func (.func 77) #[] #[ptr (h.next + 2) 0, ptr N 0, ptr h.next 0, ptr (h.next + 3) 0])) (h' := h6) (by kernel_rfl) (store1 (by kernel_rfl) rfl (get_new h4 _) (show 0 < 1 by omega)) ?_
  have g6 : ∀ j, j < h.next → h6.get j = h.get j := fun j hj => by
    simp only [h6, h5, h4, h3, h2, h1, gn, gp, nn, np]
    repeat (first | rw [if_pos (by omega)] | rw [if_neg (by omega)])
  have gB : h6.get (h.next + 1) = some (.cells (zeros [J 0] n) 3 false) := by
    simp only [h6, h5, h4, h3, h2, h1, gn, gp, nn, np, if_true]
    repeat (first | rw [if_pos (by omega)] | rw [if_neg (by omega)])
  have gY : h6.get h.next = some (.cells [.func (.yield Yl) #[] #[]] 116 false) := by
    simp only [h6, h5, h4, h3, h2, h1, gn, gp, nn, np, if_true]
    repeat (first | rw [if_pos (by omega)] | rw [if_neg (by omega)])
  have gL : h6.get (h.next + 2) = some (.cells [.slice (some ⟨h.next + 1, 0, none⟩) 0 (2 * n)] 29 false) := by
    simp only [h6, h5, h4, h3, h2, h1, gn, gp, nn, np, if_true]
    repeat (first | rw [if_pos (by omega)] | rw [if_neg (by omega)])
  have gF : h6.get (h.next + 3) = some (.cells [.func (.func 77) #[] #[ptr (h.next + 2) 0, ptr N 0, ptr h.next 0, ptr (h.next + 3) 0]] 52 false) := get_put _ _ _
  have K : Fil n (h.next + 2) (h.next + 1) N h.next (h.next + 3) Yl [] h6 := ⟨by omega, by omega, gL, ⟨zeros [J 0] n, by rcases (by omega : n = 0 ∨ n = 1 ∨ n = 2 ∨ n = 3 ∨ n = 4) with rfl | rfl | rfl | rfl | rfl <;> rfl, gB⟩, by rw [g6 _ hN]; exact gN, gY, gF⟩
  obtain ⟨_, h7, e7, rfl, I7, K7⟩ := fill_of n hn lf m hlf (h.next + 2) (h.next + 1) N h.next (h.next + 3) Yl (Inv (h.next + 2) (h.next + 1)) (fun done g g' => st _ _ done g g' (by omega) (by omega))
    (fun done p g hI K hp hp' => hy _ _ _ _ done p g (by omega) (by omega) (by omega) (by omega) hI K hp hp') n [] [] h6 (by simp) (fun x hx => absurd hx List.not_mem_nil) (h0 _ _ h6 (by omega) (by omega) ⟨by omega, g6⟩) K
  refine ok_go 0 ?_
  refine sy_load 0 (r := loadT Tryz.prog h6 52 (ptr (h.next + 3) 0)) (h' := h6) (by kernel_rfl) (load1 (by kernel_rfl) gF rfl) ?_
  refine ok_go 0 ?_
  refine sy_call 0 (by kernel_rfl) e7 ?_
  refine ok_go 0 ?_
  exact sy_done 0 (v := .tuple #[]) (h := h7) (by kernel_rfl) ⟨h.next + 2, h.next + 1, by omega, by omega, I7⟩
/-- Which of two tables is the less one, from i on. -/
def lxc (a b : Nat → Bool) : Nat → Nat → Int
  | 0, _ => 0
  | d + 1, i => if a i = b i then lxc a b d (i + 1) else if a i = true then 1 else -1
def bd (a b : Bool) : Int := (if a = true then 1 else 0) - (if b = true then 1 else 0)
theorem less2_of (a b : Bool) (m : Nat) (h : Hp) : Ev 100000 (m + 12) 52 [.bool a, .bool b] h = some (I (bd a b), h) := by
  cases a <;> cases b <;> kernel_rfl
theorem comp_of (lf m N : Nat) (hlf : 300 ≤ lf) (hN : N ≤ 16) (b1 c1 b2 c2 : Nat) (v w : Nat → Bool) (h : Hp) (A : ArB b1 N v h) (B : ArB b2 N w h) (le : ∀ a b h, Ev lf m 52 [.bool a, .bool b] h = some (I (bd a b), h)) :
    Ev lf (m + 1) 51 [.slice (some ⟨b1, 0, none⟩) N c1, .slice (some ⟨b2, 0, none⟩) N c2, .func (.func 52) #[] #[]] h = some (I (lxc v w N 0), h) := by
  refine fn_eq ?_
  refine ok_go 1 ?_
  refine sy_loop 0 lf h (α := Nat) (fun i => [(11, .slice (some ⟨b1, 0, none⟩) N c1), (1, .slice (some ⟨b2, 0, none⟩) N c2), (2, .func (.func 52) #[] #[]), (0, .slice (some ⟨b1, 0, none⟩) N c1), (12, J N), (13, J i)]) (fun i g => i ≤ N ∧ g = h ∧ lxc v w N 0 = lxc v w (N - i) i) (fun i _ => N - i) 0 (by kernel_rfl) (by kernel_rfl) ⟨by kernel_rfl, by kernel_rfl, by kernel_rfl, by kernel_rfl, by kernel_rfl, by kernel_rfl, trivial⟩ (show N - 0 < lf by omega) ⟨Nat.zero_le _, rfl, rfl⟩ ?_
  rintro m1 i f1 g ⟨hi, rfl, hx⟩ ih
  refine ok_go 1 ?_
  refine sy_test 0 (decide (Int.ofNat i < Int.ofNat N)) (by kernel_rfl) ?_ ?_
  · intro hlt
    have hlt := ok_nat hlt
    have hwi : IntKind.wrap .i64 (Int.ofNat (i + 1)) = Int.ofNat (i + 1) := wrap_nat (by omega)
    rw [show N - i = (N - (i + 1)) + 1 by omega, lxc] at hx
    refine ok_go 0 ?_
    refine sy_load 0 (r := indexAddrOp Tryz.prog 22 (.slice (some ⟨b1, 0, none⟩) N c1) (J i)) (h' := g) (by kernel_rfl) (idxB hlt) ?_
    refine ok_go 0 ?_
    refine sy_load 0 (r := loadT Tryz.prog g 4 (ptr b1 i)) (h' := g) (by kernel_rfl) (A.read hlt) ?_
    refine ok_go 2 ?_
    refine sy_no 0 (b := decide (Int.ofNat i ≥ Int.ofNat N)) (by kernel_rfl) (decide_eq_false (by show ¬ ((N : Int) ≤ (i : Int)); omega)) ?_
    refine ok_go 0 ?_
    refine sy_load 0 (r := indexAddrOp Tryz.prog 22 (.slice (some ⟨b2, 0, none⟩) N c2) (J i)) (h' := g) (by kernel_rfl) (idxB hlt) ?_
    refine ok_go 0 ?_
    refine sy_load 0 (r := loadT Tryz.prog g 4 (ptr b2 i)) (h' := g) (by kernel_rfl) (B.read hlt) ?_
    refine ok_go 0 ?_
    refine sy_call 0 (by kernel_rfl) (le (v i) (w i) g) ?_
    refine ok_go 1 ?_
    refine sy_test 0 (bd (v i) (w i) != 0) (by kernel_rfl) ?_ ?_
    · intro hc
      have hv : lxc v w N 0 = bd (v i) (w i) := by
        rw [hx]
        revert hc
        cases v i <;> cases w i <;> intro hc <;> first | rfl | exact absurd hc (by decide)
      refine ok_go 0 ?_
      exact sy_done 0 (v := I (bd (v i) (w i))) (h := g) (by kernel_rfl) ⟨by rw [hv], rfl⟩
    · intro hc
      have hv : v i = w i := by
        revert hc
        cases v i <;> cases w i <;> intro hc <;> first | rfl | exact absurd hc (by decide)
      rw [if_pos hv] at hx
      refine ok_go 1 ?_
      exact sy_next 0 _ g (by kernel_rfl) (by kernel_rfl) (ih (i + 1) _ g ⟨hlt, rfl, hx⟩ (show N - (i + 1) < N - i by omega) ⟨by kernel_rfl, by kernel_rfl, by kernel_rfl, by kernel_rfl, by kernel_rfl, (by kernel_rfl : _ = Value.int .i64 (IntKind.wrap .i64 (Int.ofNat (i + 1)))).trans (by rw [hwi]), trivial⟩)
  · intro hlt
    have hlt := no_nat hlt
    obtain rfl : i = N := by omega
    rw [Nat.sub_self] at hx
    refine ok_go 3 ?_
    refine sy_no 0 (b := decide (Int.ofNat i < Int.ofNat i)) (by kernel_rfl) (decide_eq_false (Int.lt_irrefl _)) ?_
    refine ok_go 0 ?_
    exact sy_done 0 (v := I 0) (h := g) (by kernel_rfl) ⟨by rw [hx]; rfl, rfl⟩
theorem few4_of (n : Nat) (hn : n ≤ 4) (lf m : Nat) (a : Option Addr) (c : Nat) (h : Hp) (ck : Ev lf m 5 [.slice a (2 ^ n) c] h = some (J 0, h)) : Ev lf (m + 1) 41 [.slice a (2 ^ n) c, J 4] h = some (J 0, h) := by
  have hp16 : 2 ^ n ≤ 16 := Nat.pow_le_pow_right (n := 2) (by decide) hn
  refine fn_eq ?_
  generalize hN : 2 ^ n = N at *
  refine ok_go 0 ?_
  refine sy_call 0 (by kernel_rfl) ck ?_
  refine ok_go 6 ?_
  refine sy_no 0 (b := decide (Int.ofNat N > 16)) (by kernel_rfl) (decide_eq_false (by show ¬ ((16 : Int) < (N : Int)); omega)) ?_
  refine ok_go 0 ?_
  exact sy_done 0 (v := J 0) (h := h) (by kernel_rfl) ⟨rfl, rfl⟩
/-- Where an input goes. -/
def yb (p : List Nat) (z : Nat) : Nat → Nat
  | 0 => 0
  | k + 1 => if z.testBit k = true then yb p z k ||| 2 ^ p.getD k 0 else yb p z k
/-- A table turned. -/
def tw (f : Nat → Bool) (p : List Nat) (m : Nat) (o : Bool) : Nat → Bool := fun x => f (yb p (x ^^^ m) p.length) != o
/-- The less of two tables. -/
def upd2 (N : Nat) (w u : Nat → Bool) : Nat → Bool := if lxc u w N 0 < 0 then u else w
def rk (f : Nat → Bool) (N : Nat) (p : List Nat) (m : Nat) : Nat → (Nat → Bool) → Nat → Bool
  | 0, w => w
  | k + 1, w => upd2 N (rk f N p m k w) (tw f p m (Nat.beq k 1))
def rd (f : Nat → Bool) (N : Nat) (p : List Nat) : Nat → (Nat → Bool) → Nat → Bool
  | 0, w => w
  | m + 1, w => rk f N p m 2 (rd f N p m w)
def best (f : Nat → Bool) (N : Nat) (ps : List (List Nat)) : Nat → Bool := ps.foldl (fun w p => rd f N p N w) f
/-- The first twin, by the program. -/
def twF (f : Nat → Bool) (n : Nat) : Nat → Bool := best f (2 ^ n) (pf n n [])
theorem perm_at {p : List Nat} {rr : List Value} {i : Nat} (h : i < p.length) : (p.map J ++ rr)[i]? = some (J (p.getD i 0)) := by
  rw [List.getElem?_append_left (by rw [List.length_map]; exact h), List.getElem?_map, List.getElem?_eq_getElem h]
  simp [List.getElem?_eq_getElem h]
theorem min_u (i : Nat) (hi : i < 64) : min (IntKind.u64.wrap (Int.ofNat i)).toNat IntKind.i64.bits = i := by
  rw [show IntKind.u64.wrap (Int.ofNat i) = Int.ofNat i from u64_nat (by omega)]
  show min i 64 = i
  omega
theorem bit_val (z i : Nat) : z / 2 ^ i &&& 1 = if z.testBit i = true then 1 else 0 := by
  rw [Nat.and_one_is_mod, Nat.testBit_eq_decide_div_mod_eq]
  by_cases h : z / 2 ^ i % 2 = 1
  · simp [h]
  · have : z / 2 ^ i % 2 = 0 := by omega
    simp [this]
theorem ybV {y x m i t : Nat} (hy : y < 16) (hx : x < 16) (hm : m < 16) (hi : i < 4) (ht : t < 4) :
    orI (Int.ofNat y) (IntKind.i64.wrap (andI ((xorI (Int.ofNat x) (Int.ofNat m)).fdiv (2 ^ min (IntKind.u64.wrap (Int.ofNat i)).toNat IntKind.i64.bits)) 1 * 2 ^ min (IntKind.u64.wrap (Int.ofNat t)).toNat IntKind.i64.bits)) = Int.ofNat (if (x ^^^ m).testBit i = true then y ||| 2 ^ t else y) := by
  have ht2 : 2 ^ t ≤ 2 ^ 3 := Nat.pow_le_pow_right (by decide) (by omega)
  have hz : x ^^^ m < 16 := Nat.xor_lt_two_pow (n := 4) hx hm
  have hd : (x ^^^ m) / 2 ^ i ≤ x ^^^ m := Nat.div_le_self _ _
  rw [min_u i (by omega), min_u t (by omega), xor_nat (by omega) (by omega)]
  rw [show (Int.ofNat (x ^^^ m)).fdiv (2 ^ i) = Int.ofNat ((x ^^^ m) / 2 ^ i) from shr_nat _ _]
  rw [show (1 : Int) = Int.ofNat 1 from rfl, and_nat (by omega), bit_val]
  split
  · rw [show IntKind.i64.wrap (Int.ofNat 1 * 2 ^ t) = Int.ofNat (1 * 2 ^ t) from Nim.shl_nat (by omega), Nat.one_mul, or_nat (by omega) (by omega)]
  · rw [show IntKind.i64.wrap (Int.ofNat 0 * 2 ^ t) = Int.ofNat (0 * 2 ^ t) from Nim.shl_nat (by omega), Nat.zero_mul, or_nat (by omega) (by omega), Nat.or_zero]
theorem getD_lt {p : List Nat} {n k : Nat} (hp : ∀ x ∈ p, x < n) (hk : k < p.length) : p.getD k 0 < n := by
  rw [List.getD_eq_getElem?_getD, List.getElem?_eq_getElem hk]
  exact hp _ (List.getElem_mem hk)
theorem yb_lt {p : List Nat} {n : Nat} (hp : ∀ x ∈ p, x < n) (z : Nat) : ∀ k, k ≤ p.length → yb p z k < 2 ^ n
  | 0, _ => Nat.two_pow_pos n
  | k + 1, hk => by
    have ih := yb_lt hp z k (by omega)
    rw [yb]
    split
    · exact or_small ih (Nat.pow_lt_pow_right (by decide) (getD_lt hp hk))
    · exact ih
theorem twin_of (f : Nat → Bool) (n : Nat) (hn : n ≤ 4) (lf m : Nat) (hlf : 300 ≤ lf) (b0 c : Nat) (h : Hp) (A : ArB b0 (2 ^ n) f h)
    (fe : ∀ h, Ev lf (m + n + 4) 41 [.slice (some ⟨b0, 0, none⟩) (2 ^ n) c, J 4] h = some (J 0, h))
    (sz : ∀ h, Ev lf (m + n + 4) 28 [J (2 ^ n)] h = some (.tuple #[J n, .bool true], h))
    (cl : ∀ v b c k h, ArB b (2 ^ n) v h → ∃ x h', Ev lf (k + 1) 29 [.slice (some ⟨b, 0, none⟩) (2 ^ n) c] h = some (x, h') ∧ ∃ b', x = .slice (some ⟨b', 0, none⟩) (2 ^ n) (2 * 2 ^ n + 1) ∧ h.next ≤ b' ∧ h.Ext h' ∧ ArB b' (2 ^ n) v h')
    (cp : ∀ b1 c1 b2 c2 v w h, ArB b1 (2 ^ n) v h → ArB b2 (2 ^ n) w h → Ev lf (m + 1) 51 [.slice (some ⟨b1, 0, none⟩) (2 ^ n) c1, .slice (some ⟨b2, 0, none⟩) (2 ^ n) c2, .func (.func 52) #[] #[]] h = some (I (lxc v w (2 ^ n) 0), h)) :
    ∃ v h', Ev lf (m + n + 5) 20 [.slice (some ⟨b0, 0, none⟩) (2 ^ n) c] h = some (v, h') ∧ ∃ b cb, v = .tuple #[.slice (some ⟨b, 0, none⟩) (2 ^ n) cb, J 0] ∧ h.next ≤ b ∧ h.Ext h' ∧ ArB b (2 ^ n) (twF f n) h' := by
  have hp16 : 2 ^ n ≤ 16 := Nat.pow_le_pow_right (n := 2) (by decide) hn
  have hp0 := Nat.two_pow_pos n
  refine fnS_ok (Q := fun v h' => ∃ b cb, v = .tuple #[.slice (some ⟨b, 0, none⟩) (2 ^ n) cb, J 0] ∧ h.next ≤ b ∧ h.Ext h' ∧ ArB b (2 ^ n) (twF f n) h') ?_
  let SL : Value := .slice (some ⟨b0, 0, none⟩) (2 ^ n) c
  let h1 : Hp := h.new (.cells [SL] 22 false)
  have X1 : h.Ext h1 := Hp.Ext.new h _
  have g1 : h1.get h.next = some (.cells [SL] 22 false) := get_new h _
  refine ok_go 1 ?_
  refine sy_load 0 (r := loadT Tryz.prog h1 22 (ptr h.next 0)) (h' := h1) (v := SL) (by kernel_rfl) (load1 (by kernel_rfl) g1 rfl) ?_
  refine ok_go 0 ?_
  refine sy_call 0 (by kernel_rfl) (fe h1) ?_
  refine ok_go 2 ?_
  refine sy_load 0 (r := loadT Tryz.prog h1 22 (ptr h.next 0)) (h' := h1) (v := SL) (by kernel_rfl) (load1 (by kernel_rfl) g1 rfl) ?_
  refine ok_go 1 ?_
  refine sy_call 0 (by kernel_rfl) (sz h1) ?_
  refine ok_go 2 ?_
  refine sy_load 0 (r := loadT Tryz.prog h1 22 (ptr h.next 0)) (h' := h1) (v := SL) (by kernel_rfl) (load1 (by kernel_rfl) g1 rfl) ?_
  obtain ⟨_, h2, e2, bb, rfl, hbb, X2, B2⟩ := cl f b0 c (m + n + 3) h1 (A.ext X1)
  have n12 := X2.next
  have n1 : h1.next = h.next + 1 := rfl
  refine ok_go 0 ?_
  refine sy_call 0 (by kernel_rfl) e2 ?_
  let h3 : Hp := (h2.new (.cells [.slice none 0 0] 22 false)).put h2.next (.cells [.slice (some ⟨bb, 0, none⟩) (2 ^ n) (2 * 2 ^ n + 1)] 22 false)
  refine ok_go 1 ?_
  refine sy_store 0 (r := storeT Tryz.prog (h2.new (.cells [.slice none 0 0] 22 false)) 22 (ptr h2.next 0) (.slice (some ⟨bb, 0, none⟩) (2 ^ n) (2 * 2 ^ n + 1))) (h' := h3) (by kernel_rfl) (store1 (by kernel_rfl) rfl (get_new h2 _) (show 0 < 1 by omega)) ?_
  have n3 : h3.next = h2.next + 1 := rfl
  have o3 : ∀ j, j < h2.next → h3.get j = h2.get j := fun j hj => by
    simp only [h3, gn, gp]
    repeat (first | rw [if_pos (by omega)] | rw [if_neg (by omega)])
  have g3 : h3.get h.next = some (.cells [SL] 22 false) := by rw [o3 _ (by omega), X2.get _ (by omega)]; exact g1
  let OS : Value := .slice (some ⟨h2.next + 1, 0, none⟩) (2 ^ n) (2 * 2 ^ n)
  let h4 : Hp := h3.new (.cells (zeros [.bool false] (2 ^ n)) 4 false)
  let h5 : Hp := (h4.new (.cells [.slice none 0 0] 22 false)).put (h2.next + 2) (.cells [OS] 22 false)
  let h6 : Hp := h5.new (.cells [J n] 3 false)
  have n6 : h6.next = h2.next + 4 := rfl
  refine ok_go 0 ?_
  refine sy_load 0 (r := loadT Tryz.prog h3 22 (ptr h.next 0)) (h' := h3) (v := SL) (by kernel_rfl) (load1 (by kernel_rfl) g3 rfl) ?_
  refine ok_go 1 ?_
  refine sy_call 0 (r := makeSliceOp Tryz.prog h3 22 (J (2 ^ n)) (J (2 ^ n))) (v := OS) (h' := h4) (by kernel_rfl) (makeSl (z := .bool false) (inf := (Tryz.prog.info? 4).get!) uB (by kernel_rfl) (by kernel_rfl) (by kernel_rfl) (by kernel_rfl) (by kernel_rfl) (by omega)) ?_
  refine ok_go 1 ?_
  refine sy_store 0 (r := storeT Tryz.prog (h4.new (.cells [.slice none 0 0] 22 false)) 22 (ptr (h2.next + 2) 0) OS) (h' := h5) (by kernel_rfl) (store1 (by kernel_rfl) rfl (get_new h4 _) (show 0 < 1 by omega)) ?_
  refine ok_go 1 ?_
  refine sy_range 0 (callF := evInv Tryz.prog orc lf (m + n + 4)) (P := Tryz.prog) (lf := lf) (m := 91) (rcOf Tryz.prog 20 0) h6 [(1, ptr h.next 0), (7, ptr h2.next 0), (8, ptr (h2.next + 2) 0)] 76 [.func (.yield (h6.next + 1)) #[] #[], ptr (h2.next + 3) 0]
    (by kernel_rfl) (fun F => by kernel_rfl) ⟨by kernel_rfl, by kernel_rfl, by kernel_rfl, trivial⟩ (by kernel_rfl) (by kernel_rfl) fun F1 f2' hr => ?_
  let HH : Hp := (rcOf Tryz.prog 20 0).heap F1 h6
  have nH : HH.next = h2.next + 6 := rfl
  have oH : ∀ j, j < h2.next → HH.get j = h2.get j := fun j hj => by
    simp only [HH, RC.heap, h6, h5, h4, h3, gn, gp, nn, np]
    repeat (first | rw [if_pos (by omega)] | rw [if_neg (by omega)])
  have HD : HH.get (h2.next + 4) = some (.defd false) := by
    simp only [HH, RC.heap, h6, h5, h4, h3, gn, gp, nn, np, if_true]
    repeat (first | rw [if_pos (by omega)] | rw [if_neg (by omega)])
  have HL : HH.get (h2.next + 5) = some ((rcOf Tryz.prog 20 0).obj F1 (h2.next + 4) .ready none) := get_new (h6.new _) _
  have HN : HH.get (h2.next + 3) = some (.cells [J n] 3 false) := by
    simp only [HH, RC.heap, h6, h5, h4, h3, gn, gp, nn, np, if_true]
    repeat (first | rw [if_pos (by omega)] | rw [if_neg (by omega)])
  have HO : HH.get (h2.next + 2) = some (.cells [OS] 22 false) := by
    simp only [HH, RC.heap, h6, h5, h4, h3, gn, gp, nn, np, if_true]
    repeat (first | rw [if_pos (by omega)] | rw [if_neg (by omega)])
  have HZ : HH.get (h2.next + 1) = some (.cells (zeros [.bool false] (2 ^ n)) 4 false) := by
    simp only [HH, RC.heap, h6, h5, h4, h3, gn, gp, nn, np, if_true]
    repeat (first | rw [if_pos (by omega)] | rw [if_neg (by omega)])
  have HB : HH.get h2.next = some (.cells [.slice (some ⟨bb, 0, none⟩) (2 ^ n) (2 * 2 ^ n + 1)] 22 false) := by
    simp only [HH, RC.heap, h6, h5, h4, h3, gn, gp, nn, np, if_true]
    repeat (first | rw [if_pos (by omega)] | rw [if_neg (by omega)])
  have HF : HH.get h.next = some (.cells [SL] 22 false) := by rw [oH _ (by omega), X2.get _ (by omega)]; exact g1
  let Inv : Nat → Nat → List (List Nat) → Hp → Prop := fun L B done r => ∃ b7 c7 u, Exc [h2.next, h2.next + 1, h2.next + 5] HH r ∧ r.get h2.next = some (.cells [.slice (some ⟨b7, 0, none⟩) (2 ^ n) c7] 22 false) ∧ ArB b7 (2 ^ n) (best f (2 ^ n) done) r ∧ h.next ≤ b7 ∧ b7 ≠ L ∧ b7 ≠ B ∧ b7 ≠ h2.next ∧ b7 ≠ h2.next + 1 ∧ b7 ≠ h2.next + 5 ∧ ArB (h2.next + 1) (2 ^ n) u r ∧ r.get (h2.next + 5) = some ((rcOf Tryz.prog 20 0).obj F1 (h2.next + 4) .ready none)
  have run := orders_run n hn lf m hlf (h2.next + 3) (h2.next + 5) HH (by omega) HN Inv ?_ ?_ ?_
  · obtain ⟨w, h7, ev, L, B, hL, hB, b7, c7, u, X7, g7, W7, w0, -, -, w3, w4, w5, -, L7⟩ := run
    refine ⟨w, h7, .ready, none, h2.next + 4, .normal, ev, L7, by decide, rfl, ?_⟩
    have n7 := X7.next
    let h8 : Hp := h7.put (h2.next + 5) ((rcOf Tryz.prog 20 0).obj F1 (h2.next + 4) .exhausted none)
    have P8 : ∀ j, j ≠ h2.next + 5 → h8.get j = h7.get j := fun j hj => Hp.get_put_ne hj
    have g8 : h8.get h2.next = some (.cells [.slice (some ⟨b7, 0, none⟩) (2 ^ n) c7] 22 false) := by rw [P8 _ (by omega)]; exact g7
    have n8 : h8.next = h7.next := rfl
    refine ok_go 0 ?_
    refine sy_load 0 (r := loadT Tryz.prog h8 22 (ptr h2.next 0)) (h' := h8) (v := .slice (some ⟨b7, 0, none⟩) (2 ^ n) c7) (by kernel_rfl) (load1 (by kernel_rfl) g8 rfl) ?_
    refine ok_go 0 ?_
    refine sy_marks 0 (h := h8) [h2.next + 4] (by kernel_rfl) (by simp) (fun d hd => ?_) fun h9 n9 o9 => ?_
    · have hd : d = h2.next + 4 := by simpa using hd
      subst hd
      rw [P8 _ (by omega), X7.get _ (by omega) (by simp)]; exact HD
    refine ok_go 0 ?_
    refine sy_done 0 (v := .tuple #[.slice (some ⟨b7, 0, none⟩) (2 ^ n) c7, J 0]) (h := h9) (by kernel_rfl) ⟨b7, c7, rfl, w0, ⟨by omega, fun j hj => ?_⟩, ?_⟩
    · rw [o9 j (by simp; omega), P8 j (by omega), X7.get j (by omega) (by simp; omega), oH j (by omega), X2.get j (by omega)]; exact X1.get j hj
    · obtain ⟨l, o, e⟩ := W7
      have hb7 : b7 ≠ h2.next + 4 := fun hc => by rw [hc, X7.get _ (by omega) (by simp), HD] at e; cases e
      exact ⟨by omega, o, by rw [o9 _ (by simpa using hb7), P8 _ w5]; exact e⟩
  · rintro L B done g g' hL hB ⟨b7, c7, u, Xr, r7, W, w0, w1, w2, w3, w4, w5, U, Lr⟩ hn' hg
    have nXr := Xr.next
    refine ⟨b7, c7, u, ⟨by omega, fun j hj hm' => by rw [hg j (by omega) (by omega) (by omega)]; exact Xr.get j hj hm'⟩, by rw [hg _ (by omega) (by omega) (by omega)]; exact r7, ?_, w0, w1, w2, w3, w4, w5, ?_, by rw [hg _ (by omega) (by omega) (by omega)]; exact Lr⟩
    · obtain ⟨l, o, e⟩ := W
      exact ⟨by omega, o, by rw [hg _ l w1 w2]; exact e⟩
    · obtain ⟨l, o, e⟩ := U
      exact ⟨by omega, o, by rw [hg _ l (by omega) (by omega)]; exact e⟩
  · rintro L B Y F done p g hL hB hY hF ⟨b7, c7, u, Xr, r7, W, w0, w1, w2, w3, w4, w5, U, Lr⟩ K hp hps
    have K0 := K
    obtain ⟨⟨k1, k2, k3, k4, k5⟩, -, -, ⟨rr, q1, q2⟩, -⟩ := K
    have key : ∃ w g', evInv Tryz.prog orc lf (m + 2) (.yield (h2.next + 5) [.slice (some ⟨B, 0, none⟩) n (2 * n)]) g = some (w, g') ∧ (w = .bool true ∧ Inv L B (done ++ [p]) g' ∧ Exc [h2.next, h2.next + 1, h2.next + 5] g g') := by
      refine yld_ok (c := rcOf Tryz.prog 20 0) (Q := fun w g' => w = .bool true ∧ Inv L B (done ++ [p]) g' ∧ Exc [h2.next, h2.next + 1, h2.next + 5] g g') hr Lr (by kernel_rfl) ?_
      refine ok_go 0 ?_
      refine sy_busy 0 (by kernel_rfl) Lr ?_
      have R' : ∀ j, j ≠ h2.next + 5 → (g.put (h2.next + 5) ((rcOf Tryz.prog 20 0).obj F1 (h2.next + 4) .busy none)).get j = g.get j := fun j hj => Hp.get_put_ne hj
      have Rl : (g.put (h2.next + 5) ((rcOf Tryz.prog 20 0).obj F1 (h2.next + 4) .busy none)).get (h2.next + 5) = some ((rcOf Tryz.prog 20 0).obj F1 (h2.next + 4) .busy none) := get_put _ _ _
      have nr' : (g.put (h2.next + 5) ((rcOf Tryz.prog 20 0).obj F1 (h2.next + 4) .busy none)).next = g.next := rfl
      generalize g.put (h2.next + 5) ((rcOf Tryz.prog 20 0).obj F1 (h2.next + 4) .busy none) = r' at R' Rl nr' ⊢
      have nXr := Xr.next
      have K : ∀ j, j < HH.next → j ≠ h2.next → j ≠ h2.next + 1 → j ≠ h2.next + 5 → r'.get j = HH.get j := fun j hj h1 h2 h3 => by rw [R' j h3]; exact Xr.get j hj (by simp; omega)
      have r1 : r'.get h.next = some (.cells [SL] 22 false) := (K _ (by omega) (by omega) (by omega) (by omega)).trans HF
      refine ok_go 0 ?_
      refine sy_load 0 (r := loadT Tryz.prog r' 22 (ptr h.next 0)) (h' := r') (v := SL) (by kernel_rfl) (load1 (by kernel_rfl) r1 rfl) ?_
      have rO : r'.get (h2.next + 2) = some (.cells [OS] 22 false) := (K _ (by omega) (by omega) (by omega) (by omega)).trans HO
      have r7' : r'.get h2.next = some (.cells [.slice (some ⟨b7, 0, none⟩) (2 ^ n) c7] 22 false) := by rw [R' _ (by omega)]; exact r7
      have W' : ArB b7 (2 ^ n) (best f (2 ^ n) done) r' := by obtain ⟨l, o, e⟩ := W; exact ⟨by omega, o, by rw [R' _ w5]; exact e⟩
      have U' : ArB (h2.next + 1) (2 ^ n) u r' := by obtain ⟨l, o, e⟩ := U; exact ⟨by omega, o, by rw [R' _ (by omega)]; exact e⟩
      have q2' : r'.get B = some (.cells (p.map J ++ rr) 3 false) := by rw [R' _ (by omega)]; exact q2
      refine ok_go 1 ?_
      refine sy_loop 0 lf r' (α := Nat × Nat × Nat × (Nat → Bool)) (fun s => [(1, ptr h.next 0), (7, ptr h2.next 0), (8, ptr (h2.next + 2) 0), (9, .slice (some ⟨B, 0, none⟩) n (2 * n)), (37, J (2 ^ n)), (38, J s.1)])
        (fun s q => s.1 ≤ 2 ^ n ∧ Exc [h2.next, h2.next + 1] r' q ∧ q.get h2.next = some (.cells [.slice (some ⟨s.2.1, 0, none⟩) (2 ^ n) s.2.2.1] 22 false) ∧ ArB s.2.1 (2 ^ n) (rd f (2 ^ n) p s.1 (best f (2 ^ n) done)) q ∧ (s.2.1 = b7 ∨ r'.next ≤ s.2.1) ∧ ArB (h2.next + 1) (2 ^ n) s.2.2.2 q) (fun s _ => 2 ^ n - s.1) (0, b7, c7, u) (by kernel_rfl) (by kernel_rfl)
        ⟨by kernel_rfl, by kernel_rfl, by kernel_rfl, by kernel_rfl, by kernel_rfl, by kernel_rfl, trivial⟩ (show 2 ^ n - 0 < lf by omega) ⟨Nat.zero_le _, ⟨Nat.le_refl _, fun _ _ _ => rfl⟩, r7', W', .inl rfl, U'⟩ ?_
      rintro m1 ⟨mm, b8, c8, u8⟩ f1 q ⟨hm, X8, q7, W8, v8, U8⟩ ih
      dsimp only at hm q7 W8 v8 U8
      refine ok_go 1 ?_
      refine sy_test 0 (decide (Int.ofNat mm < Int.ofNat (2 ^ n))) (by kernel_rfl) ?_ ?_
      · intro hlt
        have hlt := ok_nat hlt
        have hwm : IntKind.wrap .i64 (Int.ofNat (mm + 1)) = Int.ofNat (mm + 1) := wrap_nat (by omega)
        let q1 : Hp := q.new (.cells [.bool false, .bool true] 4 false)
        have gq : q1.get q.next = some (.cells [.bool false, .bool true] 4 false) := get_new _ _
        have n8 := X8.next
        have oq : ∀ j, j < q.next → q1.get j = q.get j := fun j hj => Hp.get_new_ne (by omega)
        have nq1 : q1.next = q.next + 1 := rfl
        refine ok_go 2 ?_
        refine sy_loop 0 lf q1 (α := Nat × Nat × Nat × (Nat → Bool)) (fun s => [(1, ptr h.next 0), (7, ptr h2.next 0), (8, ptr (h2.next + 2) 0), (9, .slice (some ⟨B, 0, none⟩) n (2 * n)), (37, J (2 ^ n)), (38, J mm), (10, J mm), (41, .slice (some ⟨q.next, 0, none⟩) 2 4), (42, J 2), (43, J s.1)])
          (fun s z => s.1 ≤ 2 ∧ Exc [h2.next, h2.next + 1] q1 z ∧ z.get h2.next = some (.cells [.slice (some ⟨s.2.1, 0, none⟩) (2 ^ n) s.2.2.1] 22 false) ∧ ArB s.2.1 (2 ^ n) (rk f (2 ^ n) p mm s.1 (rd f (2 ^ n) p mm (best f (2 ^ n) done))) z ∧ (s.2.1 = b7 ∨ r'.next ≤ s.2.1) ∧ ArB (h2.next + 1) (2 ^ n) s.2.2.2 z) (fun s _ => 2 - s.1) (0, b8, c8, u8) (by kernel_rfl) (by kernel_rfl)
          ⟨by kernel_rfl, by kernel_rfl, by kernel_rfl, by kernel_rfl, by kernel_rfl, by kernel_rfl, by kernel_rfl, by kernel_rfl, by kernel_rfl, by kernel_rfl, trivial⟩ (show 2 - 0 < lf by omega) ⟨Nat.zero_le _, ⟨Nat.le_refl _, fun _ _ _ => rfl⟩, by rw [oq _ (by omega)]; exact q7, W8.ext (Hp.Ext.new _ _), v8, U8.ext (Hp.Ext.new _ _)⟩ ?_
        rintro m2 ⟨k, b9, c9, u9⟩ f2 z ⟨hk, X9, z7, W9, v9, U9⟩ ih2
        dsimp only at hk z7 W9 v9 U9
        have n9 := X9.next
        have gz : z.get q.next = some (.cells [.bool false, .bool true] 4 false) := by rw [X9.get _ (by omega) (by simp; omega)]; exact gq
        have zF : z.get h.next = some (.cells [SL] 22 false) := by rw [X9.get _ (by omega) (by simp; omega), oq _ (by omega), X8.get _ (by omega) (by simp; omega)]; exact r1
        have zO : z.get (h2.next + 2) = some (.cells [OS] 22 false) := by rw [X9.get _ (by omega) (by simp), oq _ (by omega), X8.get _ (by omega) (by simp)]; exact rO
        have zB : z.get B = some (.cells (p.map J ++ rr) 3 false) := by rw [X9.get _ (by omega) (by simp; omega), oq _ (by omega), X8.get _ (by omega) (by simp; omega)]; exact q2'
        have zA : ArB b0 (2 ^ n) f z := by
          obtain ⟨l, o, e⟩ := A
          refine ⟨by omega, o, ?_⟩
          rw [X9.get _ (by omega) (by simp; omega), oq _ (by omega), X8.get _ (by omega) (by simp; omega), K _ (by omega) (by omega) (by omega) (by omega), oH _ (by omega), X2.get _ (by omega), X1.get _ l]
          exact e
        refine ok_go 1 ?_
        refine sy_test 0 (decide (Int.ofNat k < 2)) (by kernel_rfl) ?_ ?_
        · intro hk2
          have hk2 : k < 2 := ok_nat (b := 2) hk2
          have hwk : IntKind.wrap .i64 (Int.ofNat (k + 1)) = Int.ofNat (k + 1) := wrap_nat (by omega)
          have hlk : loadT Tryz.prog z 4 (ptr q.next k) = some (.bool (Nat.beq k 1)) := by
            rcases (by omega : k = 0 ∨ k = 1) with rfl | rfl
            · exact load1 (off := 0) agB gz rfl
            · exact load1 (off := 1) agB gz rfl
          refine ok_go 0 ?_
          refine sy_load 0 (r := indexAddrOp Tryz.prog 22 (.slice (some ⟨q.next, 0, none⟩) 2 4) (J k)) (h' := z) (by kernel_rfl) (idxB hk2) ?_
          refine ok_go 0 ?_
          refine sy_load 0 (r := loadT Tryz.prog z 4 (ptr q.next k)) (h' := z) (by kernel_rfl) hlk ?_
          generalize ho : Nat.beq k 1 = o
          refine ok_go 0 ?_
          refine sy_load 0 (r := loadT Tryz.prog z 22 (ptr h.next 0)) (h' := z) (v := SL) (by kernel_rfl) (load1 (by kernel_rfl) zF rfl) ?_
          refine ok_go 1 ?_
          refine sy_loop 0 lf z (α := Nat × (Nat → Bool)) (fun s => [(1, ptr h.next 0), (7, ptr h2.next 0), (8, ptr (h2.next + 2) 0), (9, .slice (some ⟨B, 0, none⟩) n (2 * n)), (37, J (2 ^ n)), (38, J mm), (10, J mm), (41, .slice (some ⟨q.next, 0, none⟩) 2 4), (42, J 2), (43, J k), (12, .bool o), (48, J (2 ^ n)), (49, J s.1)])
            (fun s y => s.1 ≤ 2 ^ n ∧ Exc [h2.next + 1] z y ∧ ArB (h2.next + 1) (2 ^ n) s.2 y ∧ ∀ a, a < s.1 → s.2 a = tw f p mm o a) (fun s _ => 2 ^ n - s.1) (0, u9) (by kernel_rfl) (by kernel_rfl)
            ⟨by kernel_rfl, by kernel_rfl, by kernel_rfl, by kernel_rfl, by kernel_rfl, by kernel_rfl, by kernel_rfl, by kernel_rfl, by kernel_rfl, by kernel_rfl, by kernel_rfl, by kernel_rfl, by kernel_rfl, trivial⟩ (show 2 ^ n - 0 < lf by omega) ⟨Nat.zero_le _, ⟨Nat.le_refl _, fun _ _ _ => rfl⟩, U9, fun a ha => absurd ha (Nat.not_lt_zero _)⟩ ?_
          rintro m3 ⟨x, ux⟩ f3 y ⟨hx, Xy, Uy, hux⟩ ih3
          dsimp only at hx Uy hux
          have ny := Xy.next
          refine ok_go 1 ?_
          refine sy_test 0 (decide (Int.ofNat x < Int.ofNat (2 ^ n))) (by kernel_rfl) ?_ ?_
          · intro hlx
            have hlx := ok_nat hlx
            have hwx : IntKind.wrap .i64 (Int.ofNat (x + 1)) = Int.ofNat (x + 1) := wrap_nat (by omega)
            refine ok_go 1 ?_
            refine sy_loop 0 lf y (α := Nat) (fun i => [(1, ptr h.next 0), (7, ptr h2.next 0), (8, ptr (h2.next + 2) 0), (9, .slice (some ⟨B, 0, none⟩) n (2 * n)), (37, J (2 ^ n)), (38, J mm), (10, J mm), (41, .slice (some ⟨q.next, 0, none⟩) 2 4), (42, J 2), (43, J k), (12, .bool o), (48, J (2 ^ n)), (49, J x), (13, J x), (14, J (yb p (x ^^^ mm) i)), (52, .slice (some ⟨B, 0, none⟩) n (2 * n)), (53, J n), (54, J i)])
              (fun i g => i ≤ n ∧ g = y) (fun i _ => n - i) 0 (by kernel_rfl) (by kernel_rfl)
              ⟨by kernel_rfl, by kernel_rfl, by kernel_rfl, by kernel_rfl, by kernel_rfl, by kernel_rfl, by kernel_rfl, by kernel_rfl, by kernel_rfl, by kernel_rfl, by kernel_rfl, by kernel_rfl, by kernel_rfl, by kernel_rfl, by kernel_rfl, by kernel_rfl, by kernel_rfl, by kernel_rfl, trivial⟩ (show n - 0 < lf by omega) ⟨Nat.zero_le _, rfl⟩ ?_
            rintro m4 i f4 g4 ⟨hi, rfl⟩ ih4
            refine ok_go 1 ?_
            refine sy_test 0 (decide (Int.ofNat i < Int.ofNat n)) (by kernel_rfl) ?_ ?_
            · intro hli
              have hli := ok_nat hli
              have hwi : IntKind.wrap .i64 (Int.ofNat (i + 1)) = Int.ofNat (i + 1) := wrap_nat (by omega)
              have hip : i < p.length := by omega
              have gB4 : g4.get B = some (.cells (p.map J ++ rr) 3 false) := by rw [Xy.get _ (by omega) (by simp; omega)]; exact zB
              have hld : loadT Tryz.prog g4 3 (ptr B i) = some (J (p.getD i 0)) := load1 agI gB4 (perm_at hip)
              refine ok_go 0 ?_
              refine sy_load 0 (r := indexAddrOp Tryz.prog 29 (.slice (some ⟨B, 0, none⟩) n (2 * n)) (J i)) (h' := g4) (by kernel_rfl) (idxI hli) ?_
              refine ok_go 0 ?_
              refine sy_load 0 (r := loadT Tryz.prog g4 3 (ptr B i)) (h' := g4) (by kernel_rfl) hld ?_
              refine ok_go 8 ?_
              have hyb := yb_lt hps (x ^^^ mm) i (by omega)
              have hpi := getD_lt hps hip
              exact sy_next 0 _ g4 (by kernel_rfl) (by kernel_rfl) (ih4 (i + 1) _ g4 ⟨hli, rfl⟩ (show n - (i + 1) < n - i by omega) ⟨by kernel_rfl, by kernel_rfl, by kernel_rfl, by kernel_rfl, by kernel_rfl, by kernel_rfl, by kernel_rfl, by kernel_rfl, by kernel_rfl, by kernel_rfl, by kernel_rfl, by kernel_rfl, by kernel_rfl, by kernel_rfl,
                (by kernel_rfl : _ = Value.int .i64 (orI (Int.ofNat (yb p (x ^^^ mm) i)) (IntKind.i64.wrap (andI ((xorI (Int.ofNat x) (Int.ofNat mm)).fdiv (2 ^ min (IntKind.u64.wrap (Int.ofNat i)).toNat IntKind.i64.bits)) 1 * 2 ^ min (IntKind.u64.wrap (Int.ofNat (p.getD i 0))).toNat IntKind.i64.bits)))).trans (by rw [ybV (by omega) (by omega) (by omega) (by omega) (by omega)]; rfl),
                by kernel_rfl, by kernel_rfl, (by kernel_rfl : _ = Value.int .i64 (IntKind.wrap .i64 (Int.ofNat (i + 1)))).trans (by rw [hwi]), trivial⟩)
            · intro hli
              have hli := no_nat hli
              obtain rfl : i = n := by omega
              have hyb := yb_lt hps (x ^^^ mm) i (by omega)
              have yF : g4.get h.next = some (.cells [SL] 22 false) := by rw [Xy.get _ (by omega) (by simp; omega)]; exact zF
              have yO : g4.get (h2.next + 2) = some (.cells [OS] 22 false) := by rw [Xy.get _ (by omega) (by simp)]; exact zO
              have yA : ArB b0 (2 ^ i) f g4 := by
                obtain ⟨l, o, e⟩ := zA
                obtain ⟨l0, -⟩ := A
                exact ⟨by omega, o, by rw [Xy.get _ l (by simp; omega)]; exact e⟩
              obtain ⟨g5, e5, U5, m5, o5⟩ := Uy.store hlx (f (yb p (x ^^^ mm) i) != o)
              refine ok_go 0 ?_
              refine sy_load 0 (r := loadT Tryz.prog g4 22 (ptr (h2.next + 2) 0)) (h' := g4) (v := OS) (by kernel_rfl) (load1 (by kernel_rfl) yO rfl) ?_
              refine ok_go 0 ?_
              refine sy_load 0 (r := loadT Tryz.prog g4 22 (ptr h.next 0)) (h' := g4) (v := SL) (by kernel_rfl) (load1 (by kernel_rfl) yF rfl) ?_
              refine ok_go 0 ?_
              refine sy_load 0 (r := indexAddrOp Tryz.prog 22 SL (J (yb p (x ^^^ mm) i))) (h' := g4) (by kernel_rfl) (idxB hyb) ?_
              refine ok_go 0 ?_
              refine sy_load 0 (r := loadT Tryz.prog g4 4 (ptr b0 (yb p (x ^^^ mm) i))) (h' := g4) (by kernel_rfl) (yA.read hyb) ?_
              refine ok_go 1 ?_
              refine sy_load 0 (r := indexAddrOp Tryz.prog 22 OS (J x)) (h' := g4) (by kernel_rfl) (idxB hlx) ?_
              refine ok_go 0 ?_
              refine sy_store 0 (r := storeT Tryz.prog g4 4 (ptr (h2.next + 1) x) (.bool (f (yb p (x ^^^ mm) i) != o))) (h' := g5) (by kernel_rfl) e5 ?_
              refine ok_go 1 ?_
              exact sy_next 0 _ g5 (by kernel_rfl) (by kernel_rfl) (ih3 (x + 1, fun a => if a = x then f (yb p (x ^^^ mm) i) != o else ux a) _ g5 ⟨hlx, ⟨by omega, fun j hj hm' => by rw [o5 j (by simpa using hm')]; exact Xy.get j hj hm'⟩, U5, fun a ha => by
                have ha : a < x + 1 := ha
                show (if a = x then f (yb p (x ^^^ mm) i) != o else ux a) = tw f p mm o a
                split
                · rename_i e; subst e; unfold tw; rw [hp]
                · exact hux a (by omega)⟩ (show 2 ^ i - (x + 1) < 2 ^ i - x by omega) ⟨by kernel_rfl, by kernel_rfl, by kernel_rfl, by kernel_rfl, by kernel_rfl, by kernel_rfl, by kernel_rfl, by kernel_rfl, by kernel_rfl, by kernel_rfl, by kernel_rfl, by kernel_rfl, (by kernel_rfl : _ = Value.int .i64 (IntKind.wrap .i64 (Int.ofNat (x + 1)))).trans (by rw [hwx]), trivial⟩)
          · intro hlx
            have hlx := no_nat hlx
            obtain rfl : x = 2 ^ n := by omega
            have yO : y.get (h2.next + 2) = some (.cells [OS] 22 false) := by rw [Xy.get _ (by omega) (by simp)]; exact zO
            have y7 : y.get h2.next = some (.cells [.slice (some ⟨b9, 0, none⟩) (2 ^ n) c9] 22 false) := by rw [Xy.get _ (by omega) (by simp)]; exact z7
            have hb9 : b9 ≠ h2.next ∧ b9 ≠ h2.next + 1 ∧ b9 ≠ h2.next + 5 := by
              rcases v9 with rfl | h9
              · exact ⟨w3, w4, w5⟩
              · omega
            have yW : ArB b9 (2 ^ n) (rk f (2 ^ n) p mm k (rd f (2 ^ n) p mm (best f (2 ^ n) done))) y := by
              obtain ⟨l, o, e⟩ := W9
              exact ⟨by omega, o, by rw [Xy.get _ l (by simp; omega)]; exact e⟩
            have yU : ArB (h2.next + 1) (2 ^ n) (tw f p mm o) y := Uy.congr hux
            have Xz : Exc [h2.next, h2.next + 1] q1 y := ⟨by omega, fun j hj hm' => by rw [Xy.get j (by omega) (by simp at hm' ⊢; omega)]; exact X9.get j hj hm'⟩
            refine ok_go 0 ?_
            refine sy_load 0 (r := loadT Tryz.prog y 22 (ptr (h2.next + 2) 0)) (h' := y) (v := OS) (by kernel_rfl) (load1 (by kernel_rfl) yO rfl) ?_
            refine ok_go 0 ?_
            refine sy_load 0 (r := loadT Tryz.prog y 22 (ptr h2.next 0)) (h' := y) (v := .slice (some ⟨b9, 0, none⟩) (2 ^ n) c9) (by kernel_rfl) (load1 (by kernel_rfl) y7 rfl) ?_
            refine ok_go 0 ?_
            refine sy_call 0 (by kernel_rfl) (cp (h2.next + 1) (2 * 2 ^ n) b9 c9 _ _ y yU yW) ?_
            refine ok_go 1 ?_
            refine sy_test 0 (decide (lxc (tw f p mm o) (rk f (2 ^ n) p mm k (rd f (2 ^ n) p mm (best f (2 ^ n) done))) (2 ^ n) 0 < 0)) (by kernel_rfl) ?_ ?_
            · intro hc
              have hrk : rk f (2 ^ n) p mm (k + 1) (rd f (2 ^ n) p mm (best f (2 ^ n) done)) = tw f p mm o := by
                rw [rk, upd2, ho, if_pos (of_decide_eq_true hc)]
              obtain ⟨_, y2, ey, b10, rfl, hb10, Xy2, W10⟩ := cl _ (h2.next + 1) (2 * 2 ^ n) m y yU
              have ny2 := Xy2.next
              let y3 : Hp := y2.put h2.next (.cells [.slice (some ⟨b10, 0, none⟩) (2 ^ n) (2 * 2 ^ n + 1)] 22 false)
              have oy3 : ∀ j, j ≠ h2.next → y3.get j = y2.get j := fun j hj => Hp.get_put_ne hj
              have ny3 : y3.next = y2.next := rfl
              have y27 : y2.get h2.next = some (.cells [.slice (some ⟨b9, 0, none⟩) (2 ^ n) c9] 22 false) := by rw [Xy2.get _ (by omega)]; exact y7
              refine ok_go 0 ?_
              refine sy_load 0 (r := loadT Tryz.prog y 22 (ptr (h2.next + 2) 0)) (h' := y) (v := OS) (by kernel_rfl) (load1 (by kernel_rfl) yO rfl) ?_
              refine ok_go 0 ?_
              refine sy_call 0 (by kernel_rfl) ey ?_
              refine ok_go 0 ?_
              refine sy_store 0 (r := storeT Tryz.prog y2 22 (ptr h2.next 0) (.slice (some ⟨b10, 0, none⟩) (2 ^ n) (2 * 2 ^ n + 1))) (h' := y3) (by kernel_rfl) (store1 (by kernel_rfl) rfl y27 (show 0 < 1 by omega)) ?_
              refine ok_go 1 ?_
              exact sy_next 0 _ y3 (by kernel_rfl) (by kernel_rfl) (ih2 (k + 1, b10, 2 * 2 ^ n + 1, tw f p mm o) _ y3 ⟨hk2, ⟨by have := Xz.next; omega, fun j hj hm' => by
                  rw [oy3 j (by simp at hm'; omega), Xy2.get j (by have := Xz.next; omega)]; exact Xz.get j hj hm'⟩, get_put _ _ _, by
                  show ArB b10 (2 ^ n) (rk f (2 ^ n) p mm (k + 1) _) y3
                  rw [hrk]
                  obtain ⟨l, o', e⟩ := W10
                  exact ⟨l, o', by rw [oy3 _ (by omega)]; exact e⟩, .inr (by show r'.next ≤ b10; omega), by
                  obtain ⟨l, o', e⟩ := yU
                  exact ⟨by omega, o', by rw [oy3 _ (by omega), Xy2.get _ l]; exact e⟩⟩ (show 2 - (k + 1) < 2 - k by omega) ⟨by kernel_rfl, by kernel_rfl, by kernel_rfl, by kernel_rfl, by kernel_rfl, by kernel_rfl, by kernel_rfl, by kernel_rfl, by kernel_rfl, (by kernel_rfl : _ = Value.int .i64 (IntKind.wrap .i64 (Int.ofNat (k + 1)))).trans (by rw [hwk]), trivial⟩)
            · intro hc
              have hrk : rk f (2 ^ n) p mm (k + 1) (rd f (2 ^ n) p mm (best f (2 ^ n) done)) = rk f (2 ^ n) p mm k (rd f (2 ^ n) p mm (best f (2 ^ n) done)) := by
                rw [rk, upd2, ho, if_neg (of_decide_eq_false hc)]
              refine ok_go 1 ?_
              exact sy_next 0 _ y (by kernel_rfl) (by kernel_rfl) (ih2 (k + 1, b9, c9, tw f p mm o) _ y ⟨hk2, Xz, y7, by
                  show ArB b9 (2 ^ n) (rk f (2 ^ n) p mm (k + 1) _) y
                  rw [hrk]
                  exact yW, v9, yU⟩ (show 2 - (k + 1) < 2 - k by omega) ⟨by kernel_rfl, by kernel_rfl, by kernel_rfl, by kernel_rfl, by kernel_rfl, by kernel_rfl, by kernel_rfl, by kernel_rfl, by kernel_rfl, (by kernel_rfl : _ = Value.int .i64 (IntKind.wrap .i64 (Int.ofNat (k + 1)))).trans (by rw [hwk]), trivial⟩)
        · intro hk2
          have hk2 : 2 ≤ k := no_nat (b := 2) hk2
          obtain rfl : k = 2 := by omega
          refine ok_go 1 ?_
          exact sy_next 0 _ z (by kernel_rfl) (by kernel_rfl) (ih (mm + 1, b9, c9, u9) _ z ⟨hlt, ⟨by omega, fun j hj hm' => by rw [X9.get j (by omega) hm', oq j (by omega)]; exact X8.get j hj hm'⟩, z7, W9, v9, U9⟩ (show 2 ^ n - (mm + 1) < 2 ^ n - mm by omega) ⟨by kernel_rfl, by kernel_rfl, by kernel_rfl, by kernel_rfl, by kernel_rfl, (by kernel_rfl : _ = Value.int .i64 (IntKind.wrap .i64 (Int.ofNat (mm + 1)))).trans (by rw [hwm]), trivial⟩)
      · intro hlt
        have hlt := no_nat hlt
        obtain rfl : mm = 2 ^ n := by omega
        have n8 := X8.next
        have Rl8 : q.get (h2.next + 5) = some ((rcOf Tryz.prog 20 0).obj F1 (h2.next + 4) .busy none) := by rw [X8.get _ (by omega) (by simp)]; exact Rl
        refine ok_go 0 ?_
        refine sy_round 0 (by kernel_rfl) Rl8 ?_
        let qe : Hp := q.put (h2.next + 5) ((rcOf Tryz.prog 20 0).obj F1 (h2.next + 4) .ready none)
        have oe : ∀ j, j ≠ h2.next + 5 → qe.get j = q.get j := fun j hj => Hp.get_put_ne hj
        have hb8 : b8 ≠ h2.next ∧ b8 ≠ h2.next + 1 ∧ b8 ≠ h2.next + 5 ∧ b8 ≠ L ∧ b8 ≠ B ∧ h.next ≤ b8 := by
          rcases v8 with rfl | h8
          · exact ⟨w3, w4, w5, w1, w2, w0⟩
          · omega
        have XE : Exc [h2.next, h2.next + 1, h2.next + 5] g qe := ⟨by show g.next ≤ q.next; omega, fun j hj hm' => by
          have hm' : j ≠ h2.next ∧ j ≠ h2.next + 1 ∧ j ≠ h2.next + 5 := by simpa using hm'
          rw [oe j hm'.2.2, X8.get j (by omega) (by simp; omega)]; exact R' j hm'.2.2⟩
        refine ok_go 0 ?_
        refine sy_done 0 (v := .bool true) (h := qe) (by kernel_rfl) ⟨rfl, ⟨b8, c8, u8, ⟨by show HH.next ≤ q.next; omega, fun j hj hm' => ?_⟩, by rw [oe _ (by omega)]; exact q7, ?_, hb8.2.2.2.2.2, hb8.2.2.2.1, hb8.2.2.2.2.1, hb8.1, hb8.2.1, hb8.2.2.1, ?_, get_put _ _ _⟩, XE⟩
        · have hm'' : j ≠ h2.next ∧ j ≠ h2.next + 1 ∧ j ≠ h2.next + 5 := by simpa using hm'
          rw [oe j hm''.2.2, X8.get j (by omega) (by simp; omega)]; exact K j hj hm''.1 hm''.2.1 hm''.2.2
        · obtain ⟨l, o, e⟩ := W8
          refine ⟨l, o, ?_⟩
          rw [oe _ hb8.2.2.1, show best f (2 ^ n) (done ++ [p]) = rd f (2 ^ n) p (2 ^ n) (best f (2 ^ n) done) from by unfold best; rw [List.foldl_append]; rfl]
          exact e
        · obtain ⟨l, o, e⟩ := U8
          exact ⟨l, o, by rw [oe _ (by omega)]; exact e⟩
    obtain ⟨w, g', e, rfl, hI, XE⟩ := key
    refine ⟨g', e, hI, ?_⟩
    have mX := XE.next
    have sm : ∀ j, j < g.next → j ≠ h2.next → j ≠ h2.next + 1 → j ≠ h2.next + 5 → g'.get j = g.get j := fun j hj h1 h2 h3 => XE.get j hj (by simp; omega)
    exact ⟨by omega, K0.ne, by rw [sm _ (by omega) (by omega) (by omega) (by omega)]; exact K0.gl, by rw [sm _ (by omega) (by omega) (by omega) (by omega)]; exact K0.gb, by rw [sm _ (by omega) (by omega) (by omega) (by omega)]; exact K0.gn, by rw [sm _ (by omega) (by omega) (by omega) (by omega)]; exact K0.gy, by rw [sm _ (by omega) (by omega) (by omega) (by omega)]; exact K0.gf⟩
  · intro L B g hL hB Xg
    have b2 := B2.lt
    refine ⟨bb, 2 * 2 ^ n + 1, fun _ => false, ⟨Xg.next, fun j hj _ => Xg.get j hj⟩, by rw [Xg.get _ (by omega)]; exact HB, ?_, by omega, by omega, by omega, by omega, by omega, by omega, ?_, by rw [Xg.get _ (by omega)]; exact HL⟩
    · obtain ⟨l, o, e⟩ := B2
      exact ⟨by have := Xg.next; omega, o, by rw [Xg.get _ (by omega), oH _ l]; exact e⟩
    · refine ⟨by have := Xg.next; omega, false, ?_⟩
      rw [Xg.get _ (by omega), HZ, zeros_one]
theorem wrap_sub {a b : Nat} (h : b ≤ a) (h2 : a < 2 ^ 62) : IntKind.wrap .i64 (Int.ofNat a - Int.ofNat b) = Int.ofNat (a - b) := by
  rw [show Int.ofNat a - Int.ofNat b = Int.ofNat (a - b) from (Int.ofNat_sub h).symm]
  exact wrap_nat (by omega)
def cz (a b : Int) : Int := if a < b then -1 else if a > b then 1 else 0
def c2 (a b c d : Int) : Int := if cz a c != 0 then cz a c else cz b d
theorem ccmp_of (lf m : Nat) (a b : Int) (h : Hp) : Ev lf (m + 2) 79 [I a, I b] h = some (I (cz a b), h) := by
  refine fn_eq ?_
  refine ok_go 2 ?_
  refine sy_no 0 (b := a != a) (by kernel_rfl) (bne_self_eq_false _) ?_
  refine ok_go 0 ?_
  refine sy_no 0 (b := b != b) (by kernel_rfl) (bne_self_eq_false _) ?_
  refine ok_go 1 ?_
  refine sy_test 0 (decide (a < b)) (by kernel_rfl) ?_ ?_
  · intro h1
    refine ok_go 0 ?_
    exact sy_done 0 (v := I (-1)) (h := h) (by kernel_rfl) ⟨by rw [cz, if_pos (of_decide_eq_true h1)], rfl⟩
  intro h1
  refine ok_go 1 ?_
  refine sy_test 0 (decide (a > b)) (by kernel_rfl) ?_ ?_
  · intro h2
    refine ok_go 0 ?_
    exact sy_done 0 (v := I 1) (h := h) (by kernel_rfl) ⟨by rw [cz, if_neg (of_decide_eq_false h1), if_pos (of_decide_eq_true h2)], rfl⟩
  · intro h2
    refine ok_go 0 ?_
    exact sy_done 0 (v := I 0) (h := h) (by kernel_rfl) ⟨by rw [cz, if_neg (of_decide_eq_false h1), if_neg (of_decide_eq_false h2)], rfl⟩
theorem cmp2_of (lf m : Nat) (hlf : 300 ≤ lf) (a b c d : Int) (x y : Value) (h : Hp) (X : Rds h x [I a, I b]) (Y : Rds h y [I c, I d]) : Ev lf (m + 3) 56 [x, y] h = some (I (c2 a b c d), h) := by
  obtain ⟨xa, xc, rfl⟩ := X.shape
  obtain ⟨ya, yc, rfl⟩ := Y.shape
  refine fn_eq ?_
  refine ok_go 1 ?_
  refine sy_loop 0 lf h (α := Nat) (fun i => [(0, .slice xa 2 xc), (1, .slice ya 2 yc), (9, .slice xa 2 xc), (10, J 2), (11, J i)]) (fun i g => i ≤ 2 ∧ g = h ∧ (0 < i → cz a c = 0) ∧ (1 < i → cz b d = 0)) (fun i _ => 2 - i) 0 (by kernel_rfl) (by kernel_rfl)
    ⟨by kernel_rfl, by kernel_rfl, by kernel_rfl, by kernel_rfl, by kernel_rfl, trivial⟩ (show 2 - 0 < lf by omega) ⟨by decide, rfl, fun h => absurd h (by decide), fun h => absurd h (by decide)⟩ ?_
  rintro m1 i f1 g ⟨hi, rfl, z1, z2⟩ ih
  refine ok_go 1 ?_
  refine sy_test 0 (decide (Int.ofNat i < Int.ofNat 2)) (by kernel_rfl) ?_ ?_
  · intro hlt
    have hlt := ok_nat hlt
    have hwi : IntKind.wrap .i64 (Int.ofNat (i + 1)) = Int.ofNat (i + 1) := wrap_nat (by omega)
    obtain ⟨u, v, e1, e2, eu⟩ : ∃ u v, [I a, I b][i]? = some (I u) ∧ [I c, I d][i]? = some (I v) ∧ ((i = 0 ∧ u = a ∧ v = c) ∨ (i = 1 ∧ u = b ∧ v = d)) := by
      rcases (by omega : i = 0 ∨ i = 1) with rfl | rfl
      · exact ⟨a, c, rfl, rfl, .inl ⟨rfl, rfl, rfl⟩⟩
      · exact ⟨b, d, rfl, rfl, .inr ⟨rfl, rfl, rfl⟩⟩
    obtain ⟨q1, r1, r2⟩ := X.read (P := Tryz.prog) (t := 29) (e := 3) (kd := .i64) (by kernel_rfl) (by kernel_rfl) (by kernel_rfl) e1
    obtain ⟨q2, r3, r4⟩ := Y.read (P := Tryz.prog) (t := 29) (e := 3) (kd := .i64) (by kernel_rfl) (by kernel_rfl) (by kernel_rfl) e2
    refine ok_go 0 ?_
    refine sy_load 0 (h' := g) (by kernel_rfl) r1 ?_
    refine sy_load 0 (h' := g) (by kernel_rfl) r2 ?_
    refine ok_go 2 ?_
    refine sy_no 0 (b := decide (Int.ofNat i ≥ Int.ofNat 2)) (by kernel_rfl) (decide_eq_false (by show ¬ ((2 : Int) ≤ (i : Int)); omega)) ?_
    refine ok_go 0 ?_
    refine sy_load 0 (h' := g) (by kernel_rfl) r3 ?_
    refine sy_load 0 (h' := g) (by kernel_rfl) r4 ?_
    refine ok_go 0 ?_
    refine sy_call 0 (by kernel_rfl) (ccmp_of lf m u v g) ?_
    refine ok_go 1 ?_
    refine sy_test 0 (cz u v != 0) (by kernel_rfl) ?_ ?_
    · intro hc
      refine ok_go 0 ?_
      refine sy_done 0 (v := I (cz u v)) (h := g) (by kernel_rfl) ⟨?_, rfl⟩
      rcases eu with ⟨rfl, rfl, rfl⟩ | ⟨rfl, rfl, rfl⟩
      · rw [c2, if_pos hc]
      · rw [c2, if_neg (by rw [z1 (by decide)]; decide)]
    · intro hc
      have hc0 : cz u v = 0 := by simpa using hc
      refine ok_go 1 ?_
      exact sy_next 0 _ g (by kernel_rfl) (by kernel_rfl) (ih (i + 1) _ g ⟨hlt, rfl, fun _ => by
        rcases eu with ⟨rfl, rfl, rfl⟩ | ⟨rfl, rfl, rfl⟩
        · exact hc0
        · exact z1 (by decide), fun hh => by
        rcases eu with ⟨rfl, rfl, rfl⟩ | ⟨rfl, rfl, rfl⟩
        · exact absurd hh (by decide)
        · exact hc0⟩ (show 2 - (i + 1) < 2 - i by omega) ⟨by kernel_rfl, by kernel_rfl, by kernel_rfl, by kernel_rfl, (by kernel_rfl : _ = Value.int .i64 (IntKind.wrap .i64 (Int.ofNat (i + 1)))).trans (by rw [hwi]), trivial⟩)
  · intro hlt
    have hlt := no_nat hlt
    obtain rfl : i = 2 := by omega
    refine ok_go 4 ?_
    exact sy_done 0 (v := I 0) (h := g) (by kernel_rfl) ⟨by rw [c2, if_neg (by rw [z1 (by decide)]; decide), z2 (by decide)], rfl⟩
theorem rd_two {h : Hp} {i : Nat} {a b : Value} {e : TypeId} {o : Bool} {c : Nat} (hi : i < h.next) (hg : h.get i = some (.cells [a, b] e o)) : Rds h (.slice (some ⟨i, 0, none⟩) 2 c) [a, b] :=
  .inr ⟨i, 0, c, rfl, fun _ => ⟨hi, by simp only [loadN, hg, List.drop_zero]; rfl⟩⟩
/-- The order of parts, as the library compares them. -/
theorem pcmp_of (lf m : Nat) (hlf : 300 ≤ lf) (a b c d : Nat) (h : Hp) : ∃ v h', Ev lf (m + 4) 70 [.agg #[J a, J b], .agg #[J c, J d]] h = some (v, h') ∧ v = I (c2 (Int.ofNat a) (Int.ofNat b) (Int.ofNat c) (Int.ofNat d)) ∧ h.Ext h' := by
  refine fnS_ok (Q := fun v h' => v = I (c2 (Int.ofNat a) (Int.ofNat b) (Int.ofNat c) (Int.ofNat d)) ∧ h.Ext h') ?_
  have W := Sto.start h
  refine ow_new 0 W (AObj.cells [Value.int IntKind.i64 (Int.ofNat a), Value.int IntKind.i64 (Int.ofNat b)] 76 false) (fun q => Value.pointer (some { block := q, off := 0 })) (by kernel_rfl) fun g1 ng1 Wg1 => ?_
  have W := Wg1
  refine ow_new 0 W (AObj.cells [Value.int IntKind.i64 (Int.ofNat c), Value.int IntKind.i64 (Int.ofNat d)] 76 false) (fun q => Value.pointer (some { block := q, off := 0 })) (by kernel_rfl) fun g2 ng2 Wg2 => ?_
  have W := Wg2
  refine ow_load (P := Tryz.prog) (T := 3) (off := 0) 1 1 W rfl rfl (by kernel_rfl) (by kernel_rfl) ?_
  refine ow_load (P := Tryz.prog) (T := 3) (off := 1) 1 1 W rfl rfl (by kernel_rfl) (by kernel_rfl) ?_
  refine ow_new 0 W (AObj.cells [Value.int IntKind.i64 (Int.ofNat a), Value.int IntKind.i64 (Int.ofNat b)] 3 false) (fun q => Value.slice (some { block := q, off := 0 }) 2 4) (by kernel_rfl) fun g3 ng3 Wg3 => ?_
  have W := Wg3
  refine ow_load (P := Tryz.prog) (T := 3) (off := 0) 1 1 W rfl rfl (by kernel_rfl) (by kernel_rfl) ?_
  refine ow_load (P := Tryz.prog) (T := 3) (off := 1) 1 1 W rfl rfl (by kernel_rfl) (by kernel_rfl) ?_
  refine ow_new 0 W (AObj.cells [Value.int IntKind.i64 (Int.ofNat c), Value.int IntKind.i64 (Int.ofNat d)] 3 false) (fun q => Value.slice (some { block := q, off := 0 }) 2 4) (by kernel_rfl) fun g4 ng4 Wg4 => ?_
  have W := Wg4
  have e := cmp2_of lf m hlf (Int.ofNat a) (Int.ofNat b) (Int.ofNat c) (Int.ofNat d) (.slice (some ⟨g2.next, 0, none⟩) 2 4) (.slice (some ⟨g3.next, 0, none⟩) 2 4) g4 (rd_two (W.lt 1 rfl) (W.get 1 rfl)) (rd_two (W.lt 0 rfl) (W.get 0 rfl))
  refine sy_call 0 (by kernel_rfl) e ?_
  refine ok_go 0 ?_
  exact sy_done 0 (v := I (c2 (Int.ofNat a) (Int.ofNat b) (Int.ofNat c) (Int.ofNat d))) (h := g4) (by kernel_rfl) ⟨rfl, W.ext⟩
def plt (p q : Nat × Nat) : Prop := p.1 < q.1 ∨ (p.1 = q.1 ∧ p.2 < q.2)
theorem cz_nat (a b : Nat) : cz (Int.ofNat a) (Int.ofNat b) = if a < b then -1 else if b < a then 1 else 0 := by
  unfold cz
  have h1 : (Int.ofNat a < Int.ofNat b) ↔ a < b := Int.ofNat_lt
  have h2 : (Int.ofNat a > Int.ofNat b) ↔ b < a := Int.ofNat_lt
  by_cases h : a < b
  · rw [if_pos (h1.2 h), if_pos h]
  · rw [if_neg (fun h' => h (h1.1 h')), if_neg h]
    by_cases h' : b < a
    · rw [if_pos (h2.2 h'), if_pos h']
    · rw [if_neg (fun h'' => h' (h2.1 h'')), if_neg h']
theorem c2_lt (p q : Nat × Nat) : c2 (Int.ofNat p.1) (Int.ofNat p.2) (Int.ofNat q.1) (Int.ofNat q.2) < 0 ↔ plt p q := by
  unfold c2 plt
  rw [cz_nat, cz_nat]
  by_cases h1 : p.1 < q.1 <;> by_cases h2 : q.1 < p.1 <;> by_cases h3 : p.2 < q.2 <;> by_cases h4 : q.2 < p.2 <;> simp [h1, h2, h3, h4] <;> omega
/-- Rising, as parts go. -/
def Srt (l : List (Nat × Nat)) : Prop := l.Pairwise fun p q => ¬ plt q p
theorem le_trans2 {a b c : Nat × Nat} (h1 : ¬ plt b a) (h2 : ¬ plt c b) : ¬ plt c a := by unfold plt at *; omega
theorem srt_in {L R : List (Nat × Nat)} {x : Nat × Nat} (h : Srt (L ++ R)) (hR : ∀ y ∈ R, plt x y) (hL : ∀ L' y, L = L' ++ [y] → ¬ plt x y) : Srt (L ++ x :: R) := by
  unfold Srt at *
  rw [List.pairwise_append] at h ⊢
  obtain ⟨h1, h2, h3⟩ := h
  have hLx : ∀ a ∈ L, ¬ plt x a := by
    rcases List.eq_nil_or_concat L with rfl | ⟨L', y, e⟩
    · intro a ha; cases ha
    · rw [List.concat_eq_append] at e
      subst e
      have hy := hL L' y rfl
      intro a ha
      rw [List.pairwise_append] at h1
      rcases List.mem_append.1 ha with ha | ha
      · exact le_trans2 (h1.2.2 a ha y (by simp)) hy
      · rw [List.mem_singleton.1 ha]; exact hy
  refine ⟨h1, List.pairwise_cons.2 ⟨fun y hy => ?_, h2⟩, fun a ha b hb => ?_⟩
  · have := hR y hy
    unfold plt at *
    omega
  · rcases List.mem_cons.1 hb with rfl | hb
    · exact hLx a ha
    · exact h3 a ha b hb
theorem flat2_set : ∀ (l : List (Nat × Nat)) (k : Nat) (p : Nat × Nat), k < l.length → splice (flat2 l) (k * 2) [J p.1, J p.2] = flat2 (l.set k p)
  | [], k, p, h => by simp at h
  | q :: r, 0, p, h => by simp [flat2, splice]
  | q :: r, k + 1, p, h => by
    have ih := flat2_set r k p (by simpa using h)
    have e : (k + 1) * 2 = k * 2 + 2 := by omega
    unfold splice at ih ⊢
    rw [e]
    simp only [flat2, List.take_succ_cons, List.cons_append, List.set_cons_succ]
    rw [← ih]
    congr 2
theorem rd2 {g : Hp} {i k c : Nat} {ps : List (Nat × Nat)} {o : Bool} {p : Nat × Nat} (hg : g.get i = some (.cells (flat2 ps) 76 o)) (hk : ps[k]? = some p) :
    indexAddrOp Tryz.prog 79 (.slice (some ⟨i, 0, none⟩) ps.length c) (J k) = some (ptr i (k * 2)) ∧ loadT Tryz.prog g 76 (ptr i (k * 2)) = some (.agg #[J p.1, J p.2]) := by
  have hlt : k < ps.length := (List.getElem?_eq_some_iff.1 hk).1
  refine ⟨by rw [idxSl s49.u s49.s hlt, Nat.zero_add], ?_⟩
  simp only [loadT, agP, s49.s, loadN, hg, flat2_at ps k p hk, takeN]
theorem st2 {g : Hp} {i k : Nat} {ps : List (Nat × Nat)} {o : Bool} {p : Nat × Nat} (hg : g.get i = some (.cells (flat2 ps) 76 o)) (hk : k < ps.length) :
    storeT Tryz.prog g 76 (ptr i (k * 2)) (.agg #[J p.1, J p.2]) = some (g.put i (.cells (flat2 (ps.set k p)) 76 o)) := by
  have h1 : Nat.beq (Value.agg #[J p.1, J p.2]).cells.size 2 = true := rfl
  have h2 : Nat.ble (k * 2 + [J p.1, J p.2].length) (flat2 ps).length = true := Nat.ble_eq_true_of_le (by rw [flat2_len]; show k * 2 + 2 ≤ _; omega)
  have h3 : (Value.agg #[J p.1, J p.2]).cells.toList = [J p.1, J p.2] := rfl
  have h4 : [J p.1, J p.2].all scalar = true := rfl
  simp only [ptr, storeT, s49.s, h1, h3, storeN, hg, h2, h4, flat2_set ps k p hk]
theorem take_in {α : Type} (l : List α) (k : Nat) (h : k < l.length) : l.take k ++ l[k] :: l.drop (k + 1) = l := by rw [← List.drop_eq_getElem_cons h, List.take_append_drop]
/-- Only one block has changed. -/
structure One (i : Nat) (h g : Hp) : Prop where
  next : h.next ≤ g.next
  get : ∀ j, j < h.next → j ≠ i → g.get j = h.get j
theorem One.refl (i : Nat) (h : Hp) : One i h h := ⟨Nat.le_refl _, fun _ _ _ => rfl⟩
theorem One.ext {i : Nat} {h g g' : Hp} (X : One i h g) (Y : g.Ext g') : One i h g' := ⟨Nat.le_trans X.next Y.next, fun j h1 h2 => (Y.get j (Nat.lt_of_lt_of_le h1 X.next)).trans (X.get j h1 h2)⟩
theorem One.put {i : Nat} {h g : Hp} (X : One i h g) (o : AObj) : One i h (g.put i o) := ⟨X.next, fun j h1 h2 => (Hp.get_put_ne h2).trans (X.get j h1 h2)⟩
theorem isort_of (lf m : Nat) (hlf : 300 ≤ lf) (i c : Nat) (o : Bool) (ps : List (Nat × Nat)) (hps : ps.length ≤ 12) (h : Hp) (hi : i < h.next) (gi : h.get i = some (.cells (flat2 ps) 76 o))
    (cm : ∀ a b c d h, ∃ v h', Ev lf m 70 [.agg #[J a, J b], .agg #[J c, J d]] h = some (v, h') ∧ v = I (c2 (Int.ofNat a) (Int.ofNat b) (Int.ofNat c) (Int.ofNat d)) ∧ h.Ext h') :
    ∃ v h', Ev lf (m + 1) 100 [.slice (some ⟨i, 0, none⟩) ps.length c, J 0, J ps.length, .func (.func 70) #[] #[]] h = some (v, h') ∧ One i h h' ∧ ∃ qs : List (Nat × Nat), qs.Perm ps ∧ Srt qs ∧ h'.get i = some (.cells (flat2 qs) 76 o) := by
  refine fnS_ok (Q := fun v h' => One i h h' ∧ ∃ qs : List (Nat × Nat), qs.Perm ps ∧ Srt qs ∧ h'.get i = some (.cells (flat2 qs) 76 o)) ?_
  generalize hn : ps.length = n at *
  refine ok_go 1 ?_
  refine sy_loop 0 lf h (α := Nat) (fun k => [(0, .slice (some ⟨i, 0, none⟩) n c), (1, J 0), (2, J n), (3, .func (.func 70) #[] #[]), (8, J k)])
    (fun k g => 1 ≤ k ∧ k ≤ n + 1 ∧ One i h g ∧ ∃ qs : List (Nat × Nat), qs.Perm ps ∧ Srt (qs.take k) ∧ g.get i = some (.cells (flat2 qs) 76 o)) (fun k _ => n + 1 - k) 1 (by kernel_rfl) (by kernel_rfl)
    ⟨by kernel_rfl, by kernel_rfl, by kernel_rfl, by kernel_rfl, by kernel_rfl, trivial⟩ (show n + 1 - 1 < lf by omega) ⟨Nat.le_refl _, by omega, One.refl i h, ps, List.Perm.refl _, by
      unfold Srt
      cases ps with
      | nil => exact List.Pairwise.nil
      | cons a r => simp, gi⟩ ?_
  rintro m1 k f1 g ⟨hk1, hk2, X, qs, P1, S1, G1⟩ ih
  have hql : qs.length = n := by rw [P1.length_eq, hn]
  refine ok_go 1 ?_
  refine sy_test 0 (decide (Int.ofNat k < Int.ofNat n)) (by kernel_rfl) ?_ ?_
  rotate_left
  · intro hlt
    have hlt := no_nat hlt
    rw [List.take_of_length_le (by omega)] at S1
    refine ok_go 0 ?_
    exact sy_done 0 (v := undef) (h := g) (by kernel_rfl) ⟨X, qs, P1, S1, G1⟩
  intro hlt
  have hlt := ok_nat hlt
  have hwk : IntKind.wrap .i64 (Int.ofNat (k + 1)) = Int.ofNat (k + 1) := wrap_nat (by omega)
  refine ok_go 0 ?_
  refine sy_loop 0 lf g (α := Nat) (fun j => [(0, .slice (some ⟨i, 0, none⟩) n c), (1, J 0), (2, J n), (3, .func (.func 70) #[] #[]), (8, J k), (9, J j)])
    (fun j g => j ≤ k ∧ One i h g ∧ ∃ (L R T : List (Nat × Nat)) (x : Nat × Nat), (L ++ x :: (R ++ T)).Perm ps ∧ L.length = j ∧ L.length + R.length = k ∧ Srt (L ++ R) ∧ (∀ y ∈ R, plt x y) ∧ g.get i = some (.cells (flat2 (L ++ x :: (R ++ T))) 76 o)) (fun j _ => j) k (by kernel_rfl) (by kernel_rfl)
    ⟨by kernel_rfl, by kernel_rfl, by kernel_rfl, by kernel_rfl, by kernel_rfl, by kernel_rfl, trivial⟩ (show k < lf by omega) ⟨Nat.le_refl _, X, qs.take k, [], qs.drop (k + 1), qs[k], by
      rw [List.nil_append, take_in qs k (by omega)]; exact P1, by rw [List.length_take]; omega, by rw [List.length_take]; simp; omega, by rw [List.append_nil]; exact S1, fun y hy => (by cases hy), by rw [List.nil_append, take_in qs k (by omega)]; exact G1⟩ ?_
  rintro m2 j f2 g ⟨hj, X, L, R, T, x, P2, l1, l2, S2, HR, G2⟩ ih2
  have hzl : (L ++ x :: (R ++ T)).length = n := by rw [P2.length_eq, hn]
  have leave : (∀ L' y, L = L' ++ [y] → ¬ plt x y) → Srt ((L ++ x :: (R ++ T)).take (k + 1)) := fun hL => by
    have e : (L ++ x :: (R ++ T)).take (k + 1) = L ++ x :: R := by
      rw [show L ++ x :: (R ++ T) = (L ++ x :: R) ++ T by simp, List.take_append_of_le_length (by simp; omega), List.take_of_length_le (by simp; omega)]
    rw [e]
    exact srt_in S2 HR hL
  refine ok_go 1 ?_
  refine sy_test 0 (decide (Int.ofNat j > Int.ofNat 0)) (by kernel_rfl) ?_ ?_
  rotate_left
  · intro hj0
    have hj0 : j = 0 := by have := of_decide_eq_false hj0; simp at this; omega
    have hLn : L = [] := List.eq_nil_of_length_eq_zero (by omega)
    have S3 := leave fun L' y e => absurd (hLn.symm.trans e) (by simp)
    refine ok_go 14 ?_
    exact sy_next 0 _ g (by kernel_rfl) (by kernel_rfl) (ih (k + 1) _ g ⟨by omega, by omega, X, _, P2, S3, G2⟩ (show n + 1 - (k + 1) < n + 1 - k by omega) ⟨by kernel_rfl, by kernel_rfl, by kernel_rfl, by kernel_rfl, (by kernel_rfl : _ = Value.int .i64 (IntKind.wrap .i64 (Int.ofNat (k + 1)))).trans (by rw [hwk]), trivial⟩)
  intro hj0
  have hj0 : 0 < j := by have := of_decide_eq_true hj0; simp at this; omega
  obtain ⟨L', y, rfl⟩ : ∃ L' y, L = L' ++ [y] := by
    rcases List.eq_nil_or_concat L with rfl | ⟨L', y, e⟩
    · simp at l1; omega
    · exact ⟨L', y, by rw [e, List.concat_eq_append]⟩
  have l1' : L'.length = j - 1 := by simp at l1; omega
  have hz0 : (L' ++ [y] ++ x :: (R ++ T))[j - 1]? = some y := by rw [← l1']; simp
  have hz1 : (L' ++ [y] ++ x :: (R ++ T))[j]? = some x := by rw [← l1]; simp
  have hwj : IntKind.wrap .i64 (Int.ofNat j - 1) = Int.ofNat (j - 1) := wrap_sub (b := 1) hj0 (by omega)
  obtain ⟨r1, r2⟩ := rd2 (c := c) G2 hz1
  obtain ⟨r3, r4⟩ := rd2 (c := c) G2 hz0
  rw [hzl] at r1 r3
  obtain ⟨_, g2, e5, rfl, X5⟩ := cm x.1 x.2 y.1 y.2 g
  have gl := c2_lt x y
  have X2 := X.ext X5
  have G3 : g2.get i = some (.cells (flat2 (L' ++ [y] ++ x :: (R ++ T))) 76 o) := by rw [X5.get i (by have := X.next; omega)]; exact G2
  refine ok_go 3 ?_
  refine sy_load 0 (h' := g) (by kernel_rfl) r1 ?_
  refine ok_go 1 ?_
  refine sy_load 0 (h' := g) (by kernel_rfl) r2 ?_
  refine ok_go 5 ?_
  refine sy_load 0 (r := indexAddrOp Tryz.prog 79 (.slice (some ⟨i, 0, none⟩) n c) (.int .i64 (IntKind.wrap .i64 (Int.ofNat j - 1)))) (h' := g) (by kernel_rfl) (by rw [hwj]; exact r3) ?_
  refine ok_go 1 ?_
  refine sy_load 0 (h' := g) (by kernel_rfl) r4 ?_
  refine ok_go 1 ?_
  refine sy_call 0 (by kernel_rfl) e5 ?_
  refine ok_go 3 ?_
  refine sy_test 0 (decide (c2 (Int.ofNat x.1) (Int.ofNat x.2) (Int.ofNat y.1) (Int.ofNat y.2) < 0)) (by kernel_rfl) ?_ ?_
  rotate_left
  · intro hc
    have hc : ¬ plt x y := fun hh => of_decide_eq_false hc (gl.2 hh)
    have S3 := leave fun L'' y' e => by
      have := List.append_inj_right' e rfl
      simp at this
      rw [← this]; exact hc
    refine ok_go 1 ?_
    exact sy_next 0 _ g2 (by kernel_rfl) (by kernel_rfl) (ih (k + 1) _ g2 ⟨by omega, by omega, X2, _, P2, S3, G3⟩ (show n + 1 - (k + 1) < n + 1 - k by omega) ⟨by kernel_rfl, by kernel_rfl, by kernel_rfl, by kernel_rfl, (by kernel_rfl : _ = Value.int .i64 (IntKind.wrap .i64 (Int.ofNat (k + 1)))).trans (by rw [hwk]), trivial⟩)
  intro hc
  have hc : plt x y := gl.1 (of_decide_eq_true hc)
  obtain ⟨r5, r6⟩ := rd2 (c := c) G3 hz1
  obtain ⟨r7, r8⟩ := rd2 (c := c) G3 hz0
  rw [hzl] at r5 r7
  have t1 := st2 (p := y) (k := j) G3 (by rw [hzl]; omega)
  have G4 : (g2.put i (.cells (flat2 ((L' ++ [y] ++ x :: (R ++ T)).set j y)) 76 o)).get i = some (.cells (flat2 ((L' ++ [y] ++ x :: (R ++ T)).set j y)) 76 o) := get_put _ _ _
  have t2 := st2 (p := x) (k := j - 1) G4 (by rw [List.length_set, hzl]; omega)
  have hset : ((L' ++ [y] ++ x :: (R ++ T)).set j y).set (j - 1) x = L' ++ x :: (y :: R ++ T) := by
    rw [← l1']
    have : j = L'.length + 1 := by omega
    rw [this]
    simp
  rw [hset] at t2
  have G5 := get_put (g2.put i (.cells (flat2 ((L' ++ [y] ++ x :: (R ++ T)).set j y)) 76 o)) i (.cells (flat2 (L' ++ x :: (y :: R ++ T))) 76 o)
  have X4 := (X2.put (.cells (flat2 ((L' ++ [y] ++ x :: (R ++ T)).set j y)) 76 o)).put (.cells (flat2 (L' ++ x :: (y :: R ++ T))) 76 o)
  refine ok_go 2 ?_
  refine sy_load 0 (r := indexAddrOp Tryz.prog 79 (.slice (some ⟨i, 0, none⟩) n c) (.int .i64 (IntKind.wrap .i64 (Int.ofNat j - 1)))) (h' := g2) (by kernel_rfl) (by rw [hwj]; exact r7) ?_
  refine sy_load 0 (h' := g2) (by kernel_rfl) r8 ?_
  refine ok_go 0 ?_
  refine sy_load 0 (h' := g2) (by kernel_rfl) r5 ?_
  refine sy_load 0 (h' := g2) (by kernel_rfl) r6 ?_
  refine ok_go 0 ?_
  refine sy_load 0 (h' := g2) (by kernel_rfl) r5 ?_
  refine ok_go 0 ?_
  refine sy_store 0 (h' := g2.put i (.cells (flat2 ((L' ++ [y] ++ x :: (R ++ T)).set j y)) 76 o)) (by kernel_rfl) t1 ?_
  refine ok_go 0 ?_
  refine sy_load 0 (r := indexAddrOp Tryz.prog 79 (.slice (some ⟨i, 0, none⟩) n c) (.int .i64 (IntKind.wrap .i64 (Int.ofNat j - 1)))) (h' := g2.put i (.cells (flat2 ((L' ++ [y] ++ x :: (R ++ T)).set j y)) 76 o)) (by kernel_rfl) (by rw [hwj]; exact r7) ?_
  refine ok_go 0 ?_
  refine sy_store 0 (h' := (g2.put i (.cells (flat2 ((L' ++ [y] ++ x :: (R ++ T)).set j y)) 76 o)).put i (.cells (flat2 (L' ++ x :: (y :: R ++ T))) 76 o)) (by kernel_rfl) t2 ?_
  refine ok_go 1 ?_
  exact sy_next 0 _ _ (by kernel_rfl) (by kernel_rfl) (ih2 (j - 1) _ _ ⟨by omega, X4, L', y :: R, T, x, (by
    have : (L' ++ x :: (y :: R ++ T)).Perm (L' ++ [y] ++ x :: (R ++ T)) := by
      simp only [List.append_assoc, List.cons_append, List.nil_append]
      exact List.Perm.append_left _ (List.Perm.swap _ _ _)
    exact this.trans P2), l1', by simp at l2 ⊢; omega, by simpa using S2, fun z hz => (by
      rcases List.mem_cons.1 hz with rfl | hz
      · exact hc
      · exact HR z hz), G5⟩ (show j - 1 < j by omega) ⟨by kernel_rfl, by kernel_rfl, by kernel_rfl, by kernel_rfl, by kernel_rfl, (by kernel_rfl : _ = Value.int .i64 (IntKind.wrap .i64 (Int.ofNat j - 1))).trans (by rw [hwj]), trivial⟩)
theorem pdq_of (lf m : Nat) (hlf : 300 ≤ lf) (i c : Nat) (o : Bool) (ps : List (Nat × Nat)) (hps : ps.length ≤ 12) (k : Nat) (h : Hp)
    (is : ∃ v h', Ev lf m 100 [.slice (some ⟨i, 0, none⟩) ps.length c, J 0, J ps.length, .func (.func 70) #[] #[]] h = some (v, h') ∧ One i h h' ∧ ∃ qs : List (Nat × Nat), qs.Perm ps ∧ Srt qs ∧ h'.get i = some (.cells (flat2 qs) 76 o)) :
    ∃ v h', Ev lf (m + 1) 87 [.slice (some ⟨i, 0, none⟩) ps.length c, J 0, J ps.length, J k, .func (.func 70) #[] #[]] h = some (v, h') ∧ One i h h' ∧ ∃ qs : List (Nat × Nat), qs.Perm ps ∧ Srt qs ∧ h'.get i = some (.cells (flat2 qs) 76 o) := by
  refine fnS_ok (Q := fun v h' => One i h h' ∧ ∃ qs : List (Nat × Nat), qs.Perm ps ∧ Srt qs ∧ h'.get i = some (.cells (flat2 qs) 76 o)) ?_
  obtain ⟨v, h', e, X⟩ := is
  generalize hn : ps.length = n at *
  refine ok_go 0 ?_
  refine sy_loop 0 lf h (α := Nat) (fun _ => [(0, .slice (some ⟨i, 0, none⟩) n c), (1, J 0), (2, J n), (3, J k), (4, .func (.func 70) #[] #[])]) (fun _ g => g = h) (fun _ _ => 0) 0 (by kernel_rfl) (by kernel_rfl)
    ⟨by kernel_rfl, by kernel_rfl, by kernel_rfl, by kernel_rfl, by kernel_rfl, trivial⟩ (show 0 < lf by omega) rfl ?_
  rintro m1 _ f1 g rfl ih
  refine ok_go 2 ?_
  have hw : IntKind.wrap .i64 (Int.ofNat n - Int.ofNat 0) = Int.ofNat n := wrap_sub (b := 0) (by omega) (by omega)
  refine sy_yes 0 (b := decide (IntKind.wrap .i64 (Int.ofNat n - Int.ofNat 0) ≤ 12)) (by kernel_rfl) (decide_eq_true (by rw [hw]; show (n : Int) ≤ 12; omega)) ?_
  refine ok_go 0 ?_
  refine sy_call 0 (by kernel_rfl) e ?_
  refine ok_go 0 ?_
  exact sy_done 0 (v := undef) (h := h') (by kernel_rfl) X
theorem len_of (m n : Nat) (hn : n ≤ 12) (h : Hp) : ∃ k, Ev 100000 (m + 10) 59 [.int .u64 (Int.ofNat n)] h = some (J k, h) := by
  rcases (by omega : n = 0 ∨ n = 1 ∨ n = 2 ∨ n = 3 ∨ n = 4 ∨ n = 5 ∨ n = 6 ∨ n = 7 ∨ n = 8 ∨ n = 9 ∨ n = 10 ∨ n = 11 ∨ n = 12) with rfl | rfl | rfl | rfl | rfl | rfl | rfl | rfl | rfl | rfl | rfl | rfl | rfl
  · exact ⟨0, by kernel_rfl⟩
  · exact ⟨1, by kernel_rfl⟩
  · exact ⟨2, by kernel_rfl⟩
  · exact ⟨2, by kernel_rfl⟩
  · exact ⟨3, by kernel_rfl⟩
  · exact ⟨3, by kernel_rfl⟩
  · exact ⟨3, by kernel_rfl⟩
  · exact ⟨3, by kernel_rfl⟩
  · exact ⟨4, by kernel_rfl⟩
  · exact ⟨4, by kernel_rfl⟩
  · exact ⟨4, by kernel_rfl⟩
  · exact ⟨4, by kernel_rfl⟩
  · exact ⟨4, by kernel_rfl⟩
theorem sort_of (lf m : Nat) (hlf : 300 ≤ lf) (i c : Nat) (o : Bool) (ps : List (Nat × Nat)) (hps : ps.length ≤ 12) (h : Hp)
    (ln : ∃ k, Ev lf m 59 [.int .u64 (Int.ofNat ps.length)] h = some (J k, h))
    (pd : ∀ k, ∃ v h', Ev lf m 87 [.slice (some ⟨i, 0, none⟩) ps.length c, J 0, J ps.length, J k, .func (.func 70) #[] #[]] h = some (v, h') ∧ One i h h' ∧ ∃ qs : List (Nat × Nat), qs.Perm ps ∧ Srt qs ∧ h'.get i = some (.cells (flat2 qs) 76 o)) :
    ∃ v h', Ev lf (m + 1) 69 [.slice (some ⟨i, 0, none⟩) ps.length c, .func (.func 70) #[] #[]] h = some (v, h') ∧ One i h h' ∧ ∃ qs : List (Nat × Nat), qs.Perm ps ∧ Srt qs ∧ h'.get i = some (.cells (flat2 qs) 76 o) := by
  refine fnS_ok (Q := fun v h' => One i h h' ∧ ∃ qs : List (Nat × Nat), qs.Perm ps ∧ Srt qs ∧ h'.get i = some (.cells (flat2 qs) 76 o)) ?_
  obtain ⟨k, ln⟩ := ln
  obtain ⟨v, h', e, X⟩ := pd k
  generalize hn : ps.length = n at *
  have hu : IntKind.wrap .u64 (Int.ofNat n) = Int.ofNat n := u64_nat (by omega)
  refine ok_go 2 ?_
  refine sy_call 0 (r := Ev lf m 59 [.int .u64 (IntKind.wrap .u64 (Int.ofNat n))] h) (by kernel_rfl) (by rw [hu]; exact ln) ?_
  refine ok_go 0 ?_
  refine sy_call 0 (by kernel_rfl) e ?_
  refine ok_go 0 ?_
  exact sy_done 0 (v := undef) (h := h') (by kernel_rfl) X
/-- A slice of pairs, by its block. -/
def Sl2 (h : Hp) (e : TypeId) (v : Value) (ps : List (Nat × Nat)) : Prop := ∃ i, v = oslV i ps.length ∧ Hold h (oent i e (flat2 ps))
theorem Sl2.ext {h g : Hp} {e : TypeId} {v : Value} {ps : List (Nat × Nat)} (H : Sl2 h e v ps) (X : h.Ext g) : Sl2 g e v ps := by
  obtain ⟨i, e1, K⟩ := H
  exact ⟨i, e1, K.ext X⟩
theorem Sl2.of {h : Hp} {e : TypeId} {v : Value} {ps : List (Nat × Nat)} (H : OpenP h e v ps) : Sl2 h e v ps := by
  rcases H with ⟨rfl, rfl⟩ | ⟨i, rfl, hne, hi, hg⟩
  · exact ⟨0, rfl, fun p hp => (by cases hp)⟩
  · cases ps with
    | nil => exact absurd rfl hne
    | cons p r => exact ⟨i, rfl, fun q hq => by
        have : q = (i, .cells (flat2 (p :: r)) e true) := List.mem_singleton.1 hq
        subst this
        exact ⟨hi, hg⟩⟩
theorem Sl2.open_ {h : Hp} {e : TypeId} {v : Value} {ps : List (Nat × Nat)} (H : Sl2 h e v ps) : OpenP h e v ps := by
  obtain ⟨i, rfl, K⟩ := H
  cases ps with
  | nil => exact .inl ⟨rfl, rfl⟩
  | cons p r =>
    obtain ⟨h1, h2⟩ := K (i, .cells (flat2 (p :: r)) e true) (List.mem_singleton.2 rfl)
    exact .inr ⟨i, rfl, by simp, h1, h2⟩
theorem flat2_all : ∀ l, (flat2 l).all scalar = true
  | [] => rfl
  | p :: r => by
    show (scalar (J p.1) && (scalar (J p.2) && (flat2 r).all scalar)) = true
    rw [flat2_all r]
    rfl
theorem app_new {g : Hp} {q i : Nat} {p : Nat × Nat} {r : List (Nat × Nat)} (hr : r.length < 4000) (hq : g.get q = some (.cells [] 76 false)) (hg : g.get i = some (.cells (flat2 (p :: r)) 76 true)) :
    appendOp Tryz.prog g 79 (.slice (some ⟨q, 0, none⟩) 0 0) (oslV i (r.length + 1)) = some (oslV g.next (r.length + 1), g.new (.cells (flat2 (p :: r)) 76 true)) := by
  obtain ⟨inf, hi1, hi2⟩ := s49.i
  obtain ⟨z, hz1, hz2⟩ := s49.z
  have hl := flat2_len (p :: r)
  have hel : elems g 2 (r.length + 1) (oslV i (r.length + 1)) = some (flat2 (p :: r)) := by
    simp only [elems, oslV, loadN, hg, List.drop_zero]
    rw [show (r.length + 1) * 2 = (flat2 (p :: r)).length by rw [hl]; rfl]
    exact takeN_all _
  have hall := flat2_all (p :: r)
  have h1 : Nat.ble (r.length + 1) most = true := Nat.ble_eq_true_of_le (by unfold most; omega)
  have h2 : Nat.ble (r.length + 1) (0 / 2) = false := by
    cases hb : Nat.ble (r.length + 1) (0 / 2) with
    | false => rfl
    | true => have := Nat.le_of_ble_eq_true hb; omega
  have h3 : loadN g q 0 (0 * 2) = some [] := by simp only [loadN, hq]; rfl
  have h4 : Nat.beq (0 % 2) 0 = true := rfl
  simp only [appendOp, s49.u, s49.s, hi1, hz1, oslV_len, hel, hz2, hi2, hall, h1, h2, h3, h4, Nat.zero_add, List.nil_append]
  rfl
theorem clone_of (lf m : Nat) (i : Nat) (ps : List (Nat × Nat)) (hps : ps.length < 4000) (h : Hp) (K : Hold h (oent i 76 (flat2 ps))) :
    ∃ y h', Ev lf (m + 1) 68 [oslV i ps.length] h = some (y, h') ∧ ∃ i', y = oslV i' ps.length ∧ Sto h h' (oent i' 76 (flat2 ps)) := by
  refine fnS_ok (Q := fun y h' => ∃ i', y = oslV i' ps.length ∧ Sto h h' (oent i' 76 (flat2 ps))) ?_
  have W := Sto.start h
  cases ps with
  | nil =>
    refine ok_go 2 ?_
    exact sy_done 0 (v := .slice none 0 0) (h := h) (by kernel_rfl) ⟨0, rfl, W⟩
  | cons p r =>
    have hr : r.length < 4000 := by simp at hps; omega
    obtain ⟨k1, k2⟩ := K (i, .cells (flat2 (p :: r)) 76 true) (List.mem_singleton.2 rfl)
    refine ow_new 2 W (AObj.cells [] 76 false) (fun q => Value.slice (some { block := q, off := 0 }) 0 0) (by kernel_rfl) fun g1 ng1 Wg1 => ?_
    have W := Wg1
    have hg1 : g1.get i = some (.cells (flat2 (p :: r)) 76 true) := (W.ext.get i k1).trans k2
    refine ow_new 0 W (.cells (flat2 (p :: r)) 76 true) (fun q => oslV q (r.length + 1)) ((by kernel_rfl : _ = appendOp Tryz.prog g1 79 (.slice (some ⟨h.next, 0, none⟩) 0 0) (oslV i (r.length + 1))).trans (app_new hr (W.get 0 rfl) hg1)) fun g2 ng2 W => ?_
    refine ok_go 0 ?_
    exact sy_done 0 (v := oslV g1.next (r.length + 1)) (h := g2) (by kernel_rfl) ⟨g1.next, rfl, W.take 1⟩
def inP (p : Nat × Nat) (x : Nat) : Bool := x &&& p.1 == p.2
theorem One.after {i : Nat} {h g g' : Hp} (X : h.Ext g) (Y : One i g g') : One i h g' := ⟨Nat.le_trans X.next Y.next, fun j h1 h2 => (Y.get j (Nat.lt_of_lt_of_le h1 X.next) h2).trans (X.get j h1)⟩
/-- What a search has told. -/
def Fnd (bo : Nat) (res : List (Nat × Nat)) (h' : Hp) : Prop := ∃ qs : List (Nat × Nat), qs.Perm res ∧ Srt qs ∧ ∃ v, h'.get bo = some (.cells [v] 79 false) ∧ Sl2 h' 76 v qs
def CR (bo : Nat) (h : Hp) (y : Value) (h' : Hp) : Option (List (Nat × Nat)) → Prop
  | none => y = .bool false ∧ h.Ext h'
  | some res => y = .bool true ∧ One bo h h' ∧ Fnd bo res h'
/-- What a closure of a search holds. -/
def BL (a1 a2 a3 a4 a5 a6 x n : Nat) (F l s bo : Value) : List (Nat × AObj) := [(a1, .cells [J x] 3 false), (a6, .cells [bo] 82 false), (a5, .cells [J n] 3 false), (a4, .cells [s] 79 false), (a3, .cells [l] 79 false), (a2, .cells [F] 22 false)]
theorem slz49 : SlTz Tryz.prog 79 76 2 := ⟨by kernel_rfl, by kernel_rfl, ⟨_, rfl, by kernel_rfl⟩, ⟨_, rfl, by kernel_rfl⟩, by decide⟩
theorem cl_of (lf m : Nat) (hlf : 300 ≤ lf) (b0 N c : Nat) (a1 a2 a3 a4 a5 a6 x n bo : Nat) (hx : x < 64) (hn : n < 64) (l : Value) (is : Nat) (sm : List (Nat × Nat)) (hsm : sm.length < 4000) (p : Nat × Nat) (s : Value) (hs : s = oslV is sm.length) (h g : Hp) (Kh : Hold h (oent is 76 (flat2 sm)))
    (W : Sto h g (BL a1 a2 a3 a4 a5 a6 x (n + 1) (.slice (some ⟨b0, 0, none⟩) N c) l s (ptr bo 0))) (r : Option (List (Nat × Nat)))
    (cl : ∀ h, Hold h (oent is 76 (flat2 sm)) → ∃ y h', Ev lf m 68 [s] h = some (y, h') ∧ ∃ i', y = oslV i' sm.length ∧ Sto h h' (oent i' 76 (flat2 sm)))
    (rc : ∀ h' i', h.Ext h' → Hold h' (oent i' 76 (flat2 (sm ++ [p]))) → ∃ y h'', Ev lf m 46 [.slice (some ⟨b0, 0, none⟩) N c, l, oslV i' (sm.length + 1), J n, ptr bo 0] h' = some (y, h'') ∧ CR bo h' y h'' r) :
    ∃ y g', Ev lf (m + 1) 72 [.agg #[J p.1, J p.2], ptr a1 0, ptr a2 0, ptr a3 0, ptr a4 0, ptr a5 0, ptr a6 0] g = some (y, g') ∧
      ((y = .bool false ∧ (inP p x = true → r = none) ∧ Sto h g' (BL a1 a2 a3 a4 a5 a6 x (n + 1) (.slice (some ⟨b0, 0, none⟩) N c) l s (ptr bo 0))) ∨ (y = .bool true ∧ inP p x = true ∧ ∃ res, r = some res ∧ One bo h g' ∧ Fnd bo res g')) := by
  refine fnS_ok (Q := fun y g' => ((y = .bool false ∧ (inP p x = true → r = none) ∧ Sto h g' (BL a1 a2 a3 a4 a5 a6 x (n + 1) (.slice (some ⟨b0, 0, none⟩) N c) l s (ptr bo 0))) ∨ (y = .bool true ∧ inP p x = true ∧ ∃ res, r = some res ∧ One bo h g' ∧ Fnd bo res g'))) ?_
  have hand : (andI (Int.ofNat x) (Int.ofNat p.1) == Int.ofNat p.2) = inP p x := by rw [and_nat (by omega), eq_int]; rfl
  unfold BL at *
  refine ow_new 0 W (AObj.cells [Value.int IntKind.i64 (Int.ofNat (Prod.fst p)), Value.int IntKind.i64 (Int.ofNat (Prod.snd p))] 76 false) (fun q => Value.pointer (some { block := q, off := 0 })) (by kernel_rfl) fun q1 nq1 Wq1 => ?_
  have W := Wq1
  refine ow_load (P := Tryz.prog) (T := 3) (off := 0) 0 1 W rfl rfl (by kernel_rfl) (by kernel_rfl) ?_
  refine ow_load (P := Tryz.prog) (T := 3) (off := 0) 1 0 W rfl rfl (by kernel_rfl) (by kernel_rfl) ?_
  refine ow_load (P := Tryz.prog) (T := 3) (off := 1) 2 0 W rfl rfl (by kernel_rfl) (by kernel_rfl) ?_
  refine ok_go 1 ?_
  have Wq1 := W
  refine sy_test 0 (andI (Int.ofNat x) (Int.ofNat p.1) == Int.ofNat p.2) (by kernel_rfl) ?_ ?_
  rotate_left
  · intro hc
    rw [hand] at hc
    refine ok_go 10 ?_
    refine sy_need 0 [] [] (by kernel_rfl) trivial ?_
    refine ok_go 0 ?_
    exact sy_done 0 (v := .bool false) (h := q1) (by kernel_rfl) (.inl ⟨rfl, (fun hh => by rw [hc] at hh; cases hh), W.drop 1⟩)
  intro hc
  rw [hand] at hc
  refine ow_load (P := Tryz.prog) (T := 22) (off := 0) 0 6 W rfl rfl (by kernel_rfl) (by kernel_rfl) ?_
  refine ow_load (P := Tryz.prog) (T := 79) (off := 0) 1 5 W rfl rfl (by kernel_rfl) (by kernel_rfl) ?_
  refine ow_load (P := Tryz.prog) (T := 79) (off := 0) 1 4 W rfl rfl (by kernel_rfl) (by kernel_rfl) ?_
  refine ok_go 1 ?_
  obtain ⟨y, h1, e1, i', hy, V⟩ := cl q1 (Kh.ext W.ext)
  refine sy_call 0 (by kernel_rfl) e1 ?_
  have W := (W.over V).perm List.perm_append_comm
  have Wh1 := W
  refine ow_loadA (P := Tryz.prog) (T := 76) (z := 2) 1 0 W rfl (by kernel_rfl) (by kernel_rfl) rfl (by kernel_rfl) ?_
  refine ow_new 1 W (AObj.cells [Value.int IntKind.i64 (Int.ofNat (Prod.fst p)), Value.int IntKind.i64 (Int.ofNat (Prod.snd p))] 76 false) (fun q => Value.slice (some { block := q, off := 0 }) 1 2) (by kernel_rfl) fun q3 nq3 Wq3 => ?_
  have W := Wq3
  refine ow_app 0 W slz49 (zs := flat2 sm) (c := sm.length) (new := [J p.1, J p.2]) (flat2_len sm) rfl rfl (by omega) ((by kernel_rfl : _ = appendOp Tryz.prog q3 79 y (.slice (some ⟨h1.next, 0, none⟩) 1 2)).trans (by rw [hy])) fun q4 sl nq4 hsl hsc W => ?_
  rw [← flat2_app sm p] at W
  have Wq4 := W
  refine ow_load (P := Tryz.prog) (T := 3) (off := 0) 1 3 W rfl rfl (by kernel_rfl) (by kernel_rfl) ?_
  refine ow_load (P := Tryz.prog) (T := 82) (off := 0) 3 2 W rfl rfl (by kernel_rfl) (by kernel_rfl) ?_
  refine ok_go 1 ?_
  have hwn : IntKind.wrap .i64 (Int.ofNat (n + 1) - 1) = Int.ofNat n := wrap_sub (b := 1) (by omega) (by omega)
  obtain ⟨y2, h2, e2, C⟩ := rc q4 q3.next W.ext (W.hold.sub fun z hz => List.mem_append_right _ hz)
  refine sy_call 0 (r := Ev lf m 46 [.slice (some ⟨b0, 0, none⟩) N c, l, sl, .int .i64 (IntKind.wrap .i64 (Int.ofNat (n + 1) - 1)), ptr bo 0] q4) (by kernel_rfl) (by rw [hwn, hsl]; exact e2) ?_
  cases r with
  | none =>
    obtain ⟨rfl, X⟩ := C
    have W := W.call X
    have Wh2 := W
    refine ok_go 1 ?_
    refine sy_need 0 [] [⟨(loadT Tryz.prog h1 22 (ptr (a2) (0))).map (·, h1), Value.slice (some { block := b0, off := 0 }) N c, h1⟩, ⟨(loadT Tryz.prog q4 22 (ptr (a2) (0))).map (·, q4), Value.slice (some { block := b0, off := 0 }) N c, q4⟩, ⟨(loadT Tryz.prog h1 79 (ptr (a3) (0))).map (·, h1), l, h1⟩, ⟨(loadT Tryz.prog q4 79 (ptr (a3) (0))).map (·, q4), l, q4⟩, ⟨(loadT Tryz.prog q1 76 (ptr (Hp.next g) (0))).map (·, q1), Value.agg { toList := [Value.int IntKind.i64 (Int.ofNat (Prod.fst p)), Value.int IntKind.i64 (Int.ofNat (Prod.snd p))] }, q1⟩, ⟨(loadT Tryz.prog q1 3 (ptr (a5) (0))).map (·, q1), Value.int IntKind.i64 (Int.ofNat (n + 1)), q1⟩, ⟨(loadT Tryz.prog h1 3 (ptr (a5) (0))).map (·, h1), Value.int IntKind.i64 (Int.ofNat (n + 1)), h1⟩, ⟨(loadT Tryz.prog q1 82 (ptr (a6) (0))).map (·, q1), Value.pointer (some { block := bo, off := 0 }), q1⟩, ⟨(loadT Tryz.prog h1 82 (ptr (a6) (0))).map (·, h1), Value.pointer (some { block := bo, off := 0 }), h1⟩] (by kernel_rfl) ⟨ob_load (P := Tryz.prog) (T := 22) (k := 6) Wh1 rfl rfl (by kernel_rfl), ob_load (P := Tryz.prog) (T := 22) (k := 6) Wq4 rfl rfl (by kernel_rfl), ob_load (P := Tryz.prog) (T := 79) (k := 5) Wh1 rfl rfl (by kernel_rfl), ob_load (P := Tryz.prog) (T := 79) (k := 5) Wq4 rfl rfl (by kernel_rfl), ob_loadA (P := Tryz.prog) (T := 76) (k := 0) (z := 2) Wq1 rfl (by kernel_rfl) (by kernel_rfl) rfl, ob_load (P := Tryz.prog) (T := 3) (k := 3) Wq1 rfl rfl (by kernel_rfl), ob_load (P := Tryz.prog) (T := 3) (k := 3) Wh1 rfl rfl (by kernel_rfl), ob_load (P := Tryz.prog) (T := 82) (k := 2) Wq1 rfl rfl (by kernel_rfl), ob_load (P := Tryz.prog) (T := 82) (k := 2) Wh1 rfl rfl (by kernel_rfl), trivial⟩ ?_
    refine ok_go 0 ?_
    exact sy_done 0 (v := .bool false) (h := h2) (by kernel_rfl) (.inl ⟨rfl, (fun _ => rfl), ((W.sub (List.sublist_append_left _ _)).drop 1)⟩)
  | some res =>
    obtain ⟨rfl, X, Fd⟩ := C
    refine ok_go 1 ?_
    refine sy_need 0 [] [⟨(loadT Tryz.prog h1 22 (ptr (a2) (0))).map (·, h1), Value.slice (some { block := b0, off := 0 }) N c, h1⟩, ⟨(loadT Tryz.prog q4 22 (ptr (a2) (0))).map (·, q4), Value.slice (some { block := b0, off := 0 }) N c, q4⟩, ⟨(loadT Tryz.prog h1 79 (ptr (a3) (0))).map (·, h1), l, h1⟩, ⟨(loadT Tryz.prog q4 79 (ptr (a3) (0))).map (·, q4), l, q4⟩, ⟨(loadT Tryz.prog q1 76 (ptr (Hp.next g) (0))).map (·, q1), Value.agg { toList := [Value.int IntKind.i64 (Int.ofNat (Prod.fst p)), Value.int IntKind.i64 (Int.ofNat (Prod.snd p))] }, q1⟩, ⟨(loadT Tryz.prog q1 3 (ptr (a5) (0))).map (·, q1), Value.int IntKind.i64 (Int.ofNat (n + 1)), q1⟩, ⟨(loadT Tryz.prog h1 3 (ptr (a5) (0))).map (·, h1), Value.int IntKind.i64 (Int.ofNat (n + 1)), h1⟩, ⟨(loadT Tryz.prog q1 82 (ptr (a6) (0))).map (·, q1), Value.pointer (some { block := bo, off := 0 }), q1⟩, ⟨(loadT Tryz.prog h1 82 (ptr (a6) (0))).map (·, h1), Value.pointer (some { block := bo, off := 0 }), h1⟩] (by kernel_rfl) ⟨ob_load (P := Tryz.prog) (T := 22) (k := 6) Wh1 rfl rfl (by kernel_rfl), ob_load (P := Tryz.prog) (T := 22) (k := 6) Wq4 rfl rfl (by kernel_rfl), ob_load (P := Tryz.prog) (T := 79) (k := 5) Wh1 rfl rfl (by kernel_rfl), ob_load (P := Tryz.prog) (T := 79) (k := 5) Wq4 rfl rfl (by kernel_rfl), ob_loadA (P := Tryz.prog) (T := 76) (k := 0) (z := 2) Wq1 rfl (by kernel_rfl) (by kernel_rfl) rfl, ob_load (P := Tryz.prog) (T := 3) (k := 3) Wq1 rfl rfl (by kernel_rfl), ob_load (P := Tryz.prog) (T := 3) (k := 3) Wh1 rfl rfl (by kernel_rfl), ob_load (P := Tryz.prog) (T := 82) (k := 2) Wq1 rfl rfl (by kernel_rfl), ob_load (P := Tryz.prog) (T := 82) (k := 2) Wh1 rfl rfl (by kernel_rfl), trivial⟩ ?_
    refine ok_go 0 ?_
    exact sy_done 0 (v := .bool true) (h := h2) (by kernel_rfl) (.inr ⟨rfl, hc, res, rfl, One.after W.ext X, Fd⟩)
theorem find_skip {α : Type} {L : List (Nat × Nat)} {r : Nat × Nat → Option α} {k : Nat} (hk : k < L.length) (h : r L[k] = none) : (L.drop k).findSome? r = (L.drop (k + 1)).findSome? r := by
  rw [List.drop_eq_getElem_cons hk, List.findSome?_cons, h]
theorem find_hit {α : Type} {L : List (Nat × Nat)} {r : Nat × Nat → Option α} {k : Nat} {res : α} (hk : k < L.length) (h : r L[k] = some res) : (L.drop k).findSome? r = some res := by
  rw [List.drop_eq_getElem_cons hk, List.findSome?_cons, h]
theorem idx_of {α : Type} (lf m : Nat) (hlf : 5000 ≤ lf) (a1 a2 a3 a4 a5 a6 : Nat) (l : Value) (L : List (Nat × Nat)) (hL : L.length ≤ 4200) (r : Nat × Nat → Option α) (IV : Hp → Prop) (E : α → Hp → Prop) (hI : ∀ g, IV g → Sl2 g 76 l L)
    (hy : ∀ p g, p ∈ L → IV g → ∃ y g', Ev lf m 72 [.agg #[J p.1, J p.2], ptr a1 0, ptr a2 0, ptr a3 0, ptr a4 0, ptr a5 0, ptr a6 0] g = some (y, g') ∧ ((y = .bool false ∧ r p = none ∧ IV g') ∨ (y = .bool true ∧ ∃ res, r p = some res ∧ E res g'))) (h : Hp) (h0 : IV h) :
    ∃ y h', Ev lf (m + 1) 88 [l, .func (.func 72) #[] #[ptr a1 0, ptr a2 0, ptr a3 0, ptr a4 0, ptr a5 0, ptr a6 0]] h = some (y, h') ∧ ((y = I (-1) ∧ L.findSome? r = none ∧ IV h') ∨ (∃ k res, y = J k ∧ L.findSome? r = some res ∧ E res h')) := by
  refine fnS_ok (Q := fun y h' => ((y = I (-1) ∧ L.findSome? r = none ∧ IV h') ∨ (∃ k res, y = J k ∧ L.findSome? r = some res ∧ E res h'))) ?_
  have hl := (hI h h0).open_.shape
  obtain ⟨la, lc, rfl⟩ := hl
  refine ok_go 1 ?_
  refine sy_loop 0 lf h (α := Nat) (fun k => [(0, .slice la L.length lc), (1, .func (.func 72) #[] #[ptr a1 0, ptr a2 0, ptr a3 0, ptr a4 0, ptr a5 0, ptr a6 0]), (7, J L.length), (8, J k)])
    (fun k g => k ≤ L.length ∧ IV g ∧ L.findSome? r = (L.drop k).findSome? r) (fun k _ => L.length - k) 0 (by kernel_rfl) (by kernel_rfl) ⟨by kernel_rfl, by kernel_rfl, by kernel_rfl, by kernel_rfl, trivial⟩ (show L.length - 0 < lf by omega) ⟨Nat.zero_le _, h0, rfl⟩ ?_
  rintro m1 k f1 g ⟨hk, hg, hf⟩ ih
  refine ok_go 1 ?_
  refine sy_test 0 (decide (Int.ofNat k < Int.ofNat L.length)) (by kernel_rfl) ?_ ?_
  rotate_left
  · intro hlt
    have hlt := no_nat hlt
    obtain rfl : k = L.length := by omega
    refine ok_go 0 ?_
    exact sy_done 0 (v := I (-1)) (h := g) (by kernel_rfl) (.inl ⟨rfl, by rw [hf, List.drop_length]; rfl, hg⟩)
  intro hlt
  have hlt := ok_nat hlt
  have hwk : IntKind.wrap .i64 (Int.ofNat (k + 1)) = Int.ofNat (k + 1) := wrap_nat (by omega)
  obtain ⟨q, e1, e2⟩ := (hI g hg).open_.read s49 agP (List.getElem?_eq_getElem hlt)
  obtain ⟨y, g2, e3, C⟩ := hy L[k] g (List.getElem_mem hlt) hg
  refine ok_go 0 ?_
  refine sy_load 0 (h' := g) (by kernel_rfl) e1 ?_
  refine sy_load 0 (h' := g) (by kernel_rfl) e2 ?_
  refine sy_call 0 (by kernel_rfl) e3 ?_
  rcases C with ⟨rfl, hr, hg2⟩ | ⟨rfl, res, hr, hE⟩
  · refine ok_go 2 ?_
    exact sy_next 0 _ g2 (by kernel_rfl) (by kernel_rfl) (ih (k + 1) _ g2 ⟨hlt, hg2, by rw [hf, find_skip hlt hr]⟩ (show L.length - (k + 1) < L.length - k by omega) ⟨by kernel_rfl, by kernel_rfl, by kernel_rfl, (by kernel_rfl : _ = Value.int .i64 (IntKind.wrap .i64 (Int.ofNat (k + 1)))).trans (by rw [hwk]), trivial⟩)
  · refine ok_go 1 ?_
    exact sy_done 0 (v := J k) (h := g2) (by kernel_rfl) (.inr ⟨k, res, rfl, by rw [hf, find_hit hlt hr], hE⟩)
theorem con_of {α : Type} (lf m : Nat) (a1 a2 a3 a4 a5 a6 : Nat) (l : Value) (L : List (Nat × Nat)) (r : Nat × Nat → Option α) (IV : Hp → Prop) (E : α → Hp → Prop) (h : Hp)
    (ix : ∃ y h', Ev lf m 88 [l, .func (.func 72) #[] #[ptr a1 0, ptr a2 0, ptr a3 0, ptr a4 0, ptr a5 0, ptr a6 0]] h = some (y, h') ∧ ((y = I (-1) ∧ L.findSome? r = none ∧ IV h') ∨ (∃ k res, y = J k ∧ L.findSome? r = some res ∧ E res h'))) :
    ∃ y h', Ev lf (m + 1) 71 [l, .func (.func 72) #[] #[ptr a1 0, ptr a2 0, ptr a3 0, ptr a4 0, ptr a5 0, ptr a6 0]] h = some (y, h') ∧ ((y = .bool false ∧ L.findSome? r = none ∧ IV h') ∨ (y = .bool true ∧ ∃ res, L.findSome? r = some res ∧ E res h')) := by
  refine fnS_ok (Q := fun y h' => ((y = .bool false ∧ L.findSome? r = none ∧ IV h') ∨ (y = .bool true ∧ ∃ res, L.findSome? r = some res ∧ E res h'))) ?_
  obtain ⟨y, g, e, C⟩ := ix
  refine ok_go 0 ?_
  refine sy_call 0 (by kernel_rfl) e ?_
  rcases C with ⟨rfl, hr, hg⟩ | ⟨k, res, rfl, hr, hE⟩
  · refine ok_go 1 ?_
    exact sy_done 0 (v := .bool (decide ((-1 : Int) ≥ 0))) (h := g) (by kernel_rfl) (.inl ⟨rfl, hr, hg⟩)
  · refine ok_go 1 ?_
    exact sy_done 0 (v := .bool (decide (Int.ofNat k ≥ 0))) (h := g) (by kernel_rfl) (.inr ⟨by rw [decide_eq_true (by exact Int.natCast_nonneg k)], res, hr, hE⟩)
/-- The first true input that is not covered. -/
def fs1 (f d : Nat → Bool) : Nat → Nat → Option Nat
  | 0, _ => none
  | k + 1, x => if f x && !d x then some x else fs1 f d k (x + 1)
def don (sm : List (Nat × Nat)) (x : Nat) : Bool := sm.any fun p => inP p x
def srch (f : Nat → Bool) (N : Nat) (L : List (Nat × Nat)) : Nat → List (Nat × Nat) → Option (List (Nat × Nat))
  | 0, sm => match fs1 f (don sm) N 0 with
    | none => some sm
    | some _ => none
  | n + 1, sm => match fs1 f (don sm) N 0 with
    | none => some sm
    | some x => L.findSome? fun p => if inP p x then srch f N L n (sm ++ [p]) else none
theorem cov_of (f : Nat → Bool) (N : Nat) (hN : N ≤ 64) (lf m : Nat) (hlf : 5000 ≤ lf) (b0 c bo n : Nat) (hn : n < 64) (l s : Value) (L sm : List (Nat × Nat)) (hsm : sm.length ≤ 12) (is : Nat) (hs : s = oslV is sm.length) (h : Hp) (A : ArB b0 N f h) (KL : Sl2 h 76 l L) (Ks : Hold h (oent is 76 (flat2 sm)))
    (v0 : Value) (hbo : bo < h.next) (go : h.get bo = some (.cells [v0] 79 false))
    (cl : ∀ h, Hold h (oent is 76 (flat2 sm)) → ∃ y h', Ev lf m 68 [s] h = some (y, h') ∧ ∃ i', y = oslV i' sm.length ∧ Sto h h' (oent i' 76 (flat2 sm)))
    (so : ∀ i c h, i < h.next → h.get i = some (.cells (flat2 sm) 76 true) → ∃ v h', Ev lf m 69 [.slice (some ⟨i, 0, none⟩) sm.length c, .func (.func 70) #[] #[]] h = some (v, h') ∧ One i h h' ∧ ∃ qs : List (Nat × Nat), qs.Perm sm ∧ Srt qs ∧ h'.get i = some (.cells (flat2 qs) 76 true))
    (so0 : sm = [] → ∀ h, Ev lf m 69 [.slice none 0 0, .func (.func 70) #[] #[]] h = some (undef, h))
    (cn : ∀ n', n = n' + 1 → ∀ a1 a2 a3 a4 a5 a6 x g, x < N → Sto h g (BL a1 a2 a3 a4 a5 a6 x n (.slice (some ⟨b0, 0, none⟩) N c) l s (ptr bo 0)) → ∃ y g', Ev lf m 71 [l, .func (.func 72) #[] #[ptr a1 0, ptr a2 0, ptr a3 0, ptr a4 0, ptr a5 0, ptr a6 0]] g = some (y, g') ∧
      ((y = .bool false ∧ (L.findSome? fun p => if inP p x then srch f N L n' (sm ++ [p]) else none) = none ∧ Sto h g' (BL a1 a2 a3 a4 a5 a6 x n (.slice (some ⟨b0, 0, none⟩) N c) l s (ptr bo 0))) ∨ (y = .bool true ∧ ∃ res, (L.findSome? fun p => if inP p x then srch f N L n' (sm ++ [p]) else none) = some res ∧ One bo h g' ∧ Fnd bo res g'))) :
    ∃ y h', Ev lf (m + 1) 46 [.slice (some ⟨b0, 0, none⟩) N c, l, s, J n, ptr bo 0] h = some (y, h') ∧ CR bo h y h' (srch f N L n sm) := by
  refine fnS_ok (Q := fun y h' => CR bo h y h' (srch f N L n sm)) ?_
  obtain ⟨sa, sc, hsv⟩ : ∃ sa sc, s = .slice sa sm.length sc := by
    rw [hs]
    cases sm.length with
    | zero => exact ⟨_, _, rfl⟩
    | succ k => exact ⟨_, _, rfl⟩
  subst hsv
  obtain ⟨la, lc, rfl⟩ := KL.open_.shape
  have W := Sto.start h
  refine ow_new 0 W (AObj.cells [Value.slice (some { block := b0, off := 0 }) N c] 22 false) (fun q => Value.pointer (some { block := q, off := 0 })) (by kernel_rfl) fun g1 ng1 Wg1 => ?_
  have W := Wg1
  refine ow_new 0 W (AObj.cells [Value.slice la (List.length L) lc] 79 false) (fun q => Value.pointer (some { block := q, off := 0 })) (by kernel_rfl) fun g2 ng2 Wg2 => ?_
  have W := Wg2
  refine ow_new 0 W (AObj.cells [Value.slice sa (List.length sm) sc] 79 false) (fun q => Value.pointer (some { block := q, off := 0 })) (by kernel_rfl) fun g3 ng3 Wg3 => ?_
  have W := Wg3
  refine ow_new 0 W (AObj.cells [Value.int IntKind.i64 (Int.ofNat n)] 3 false) (fun q => Value.pointer (some { block := q, off := 0 })) (by kernel_rfl) fun g4 ng4 Wg4 => ?_
  have W := Wg4
  refine ow_new 0 W (AObj.cells [Value.pointer (some { block := bo, off := 0 })] 82 false) (fun q => Value.pointer (some { block := q, off := 0 })) (by kernel_rfl) fun g5 ng5 Wg5 => ?_
  have W := Wg5
  refine ow_new 0 W (AObj.cells [Value.int IntKind.i64 (Int.ofNat 0)] 3 false) (fun q => Value.pointer (some { block := q, off := 0 })) (by kernel_rfl) fun g6 ng6 Wg6 => ?_
  have W := Wg6
  refine ow_store (P := Tryz.prog) (T := 3) (off := 0) (v := Value.int IntKind.i64 (Int.negSucc 0)) 0 0 W rfl (Nat.le_of_ble_eq_true (by kernel_rfl)) (by kernel_rfl) (by first | rfl | assumption) (by kernel_rfl) fun g7 ng7 Wg7 => ?_
  have W := Wg7
  refine ow_load (P := Tryz.prog) (T := 22) (off := 0) 0 5 W rfl rfl (by kernel_rfl) (by kernel_rfl) ?_
  refine ok_go 1 ?_
  have W : Sto h g7 [(g5.next, .cells [I (-1)] 3 false), (g4.next, .cells [ptr bo 0] 82 false), (g3.next, .cells [J n] 3 false), (g2.next, .cells [.slice sa sm.length sc] 79 false), (g1.next, .cells [.slice la L.length lc] 79 false), (h.next, .cells [.slice (some ⟨b0, 0, none⟩) N c] 22 false)] := W
  refine sy_loop 0 lf g7 (α := Nat) (fun x => [(5, ptr h.next 0), (6, ptr g1.next 0), (7, ptr g2.next 0), (8, ptr g3.next 0), (9, ptr g4.next 0), (11, ptr g5.next 0), (16, .slice (some ⟨b0, 0, none⟩) N c), (17, J N), (18, J x)])
    (fun x g => x ≤ N ∧ Sto h g [(g5.next, .cells [I (-1)] 3 false), (g4.next, .cells [ptr bo 0] 82 false), (g3.next, .cells [J n] 3 false), (g2.next, .cells [.slice sa sm.length sc] 79 false), (g1.next, .cells [.slice la L.length lc] 79 false), (h.next, .cells [.slice (some ⟨b0, 0, none⟩) N c] 22 false)] ∧ fs1 f (don sm) N 0 = fs1 f (don sm) (N - x) x) (fun x _ => N - x) 0 (by kernel_rfl) (by kernel_rfl)
    ⟨by kernel_rfl, by kernel_rfl, by kernel_rfl, by kernel_rfl, by kernel_rfl, by kernel_rfl, by kernel_rfl, by kernel_rfl, by kernel_rfl, trivial⟩ (show N - 0 < lf by omega) ⟨Nat.zero_le _, W, rfl⟩ ?_
  rintro m1 x f1 q ⟨hx, W, hfs⟩ ih
  have Wq := W
  refine ok_go 1 ?_
  refine sy_test 0 (decide (Int.ofNat x < Int.ofNat N)) (by kernel_rfl) ?_ ?_
  rotate_left
  · intro hlt
    have hlt := no_nat hlt
    obtain rfl : x = N := by omega
    rw [Nat.sub_self] at hfs
    refine ow_load (P := Tryz.prog) (T := 3) (off := 0) 0 0 W rfl rfl (by kernel_rfl) (by kernel_rfl) ?_
    refine ow_load (P := Tryz.prog) (T := 82) (off := 0) 2 1 W rfl rfl (by kernel_rfl) (by kernel_rfl) ?_
    refine ow_load (P := Tryz.prog) (T := 79) (off := 0) 0 3 W rfl rfl (by kernel_rfl) (by kernel_rfl) ?_
    obtain ⟨y, h1, e1, i', hy, V⟩ := cl q (Ks.ext W.ext)
    refine sy_call 0 (by kernel_rfl) e1 ?_
    have W := (W.over V).perm List.perm_append_comm
    have Wh1 := W
    obtain ⟨ya, yc, rfl⟩ : ∃ ya yc, y = .slice ya sm.length yc := by
      rw [hy]
      cases sm.length with
      | zero => exact ⟨_, _, rfl⟩
      | succ k => exact ⟨_, _, rfl⟩
    have hnx := W.ext.next
    have gbo := (W.ext.get bo hbo).trans go
    have st := store1 (P := Tryz.prog) (h := h1) (t := 79) (i := bo) (off := 0) (v := .slice ya sm.length yc) (by kernel_rfl) rfl gbo (by show 0 < 1; omega)
    refine ok_go 1 ?_
    refine sy_store 0 (h' := h1.put bo (.cells [.slice ya sm.length yc] 79 false)) (by kernel_rfl) st ?_
    have hi' : ∀ z ∈ oent i' 76 (flat2 sm), h.next ≤ z.1 ∧ z.1 < h1.next ∧ h1.get z.1 = some z.2 := fun z hz => W.all z (List.mem_append_right _ hz)
    have w9 := W.mem (k := 1) rfl
    have X2 : One bo h1 (h1.put bo (.cells [.slice ya sm.length yc] 79 false)) := (One.refl bo h1).put _
    have G2 : (h1.put bo (.cells [.slice ya sm.length yc] 79 false)).get bo = some (.cells [.slice ya sm.length yc] 79 false) := get_put _ _ _
    have n2 : (h1.put bo (.cells [.slice ya sm.length yc] 79 false)).next = h1.next := rfl
    have K9 : (h1.put bo (.cells [.slice ya sm.length yc] 79 false)).get g4.next = some (.cells [ptr bo 0] 82 false) := by
      rw [X2.get _ w9.2.1 (by have := w9.1; omega)]
      exact w9.2.2
    have Ki : ∀ z ∈ oent i' 76 (flat2 sm), z.1 < (h1.put bo (.cells [.slice ya sm.length yc] 79 false)).next ∧ (h1.put bo (.cells [.slice ya sm.length yc] 79 false)).get z.1 = some z.2 := fun z hz => by
      obtain ⟨r1, r2, r3⟩ := hi' z hz
      exact ⟨r2, (X2.get z.1 r2 (by omega)).trans r3⟩
    have hsr : srch f x L n sm = some sm := by
      have : fs1 f (don sm) x 0 = none := hfs
      cases n with
      | zero => rw [srch, this]
      | succ n => rw [srch, this]
    rw [hsr]
    refine ok_go 0 ?_
    refine sy_need 0 [] [⟨(loadT Tryz.prog h1 82 (ptr (Hp.next g4) (0))).map (·, h1), Value.pointer (some { block := bo, off := 0 }), h1⟩] (by kernel_rfl) ⟨ob_load (P := Tryz.prog) (T := 82) (k := 1) Wh1 rfl rfl (by kernel_rfl), trivial⟩ ?_
    generalize h1.put bo (.cells [.slice ya sm.length yc] 79 false) = h2 at *
    refine ok_go 0 ?_
    refine sy_load 0 (h' := h2) (by kernel_rfl) (load1 (P := Tryz.prog) (t := 82) (i := g4.next) (off := 0) (by kernel_rfl) K9 rfl) ?_
    refine ok_go 1 ?_
    refine sy_load 0 (h' := h2) (by kernel_rfl) (load1 (P := Tryz.prog) (t := 79) (i := bo) (off := 0) (by kernel_rfl) G2 rfl) ?_
    cases sm with
    | nil =>
      have hy' : Value.slice ya 0 yc = .slice none 0 0 := hy
      cases hy'
      refine sy_call 0 (by kernel_rfl) (so0 rfl h2) ?_
      refine ok_go 0 ?_
      exact sy_done 0 (v := .bool true) (h := h2) (by kernel_rfl) ⟨rfl, One.after W.ext X2, [], List.Perm.refl _, List.Pairwise.nil, _, G2, 0, rfl, fun z hz => (by cases hz)⟩
    | cons p r =>
      have hy' : Value.slice ya (r.length + 1) yc = .slice (some ⟨i', 0, none⟩) (r.length + 1) (2 * (r.length + 1) + 1) := hy
      cases hy'
      obtain ⟨k1, k2⟩ := Ki (i', .cells (flat2 (p :: r)) 76 true) (List.mem_singleton.2 rfl)
      obtain ⟨k0, _, _⟩ := hi' (i', .cells (flat2 (p :: r)) 76 true) (List.mem_singleton.2 rfl)
      obtain ⟨v, h3, e3, X3, qs, P3, S3, G3⟩ := so i' (2 * (r.length + 1) + 1) h2 k1 k2
      refine sy_call 0 (by kernel_rfl) e3 ?_
      refine ok_go 0 ?_
      refine sy_done 0 (v := .bool true) (h := h3) (by kernel_rfl) ⟨rfl, ⟨?_, fun j hj1 hj2 => ?_⟩, qs, P3, S3, .slice (some ⟨i', 0, none⟩) (r.length + 1) (2 * (r.length + 1) + 1), ?_, i', ?_, ?_⟩
      · have := X3.next; omega
      · rw [X3.get j (by omega) (by simp only at k0; omega), X2.get j (by omega) hj2]
        exact W.ext.get j hj1
      · rw [X3.get bo (by omega) (by simp only at k0; omega)]
        exact G2
      · rw [P3.length_eq]; rfl
      · have hq := P3.length_eq
        cases qs with
        | nil => simp at hq
        | cons q1 qr =>
          have nx3 := X3.next
          have kk : i' < h3.next := by simp only at k1; omega
          intro z hz
          have hz : z = (i', .cells (flat2 (q1 :: qr)) 76 true) := List.mem_singleton.1 hz
          rw [hz]
          exact ⟨kk, G3⟩
  intro hlt
  have hlt := ok_nat hlt
  have hwx : IntKind.wrap .i64 (Int.ofNat (x + 1)) = Int.ofNat (x + 1) := wrap_nat (by omega)
  have A' := A.ext W.ext
  have hfs' := hfs
  rw [show N - x = (N - (x + 1)) + 1 by omega, fs1] at hfs
  refine sy_load 0 (r := indexAddrOp Tryz.prog 22 (Value.slice (some { block := b0, off := 0 }) N c) (Value.int IntKind.i64 (Int.ofNat x))) (h' := q) (by kernel_rfl) (idxS0 (e := 4) (by kernel_rfl) (by kernel_rfl) (by omega)) ?_
  refine sy_load 0 (r := loadT Tryz.prog q 4 (ptr (b0) (x))) (h' := q) (by kernel_rfl) ((A.ext W.ext).read (by omega)) ?_
  refine ok_go 1 ?_
  refine sy_test 0 (!f x) (by kernel_rfl) ?_ ?_
  · intro hf
    rw [if_neg (by simp at hf; simp [hf])] at hfs
    refine ok_go 1 ?_
    exact sy_next 0 _ q (by kernel_rfl) (by kernel_rfl) (ih (x + 1) _ q ⟨hlt, W, hfs⟩ (show N - (x + 1) < N - x by omega) ⟨by kernel_rfl, by kernel_rfl, by kernel_rfl, by kernel_rfl, by kernel_rfl, by kernel_rfl, by kernel_rfl, by kernel_rfl, (by kernel_rfl : _ = Value.int .i64 (IntKind.wrap .i64 (Int.ofNat (x + 1)))).trans (by rw [hwx]), trivial⟩)
  intro hf
  have hf : f x = true := by simpa using hf
  rw [hf, Bool.true_and] at hfs
  refine ow_load (P := Tryz.prog) (T := 79) (off := 0) 0 3 W rfl rfl (by kernel_rfl) (by kernel_rfl) ?_
  refine ok_go 1 ?_
  have hand : ∀ p : Nat × Nat, (andI (Int.ofNat x) (Int.ofNat p.1) == Int.ofNat p.2) = inP p x := fun p => by rw [and_nat (by omega), eq_int]; rfl
  refine sy_loop 0 lf q (α := Nat) (fun j => [(5, ptr h.next 0), (6, ptr g1.next 0), (7, ptr g2.next 0), (8, ptr g3.next 0), (9, ptr g4.next 0), (11, ptr g5.next 0), (16, .slice (some ⟨b0, 0, none⟩) N c), (17, J N), (18, J x), (12, J x), (25, .slice sa sm.length sc), (26, J sm.length), (27, J j)])
    (fun j g => j ≤ sm.length ∧ Sto h g [(g5.next, .cells [I (-1)] 3 false), (g4.next, .cells [ptr bo 0] 82 false), (g3.next, .cells [J n] 3 false), (g2.next, .cells [.slice sa sm.length sc] 79 false), (g1.next, .cells [.slice la L.length lc] 79 false), (h.next, .cells [.slice (some ⟨b0, 0, none⟩) N c] 22 false)] ∧ (sm.take j).any (fun p => inP p x) = false) (fun j _ => sm.length - j) 0 (by kernel_rfl) (by kernel_rfl)
    ⟨by kernel_rfl, by kernel_rfl, by kernel_rfl, by kernel_rfl, by kernel_rfl, by kernel_rfl, by kernel_rfl, by kernel_rfl, by kernel_rfl, by kernel_rfl, by kernel_rfl, by kernel_rfl, by kernel_rfl, trivial⟩ (show sm.length - 0 < lf by omega) ⟨Nat.zero_le _, W, rfl⟩ ?_
  rintro m2 j f2 z ⟨hj, W, hany⟩ ih2
  refine ok_go 1 ?_
  refine sy_test 0 (decide (Int.ofNat j < Int.ofNat sm.length)) (by kernel_rfl) ?_ ?_
  rotate_left
  · intro hlt2
    have hlt2 := no_nat hlt2
    obtain rfl : j = sm.length := by omega
    rw [List.take_length] at hany
    rw [show don sm x = false from hany, Bool.not_false, if_pos rfl] at hfs
    refine ow_store (P := Tryz.prog) (T := 3) (off := 0) (v := Value.int IntKind.i64 (Int.ofNat x)) 0 0 W rfl (Nat.le_of_ble_eq_true (by kernel_rfl)) (by kernel_rfl) (by first | rfl | assumption) (by kernel_rfl) fun w1 nw1 Ww1 => ?_
    have W := Ww1
    refine ow_load (P := Tryz.prog) (T := 3) (off := 0) 0 0 W rfl rfl (by kernel_rfl) (by kernel_rfl) ?_
    refine ow_load (P := Tryz.prog) (T := 3) (off := 0) 2 2 W rfl rfl (by kernel_rfl) (by kernel_rfl) ?_
    refine ok_go 1 ?_
    have hn0 : (Int.ofNat n == 0) = (n == 0) := eq_int n 0
    refine sy_test 0 (Int.ofNat n == 0) (by kernel_rfl) ?_ ?_
    · intro h0
      rw [hn0] at h0
      obtain rfl : n = 0 := by simpa using h0
      refine ok_go 0 ?_
      refine sy_done 0 (v := .bool false) (h := w1) (by kernel_rfl) ?_
      rw [srch, hfs]
      exact ⟨rfl, W.ext⟩
    intro h0
    rw [hn0] at h0
    have hnz : n ≠ 0 := by simpa using h0
    obtain ⟨n', rfl⟩ : ∃ n', n = n' + 1 := ⟨n - 1, by omega⟩
    refine ow_load (P := Tryz.prog) (T := 79) (off := 0) 0 4 W rfl rfl (by kernel_rfl) (by kernel_rfl) ?_
    refine ok_go 1 ?_
    obtain ⟨y, g', e, C⟩ := cn n' rfl g5.next h.next g1.next g2.next g3.next g4.next x w1 hlt W
    refine sy_call 0 (by kernel_rfl) e ?_
    have hsr : srch f N L (n' + 1) sm = L.findSome? fun p => if inP p x then srch f N L n' (sm ++ [p]) else none := by rw [srch, hfs]
    rw [hsr]
    rcases C with ⟨rfl, hr, W⟩ | ⟨rfl, res, hr, X, Fd⟩
    · rw [hr]
      refine ok_go 0 ?_
      exact sy_done 0 (v := .bool false) (h := g') (by kernel_rfl) ⟨rfl, W.ext⟩
    · rw [hr]
      refine ok_go 0 ?_
      exact sy_done 0 (v := .bool true) (h := g') (by kernel_rfl) ⟨rfl, X, Fd⟩
  intro hlt2
  have hlt2 := ok_nat hlt2
  have hwj : IntKind.wrap .i64 (Int.ofNat (j + 1)) = Int.ofNat (j + 1) := wrap_nat (by omega)
  have Ss : Sl2 z 76 (.slice sa sm.length sc) sm := ⟨is, hs, Ks.ext W.ext⟩
  obtain ⟨aa, e1, e2⟩ := Ss.open_.read s49 agP (List.getElem?_eq_getElem hlt2)
  refine ok_go 0 ?_
  refine sy_load 0 (h' := z) (by kernel_rfl) e1 ?_
  refine sy_load 0 (h' := z) (by kernel_rfl) e2 ?_
  refine ow_new 0 W (AObj.cells [Value.int IntKind.i64 (Int.ofNat 0), Value.int IntKind.i64 (Int.ofNat 0)] 76 false) (fun q => Value.pointer (some { block := q, off := 0 })) (by kernel_rfl) fun w1 nw1 Ww1 => ?_
  have W := Ww1
  refine ow_storeA (P := Tryz.prog) (T := 76) (v := Value.agg { toList := [Value.int IntKind.i64 (Int.ofNat (Prod.fst sm[j])), Value.int IntKind.i64 (Int.ofNat (Prod.snd sm[j]))] }) 0 0 W ([Value.int IntKind.i64 (Int.ofNat (Prod.fst sm[j])), Value.int IntKind.i64 (Int.ofNat (Prod.snd sm[j]))]) rfl rfl rfl (by kernel_rfl) (by first | rfl | (repeat' (first | exact rfl | assumption | apply sc_cons))) (by kernel_rfl) fun w2 nw2 Ww2 => ?_
  have W := Ww2
  refine ow_load (P := Tryz.prog) (T := 3) (off := 0) 1 0 W rfl rfl (by kernel_rfl) (by kernel_rfl) ?_
  refine ow_load (P := Tryz.prog) (T := 3) (off := 1) 2 0 W rfl rfl (by kernel_rfl) (by kernel_rfl) ?_
  refine ok_go 1 ?_
  refine sy_test 0 (andI (Int.ofNat x) (Int.ofNat sm[j].1) == Int.ofNat sm[j].2) (by kernel_rfl) ?_ ?_
  · intro hc
    rw [hand] at hc
    have hd : don sm x = true := List.any_eq_true.2 ⟨sm[j], List.getElem_mem hlt2, hc⟩
    rw [hd, Bool.not_true, if_neg (by decide)] at hfs
    refine ok_go 1 ?_
    exact sy_next 0 _ w2 (by kernel_rfl) (by kernel_rfl) (ih (x + 1) _ w2 ⟨hlt, W.drop 1, hfs⟩ (show N - (x + 1) < N - x by omega) ⟨by kernel_rfl, by kernel_rfl, by kernel_rfl, by kernel_rfl, by kernel_rfl, by kernel_rfl, by kernel_rfl, by kernel_rfl, (by kernel_rfl : _ = Value.int .i64 (IntKind.wrap .i64 (Int.ofNat (x + 1)))).trans (by rw [hwx]), trivial⟩)
  intro hc
  rw [hand] at hc
  refine ok_go 1 ?_
  exact sy_next 0 _ w2 (by kernel_rfl) (by kernel_rfl) (ih2 (j + 1) _ w2 ⟨hlt2, W.drop 1, by rw [List.take_succ_eq_append_getElem hlt2, List.any_append, hany, List.any_cons, hc]; rfl⟩ (show sm.length - (j + 1) < sm.length - j by omega) ⟨by kernel_rfl, by kernel_rfl, by kernel_rfl, by kernel_rfl, by kernel_rfl, by kernel_rfl, by kernel_rfl, by kernel_rfl, by kernel_rfl, by kernel_rfl, by kernel_rfl, by kernel_rfl, (by kernel_rfl : _ = Value.int .i64 (IntKind.wrap .i64 (Int.ofNat (j + 1)))).trans (by rw [hwj]), trivial⟩)
theorem sort_nil (k : Nat) (h : Hp) : Ev 100000 (k + 20) 69 [.slice none 0 0, .func (.func 70) #[] #[]] h = some (undef, h) := by
  kernel_rfl
theorem cov_all (f : Nat → Bool) (N : Nat) (hN : N ≤ 64) (b0 c bo : Nat) (l : Value) (L : List (Nat × Nat)) (hL : L.length ≤ 4200) : ∀ (n k : Nat) (sm : List (Nat × Nat)) (is : Nat) (s v0 : Value) (h : Hp), sm.length + n ≤ 12 → s = oslV is sm.length → ArB b0 N f h → Sl2 h 76 l L → Hold h (oent is 76 (flat2 sm)) → bo < h.next → h.get bo = some (.cells [v0] 79 false) →
    ∃ y h', Ev 100000 (4 * n + k + 30) 46 [.slice (some ⟨b0, 0, none⟩) N c, l, s, J n, ptr bo 0] h = some (y, h') ∧ CR bo h y h' (srch f N L n sm) := by
  intro n
  induction n with
  | zero =>
    intro k sm is s v0 h hsm hs A KL Ks hbo go
    have hs' := hs
    refine cov_of f N hN 100000 (4 * 0 + k + 29) (by decide) b0 c bo 0 (by decide) l s L sm (by omega) is hs h A KL Ks v0 hbo go (fun g K => ?_) (fun i c g hi gi => ?_) (fun _ g => ?_) (fun n' e => by omega)
    · rw [hs]
      exact clone_of 100000 (4 * 0 + k + 28) is sm (by omega) g K
    · exact sort_of 100000 (4 * 0 + k + 28) (by decide) i c true sm (by omega) g (len_of (4 * 0 + k + 18) sm.length (by omega) g) fun q => pdq_of 100000 (4 * 0 + k + 27) (by decide) i c true sm (by omega) q g (isort_of 100000 (4 * 0 + k + 26) (by decide) i c true sm (by omega) g hi gi fun a b c d g => pcmp_of 100000 (4 * 0 + k + 22) (by decide) a b c d g)
    · exact sort_nil (4 * 0 + k + 9) g
  | succ n ih =>
    intro k sm is s v0 h hsm hs A KL Ks hbo go
    have e4 : 4 * (n + 1) + k + 30 = 4 * n + k + 33 + 1 := by omega
    rw [e4]
    refine cov_of f N hN 100000 (4 * n + k + 33) (by decide) b0 c bo (n + 1) (by omega) l s L sm (by omega) is hs h A KL Ks v0 hbo go (fun g K => ?_) (fun i c g hi gi => ?_) (fun _ g => ?_) (fun n' e a1 a2 a3 a4 a5 a6 x g hx W => ?_)
    · rw [hs]
      exact clone_of 100000 (4 * n + k + 32) is sm (by omega) g K
    · exact sort_of 100000 (4 * n + k + 32) (by decide) i c true sm (by omega) g (len_of (4 * n + k + 22) sm.length (by omega) g) fun q => pdq_of 100000 (4 * n + k + 31) (by decide) i c true sm (by omega) q g (isort_of 100000 (4 * n + k + 30) (by decide) i c true sm (by omega) g hi gi fun a b c d g => pcmp_of 100000 (4 * n + k + 26) (by decide) a b c d g)
    · exact sort_nil (4 * n + k + 13) g
    · obtain rfl : n = n' := by omega
      refine con_of 100000 (4 * n + k + 32) a1 a2 a3 a4 a5 a6 l L (fun p => if inP p x then srch f N L n (sm ++ [p]) else none) (fun g => Sto h g (BL a1 a2 a3 a4 a5 a6 x (n + 1) (.slice (some ⟨b0, 0, none⟩) N c) l s (ptr bo 0))) (fun res g => One bo h g ∧ Fnd bo res g) g ?_
      refine idx_of 100000 (4 * n + k + 31) (by decide) a1 a2 a3 a4 a5 a6 l L hL (fun p => if inP p x then srch f N L n (sm ++ [p]) else none) (fun g => Sto h g (BL a1 a2 a3 a4 a5 a6 x (n + 1) (.slice (some ⟨b0, 0, none⟩) N c) l s (ptr bo 0))) (fun res g => One bo h g ∧ Fnd bo res g) (fun g W => KL.ext W.ext) (fun p g hp W => ?_) g W
      obtain ⟨y, g', e, C⟩ := cl_of 100000 (4 * n + k + 30) (by decide) b0 N c a1 a2 a3 a4 a5 a6 x n bo (by omega) (by omega) l is sm (by omega) p s hs h g Ks W (srch f N L n (sm ++ [p])) (fun g K => by rw [hs]; exact clone_of 100000 (4 * n + k + 29) is sm (by omega) g K)
        (fun h' i' X K => ih k (sm ++ [p]) i' (oslV i' (sm.length + 1)) v0 h' (by rw [List.length_append, List.length_singleton]; omega) (by rw [List.length_append, List.length_singleton]) (A.ext X) (KL.ext X) K (by have := X.next; omega) ((X.get bo hbo).trans go))
      refine ⟨y, g', e, ?_⟩
      rcases C with ⟨hy, hr, W'⟩ | ⟨hy, hin, res, hr, X, Fd⟩
      · refine .inl ⟨hy, ?_, W'⟩
        by_cases hin : inP p x = true
        · rw [if_pos hin]; exact hr hin
        · rw [if_neg hin]
      · exact .inr ⟨hy, res, by rw [if_pos hin]; exact hr, X, Fd⟩
theorem cover_of (f : Nat → Bool) (N : Nat) (lf m : Nat) (hlf : 5000 ≤ lf) (b0 c : Nat) (h : Hp) (A : ArB b0 N f h) (L : List (Nat × Nat)) (n0 : Nat) (hn0 : n0 ≤ 12) (res : List (Nat × Nat)) (hres : srch f N L n0 [] = some res) (hr12 : res.length ≤ 4200) (hmin : ∀ n, n < n0 → srch f N L n [] = none)
    (ck : Ev lf m 41 [.slice (some ⟨b0, 0, none⟩) N c, J 4] h = some (J 0, h))
    (pr : ∀ bd h, ArB b0 N f h → Dcd bd b0 N c h → ∃ v h', Ev lf m 45 [ptr bd 0] h = some (v, h') ∧ OpenP h' 76 v L ∧ Exc [b0, bd] h h' ∧ ArB b0 N f h')
    (co : ∀ n bo l v0 h, n ≤ 12 → ArB b0 N f h → Sl2 h 76 l L → bo < h.next → h.get bo = some (.cells [v0] 79 false) → ∃ y h', Ev lf m 46 [.slice (some ⟨b0, 0, none⟩) N c, l, .slice none 0 0, J n, ptr bo 0] h = some (y, h') ∧ CR bo h y h' (srch f N L n []))
    (pa : ∀ l ps h, ps.length ≤ 4200 → OpenP h 76 l ps → ∃ v h', Ev lf m 44 [l] h = some (v, h') ∧ OpenP h' 95 v ps ∧ h.Ext h') :
    ∃ x h', Ev lf (m + 1) 17 [.slice (some ⟨b0, 0, none⟩) N c] h = some (x, h') ∧ Exc [b0] h h' ∧ ArB b0 N f h' ∧ ∃ v qs, x = .tuple #[v, J 0] ∧ qs.Perm res ∧ Srt qs ∧ Sl2 h' 95 v qs := by
  refine fnS_ok (Q := fun x h' => Exc [b0] h h' ∧ ArB b0 N f h' ∧ ∃ v qs, x = .tuple #[v, J 0] ∧ qs.Perm res ∧ Srt qs ∧ Sl2 h' 95 v qs) ?_
  have W := Sto.start h
  refine sy_call 0 (by kernel_rfl) ck ?_
  refine ow_new 3 W (AObj.cells [Value.slice (some { block := b0, off := 0 }) N c, Value.map none] 73 false) (fun q => Value.pointer (some { block := q, off := 0 })) (by kernel_rfl) fun g1 ng1 Wg1 => ?_
  have W := Wg1
  have D : Dcd h.next b0 N c g1 := ⟨W.lt 0 rfl, .map none, false, W.get 0 rfl⟩
  obtain ⟨l, h2, e2, O2, E2, A2⟩ := pr h.next g1 (A.ext W.ext) D
  refine sy_call 0 (by kernel_rfl) e2 ?_
  have S2 := Sl2.of O2
  have V := Sto.start h2
  refine ow_new 0 V (AObj.cells [Value.slice none 0 0] 79 false) (fun q => Value.pointer (some { block := q, off := 0 })) (by kernel_rfl) fun k1 nk1 Vk1 => ?_
  have V := Vk1
  refine sy_loop 0 lf k1 (α := Nat) (fun n => [(0, .slice (some ⟨b0, 0, none⟩) N c), (5, l), (6, ptr h2.next 0), (7, J n)]) (fun n g => n ≤ n0 ∧ Sto h2 g [(h2.next, .cells [.slice none 0 0] 79 false)]) (fun n _ => n0 - n) 0 (by kernel_rfl) (by kernel_rfl)
    ⟨by kernel_rfl, by kernel_rfl, by kernel_rfl, by kernel_rfl, trivial⟩ (show n0 - 0 < lf by omega) ⟨Nat.zero_le _, V⟩ ?_
  rintro m1 n f1 q ⟨hn, V⟩ ih
  have hwn : IntKind.wrap .i64 (Int.ofNat (n + 1)) = Int.ofNat (n + 1) := wrap_nat (by omega)
  obtain ⟨y, q2, e3, C⟩ := co n h2.next l (.slice none 0 0) q (by omega) (A2.ext V.ext) (S2.ext V.ext) (V.lt 0 rfl) (V.get 0 rfl)
  refine ok_go 0 ?_
  refine sy_call 0 (by kernel_rfl) e3 ?_
  rcases Nat.lt_or_ge n n0 with hlt | hge
  · rw [hmin n hlt] at C
    obtain ⟨rfl, X⟩ := C
    refine ok_go 2 ?_
    exact sy_next 0 _ q2 (by kernel_rfl) (by kernel_rfl) (ih (n + 1) _ q2 ⟨hlt, V.call X⟩ (show n0 - (n + 1) < n0 - n by omega) ⟨by kernel_rfl, by kernel_rfl, by kernel_rfl, (by kernel_rfl : _ = Value.int .i64 (IntKind.wrap .i64 (Int.ofNat (n + 1)))).trans (by rw [hwn]), trivial⟩)
  · obtain rfl : n = n0 := by omega
    rw [hres] at C
    obtain ⟨rfl, X, qs, P, S, v, Gv, Sv⟩ := C
    obtain ⟨w, q3, e4, O4, X4⟩ := pa v qs q2 (by rw [P.length_eq]; exact hr12) Sv.open_
    refine ok_go 1 ?_
    refine sy_load 0 (h' := q2) (by kernel_rfl) (load1 (P := Tryz.prog) (t := 79) (i := h2.next) (off := 0) (by kernel_rfl) Gv rfl) ?_
    refine ok_go 0 ?_
    refine sy_call 0 (by kernel_rfl) e4 ?_
    refine ok_go 0 ?_
    have nW := W.ext.next
    have nE := E2.next
    have nV := V.ext.next
    have nX := X.next
    have nX4 := X4.next
    have hb0 := A.lt
    have g1n := W.lt 0 rfl
    refine sy_done 0 (v := .tuple #[w, J 0]) (h := q3) (by kernel_rfl) ⟨⟨by omega, fun j hj hm => ?_⟩, ?_, w, qs, rfl, P, S, Sl2.of O4⟩
    · have hm' : j ≠ b0 := by simpa using hm
      rw [X4.get j (by omega), X.get j (by omega) (by omega), V.ext.get j (by omega), E2.get j (by omega) (by simp; omega)]
      exact W.ext.get j hj
    · have A3 := (A2.ext V.ext)
      refine ArB.ext (h := q2) ⟨by have := A3.lt; omega, ?_⟩ X4
      obtain ⟨o, e⟩ := A3.get
      exact ⟨o, by rw [X.get b0 A3.lt (by have := A2.lt; omega)]; exact e⟩
theorem don_app (sm : List (Nat × Nat)) (p : Nat × Nat) (x : Nat) : don (sm ++ [p]) x = (don sm x || inP p x) := by
  unfold don
  rw [List.any_append]
  simp
theorem fs1_some {f d : Nat → Bool} : ∀ (k x y : Nat), fs1 f d k x = some y → f y = true ∧ d y = false ∧ x ≤ y ∧ y < x + k
  | 0, x, y, h => by cases h
  | k + 1, x, y, h => by
    unfold fs1 at h
    split at h
    · rename_i hc
      cases h
      simp only [Bool.and_eq_true, Bool.not_eq_true'] at hc
      exact ⟨hc.1, hc.2, Nat.le_refl _, by omega⟩
    · obtain ⟨h1, h2, h3, h4⟩ := fs1_some k (x + 1) y h
      exact ⟨h1, h2, by omega, by omega⟩
theorem fs1_none {f d : Nat → Bool} : ∀ (k x : Nat), fs1 f d k x = none → ∀ y, x ≤ y → y < x + k → f y = true → d y = true
  | 0, x, _ => fun y h1 h2 => by omega
  | k + 1, x, h => fun y h1 h2 hf => by
    unfold fs1 at h
    split at h
    · cases h
    · rename_i hc
      by_cases hyx : y = x
      · subst hyx
        rw [hf] at hc
        simpa using hc
      · exact fs1_none k (x + 1) h y (by omega) (by omega) hf
theorem find_some {α : Type} {L : List (Nat × Nat)} {r : Nat × Nat → Option α} {res : α} (h : L.findSome? r = some res) : ∃ p ∈ L, r p = some res := List.exists_of_findSome?_eq_some h
theorem find_is {α : Type} {L : List (Nat × Nat)} {r : Nat × Nat → Option α} {p : Nat × Nat} (hp : p ∈ L) (h : (r p).isSome = true) : (L.findSome? r).isSome = true := by
  rw [List.findSome?_isSome_iff]
  exact ⟨p, hp, h⟩
/-- What a search tells. -/
theorem srch_spec (f : Nat → Bool) (N : Nat) (L : List (Nat × Nat)) : ∀ (n : Nat) (sm res : List (Nat × Nat)), srch f N L n sm = some res →
    (∃ m, m ≤ n ∧ res.length = sm.length + m ∧ (srch f N L m sm).isSome = true) ∧ (∀ p ∈ res, p ∈ sm ∨ p ∈ L) ∧ (sm.Nodup → res.Nodup) ∧ ∀ y, y < N → f y = true → don res y = true := by
  have stop : ∀ (sm : List (Nat × Nat)), fs1 f (don sm) N 0 = none → ∀ n, (∃ m, m ≤ n ∧ sm.length = sm.length + m ∧ (srch f N L m sm).isSome = true) ∧ (∀ p ∈ sm, p ∈ sm ∨ p ∈ L) ∧ (sm.Nodup → sm.Nodup) ∧ ∀ y, y < N → f y = true → don sm y = true := fun sm h n =>
    ⟨⟨0, Nat.zero_le _, rfl, by rw [srch, h]; rfl⟩, fun p hp => .inl hp, id, fun y hy hf => fs1_none N 0 h y (Nat.zero_le _) (by omega) hf⟩
  intro n
  induction n with
  | zero =>
    intro sm res h
    rw [srch] at h
    split at h
    · rename_i e
      cases h
      exact stop sm e 0
    · cases h
  | succ n ih =>
    intro sm res h
    rw [srch] at h
    split at h
    · rename_i e
      cases h
      exact stop sm e (n + 1)
    · rename_i x e
      obtain ⟨p, hp, hr⟩ := find_some h
      split at hr
      · rename_i hin
        obtain ⟨⟨m, h1, h2, h3⟩, h4, h5, h6⟩ := ih (sm ++ [p]) res hr
        refine ⟨⟨m + 1, by omega, by rw [h2, List.length_append, List.length_singleton]; omega, ?_⟩, fun q hq => ?_, fun nd => h5 ?_, h6⟩
        · rw [srch, e]
          exact find_is hp (by rw [if_pos hin]; exact h3)
        · rcases h4 q hq with hq | hq
          · rcases List.mem_append.1 hq with hq | hq
            · exact .inl hq
            · exact .inr (by rw [List.mem_singleton.1 hq]; exact hp)
          · exact .inr hq
        · rw [List.nodup_append]
          refine ⟨nd, by simp, fun a ha b hb => ?_⟩
          rw [List.mem_singleton.1 hb]
          rintro rfl
          have := (fs1_some N 0 x e).2.1
          unfold don at this
          rw [List.any_eq_false] at this
          exact this a ha hin
      · cases hr
theorem rowP_mem (pr : Nat → Nat → Bool) (m : Nat) (p : Nat × Nat) : ∀ k, p ∈ rowP pr m k ↔ p.1 = m ∧ p.2 < k ∧ (sub p.2 m && pr m p.2) = true
  | 0 => by simp [rowP]
  | k + 1 => by
    have ih := rowP_mem pr m p k
    unfold rowP
    split
    · rename_i h
      rw [List.mem_append, ih, List.mem_singleton]
      constructor
      · rintro (⟨h1, h2, h3⟩ | rfl)
        · exact ⟨h1, by omega, h3⟩
        · exact ⟨rfl, by simp, h⟩
      · rintro ⟨h1, h2, h3⟩
        by_cases hk : p.2 = k
        · exact .inr (Prod.ext h1 hk)
        · exact .inl ⟨h1, by omega, h3⟩
    · rename_i h
      rw [ih]
      constructor
      · rintro ⟨h1, h2, h3⟩
        exact ⟨h1, by omega, h3⟩
      · rintro ⟨h1, h2, h3⟩
        by_cases hk : p.2 = k
        · rw [hk] at h3; exact absurd h3 h
        · exact ⟨h1, by omega, h3⟩
theorem accP_mem (pr : Nat → Nat → Bool) (p : Nat × Nat) : ∀ M, p ∈ accP pr M ↔ p.1 < M ∧ p.2 &&& p.1 = p.2 ∧ pr p.1 p.2 = true
  | 0 => by simp [accP]
  | M + 1 => by
    rw [accP, List.mem_append, accP_mem pr p M, rowP_mem]
    unfold sub
    simp only [Bool.and_eq_true, beq_iff_eq]
    constructor
    · rintro (⟨h1, h2, h3⟩ | ⟨h1, h2, h3, h4⟩)
      · exact ⟨by omega, h2, h3⟩
      · subst h1
        exact ⟨by omega, h3, h4⟩
    · rintro ⟨h1, h2, h3⟩
      by_cases hM : p.1 = M
      · subst hM
        have := Nat.and_le_right (n := p.2) (m := p.1)
        exact .inr ⟨rfl, by omega, h2, h3⟩
      · exact .inl ⟨by omega, h2, h3⟩
/-- What a part that is no prime has: a bit that may go. -/
theorem pb_no {f : Nat → Bool} {N m v : Nat} : ∀ {n : Nat}, pb f N m v n = false → ∃ i, i < n ∧ m &&& 2 ^ i ≠ 0 ∧ IM f N (m ^^^ (m &&& 2 ^ i)) (v ^^^ (v &&& 2 ^ i)) = true
  | 0, h => by cases h
  | n + 1, h => by
    unfold pb at h
    rw [Bool.and_eq_false_iff] at h
    rcases h with h | h
    · obtain ⟨i, h1, h2⟩ := pb_no h
      exact ⟨i, by omega, h2⟩
    · simp only [Bool.or_eq_false_iff, beq_eq_false_iff_ne, Bool.not_eq_false'] at h
      exact ⟨n, by omega, h⟩
theorem part_more {x m v b : Nat} (h : x &&& m = v) : x &&& (m ^^^ (m &&& b)) = v ^^^ (v &&& b) := by
  subst h
  refine Nat.eq_of_testBit_eq fun j => ?_
  simp only [Nat.testBit_and, Nat.testBit_xor]
  cases x.testBit j <;> cases m.testBit j <;> cases b.testBit j <;> rfl
/-- Every implicant lies in a prime one. -/
theorem prime_over (f : Nat → Bool) (n : Nat) (hn : n ≤ 6) : ∀ k m, m < k → m < 2 ^ n → ∀ v, v &&& m = v → IM f (2 ^ n) m v = true → ∃ p ∈ accP (prm f (2 ^ n) n) (2 ^ n), ∀ x, x &&& m = v → inP p x = true := by
  have hp64 : 2 ^ n ≤ 64 := Nat.pow_le_pow_right (n := 2) (by decide) hn
  intro k
  induction k with
  | zero => intro m h; omega
  | succ k ih =>
    intro m hk hm v hs hI
    cases hb : pb f (2 ^ n) m v n with
    | true =>
      refine ⟨(m, v), (accP_mem _ _ _).2 ⟨hm, hs, ?_⟩, fun x hx => by unfold inP; rw [hx]; exact beq_self_eq_true _⟩
      unfold prm
      rw [hI, hb]; rfl
    | false =>
      obtain ⟨i, h1, h2, h3⟩ := pb_no hb
      have hi64 : 2 ^ i < 64 := Nat.lt_of_lt_of_le (Nat.pow_lt_pow_right (by decide) h1) hp64
      have hle := les (a := m) (b := 2 ^ i) (by omega) hi64
      have hne : m ^^^ (m &&& 2 ^ i) ≠ m := fun e => by
        have : m &&& 2 ^ i = 0 := by
          have e2 := congrArg (fun z => m ^^^ z) e
          simp only [← Nat.xor_assoc, Nat.xor_self, Nat.zero_xor] at e2
          exact e2
        exact h2 this
      obtain ⟨p, hp, hx⟩ := ih (m ^^^ (m &&& 2 ^ i)) (by omega) (by omega) (v ^^^ (v &&& 2 ^ i)) (sub_less hs) h3
      exact ⟨p, hp, fun x h => hx x (part_more h)⟩
/-- A true input that is not covered. -/
def lft (f : Nat → Bool) (N : Nat) (d : Nat → Bool) (x : Nat) : Bool := decide (x < N) && f x && !d x
def lfp (f : Nat → Bool) (N : Nat) (d : Nat → Bool) (j : Nat) : Bool := lft f N d (2 * j) || lft f N d (2 * j + 1)
/-- How many pairs of inputs have one. -/
def meas (f : Nat → Bool) (N : Nat) (d : Nat → Bool) : Nat := ((List.range 8).filter (lfp f N d)).length
theorem filter_less {l : List Nat} {q r : Nat → Bool} (h : ∀ j, q j = true → r j = true) {j0 : Nat} (h0 : j0 ∈ l) (h1 : r j0 = true) (h2 : q j0 = false) : (l.filter q).length < (l.filter r).length := by
  have e : l.filter q = (l.filter r).filter q := by
    rw [List.filter_filter]
    apply List.filter_congr
    intro j _
    cases hq : q j with
    | false => simp
    | true => simp [h j hq]
  rw [e, List.length_filter_lt_length_iff_exists]
  exact ⟨j0, List.mem_filter.2 ⟨h0, h1⟩, by simp [h2]⟩
theorem srch_in (f : Nat → Bool) (N : Nat) (hN : N ≤ 16) (L : List (Nat × Nat)) (hL : ∀ x, x < N → f x = true → ∃ p ∈ L, inP p x = true ∧ ∀ y, y < N → y / 2 = x / 2 → f y = true → inP p y = true) :
    ∀ (k : Nat) (sm : List (Nat × Nat)), meas f N (don sm) ≤ k → (srch f N L k sm).isSome = true := by
  have less : ∀ (sm : List (Nat × Nat)) (x : Nat), fs1 f (don sm) N 0 = some x → ∃ p ∈ L, inP p x = true ∧ meas f N (don (sm ++ [p])) < meas f N (don sm) := fun sm x e => by
    obtain ⟨h1, h2, _, h4⟩ := fs1_some N 0 x e
    obtain ⟨p, hp, hx, hy⟩ := hL x (by omega) h1
    have gone : ∀ y, y / 2 = x / 2 → lft f N (don (sm ++ [p])) y = false := fun y hxy => by
      unfold lft
      rw [don_app]
      by_cases hyN : y < N
      · cases hf : f y with
        | false => simp
        | true => rw [hy y hyN hxy hf]; simp
      · simp [hyN]
    have mono : ∀ y, lft f N (don (sm ++ [p])) y = true → lft f N (don sm) y = true := fun y h => by
      unfold lft at h ⊢
      rw [don_app] at h
      revert h
      cases decide (y < N) <;> cases f y <;> cases don sm y <;> cases inP p y <;> simp
    have here : lft f N (don sm) x = true := by
      unfold lft
      rw [h1, h2, decide_eq_true (show x < N by omega)]; rfl
    refine ⟨p, hp, hx, filter_less (fun j hj => ?_) (j0 := x / 2) (List.mem_range.2 (by omega)) ?_ ?_⟩
    · unfold lfp at hj ⊢
      rw [Bool.or_eq_true] at hj ⊢
      exact hj.imp (mono _) (mono _)
    · unfold lfp
      rw [Bool.or_eq_true]
      rcases (by omega : x = 2 * (x / 2) ∨ x = 2 * (x / 2) + 1) with hh | hh
      · exact .inl (by rw [← hh]; exact here)
      · exact .inr (by rw [← hh]; exact here)
    · unfold lfp
      rw [gone (2 * (x / 2)) (by omega), gone (2 * (x / 2) + 1) (by omega)]; rfl
  intro k
  induction k with
  | zero =>
    intro sm hm
    rw [srch]
    cases e : fs1 f (don sm) N 0 with
    | none => rfl
    | some x =>
      obtain ⟨p, _, _, h⟩ := less sm x e
      omega
  | succ k ih =>
    intro sm hm
    rw [srch]
    cases e : fs1 f (don sm) N 0 with
    | none => rfl
    | some x =>
      obtain ⟨p, hp, hx, h⟩ := less sm x e
      exact find_is hp (by rw [if_pos hx]; exact ih (sm ++ [p]) (by omega))
theorem meas_le (f : Nat → Bool) (N : Nat) (d : Nat → Bool) : meas f N d ≤ 8 := by
  have := List.length_filter_le (lfp f N d) (List.range 8)
  simpa [meas] using this
noncomputable def pairB (N : Nat) : Bool := allB N fun x => allB N fun y => (Nat.beq (y &&& (N - 2)) (x &&& (N - 2)) == Nat.beq (y / 2) (x / 2)) && (Nat.beq (y &&& (N - 1)) y)
theorem pair_all : pairB 1 = true ∧ pairB 2 = true ∧ pairB 4 = true ∧ pairB 8 = true ∧ pairB 16 = true := ⟨by kernel_rfl, by kernel_rfl, by kernel_rfl, by kernel_rfl, by kernel_rfl⟩
theorem pair_ok (n : Nat) (hn : n ≤ 4) {x y : Nat} (hx : x < 2 ^ n) (hy : y < 2 ^ n) : (y &&& (2 ^ n - 2) = x &&& (2 ^ n - 2) ↔ y / 2 = x / 2) ∧ y &&& (2 ^ n - 1) = y := by
  have h : pairB (2 ^ n) = true := by
    obtain ⟨h0, h1, h2, h3, h4⟩ := pair_all
    rcases (by omega : n = 0 ∨ n = 1 ∨ n = 2 ∨ n = 3 ∨ n = 4) with rfl | rfl | rfl | rfl | rfl <;> assumption
  have := allB_ok (allB_ok h x hx) y hy
  simp only [Bool.and_eq_true, beq_iff_eq] at this
  obtain ⟨h1, h2⟩ := this
  refine ⟨?_, Nat.eq_of_beq_eq_true h2⟩
  rw [Bool.eq_iff_iff] at h1
  simpa using h1
theorem prime_two (f : Nat → Bool) (n : Nat) (hn : n ≤ 4) (x : Nat) (hx : x < 2 ^ n) (hf : f x = true) : ∃ p ∈ accP (prm f (2 ^ n) n) (2 ^ n), inP p x = true ∧ ∀ y, y < 2 ^ n → y / 2 = x / 2 → f y = true → inP p y = true := by
  by_cases hall : ∀ y, y < 2 ^ n → y / 2 = x / 2 → f y = true
  · have hv : x &&& (2 ^ n - 2) < 2 ^ n := Nat.lt_of_le_of_lt Nat.and_le_left hx
    have hvv : (x &&& (2 ^ n - 2)) &&& (2 ^ n - 2) = x &&& (2 ^ n - 2) := by rw [Nat.and_assoc, Nat.and_self]
    have fv := hall _ hv ((pair_ok n hn hx hv).1.1 hvv)
    obtain ⟨p, hp, hin⟩ := prime_over f n (by omega) (2 ^ n) (2 ^ n - 2) (by omega) (by omega) (x &&& (2 ^ n - 2)) hvv (by
      unfold IM
      rw [Bool.and_eq_true]
      refine ⟨al_iff.2 fun y hy => ?_, fv⟩
      unfold cq
      by_cases e : y &&& (2 ^ n - 2) = x &&& (2 ^ n - 2)
      · rw [hall y hy ((pair_ok n hn hx hy).1.1 e), fv]; simp
      · simp [e])
    exact ⟨p, hp, hin x rfl, fun y hy hxy _ => hin y ((pair_ok n hn hx hy).1.2 hxy)⟩
  · have hz : ∃ z, z < 2 ^ n ∧ z / 2 = x / 2 ∧ f z ≠ true := by
      refine Classical.byContradiction fun hh => hall fun y hy hxy => Classical.byContradiction fun hfy => hh ⟨y, hy, hxy, hfy⟩
    obtain ⟨z, hz1, hz2, hz3⟩ := hz
    have hzx : z ≠ x := fun e => hz3 (e ▸ hf)
    obtain ⟨p, hp, hin⟩ := prime_over f n (by omega) (2 ^ n) (2 ^ n - 1) (by omega) (by omega) x (pair_ok n hn hx hx).2 (by
      unfold IM
      rw [Bool.and_eq_true]
      refine ⟨al_iff.2 fun y hy => ?_, hf⟩
      unfold cq
      rw [(pair_ok n hn hx hy).2]
      by_cases e : y = x
      · rw [e]; simp
      · simp [e])
    refine ⟨p, hp, hin x (pair_ok n hn hx hx).2, fun y hy hxy hfy => ?_⟩
    have hyz : y ≠ z := fun e => hz3 (e ▸ hfy)
    have : y = x := by omega
    rw [this]
    exact hin x (pair_ok n hn hx hx).2
/-- The search finds, with eight parts at most. -/
theorem srch_8 (f : Nat → Bool) (n : Nat) (hn : n ≤ 4) : (srch f (2 ^ n) (accP (prm f (2 ^ n) n) (2 ^ n)) 8 []).isSome = true :=
  srch_in f (2 ^ n) (Nat.pow_le_pow_right (n := 2) (by decide) hn) _ (fun x hx hf => prime_two f n hn x hx hf) 8 [] (meas_le _ _ _)
theorem least_ex (q : Nat → Bool) : ∀ k, q k = true → ∃ n, n ≤ k ∧ q n = true ∧ ∀ m, m < n → q m = false := by
  intro k
  induction k using Nat.strongRecOn with
  | _ k ih =>
    intro hk
    by_cases hm : ∃ m, m < k ∧ q m = true
    · obtain ⟨m, h1, h2⟩ := hm
      obtain ⟨n, a1, a2, a3⟩ := ih m h1 h2
      exact ⟨n, by omega, a2, a3⟩
    · refine ⟨k, Nat.le_refl _, hk, fun m h => ?_⟩
      rw [Bool.eq_false_iff]
      exact fun h2 => hm ⟨m, h, h2⟩
/-- The least number of parts, and what is found with it. -/
theorem srch_least (f : Nat → Bool) (n : Nat) (hn : n ≤ 4) : ∃ n0 res, n0 ≤ 8 ∧ srch f (2 ^ n) (accP (prm f (2 ^ n) n) (2 ^ n)) n0 [] = some res ∧ (∀ m, m < n0 → srch f (2 ^ n) (accP (prm f (2 ^ n) n) (2 ^ n)) m [] = none) ∧ res.length = n0 ∧ res.Nodup ∧ (∀ p ∈ res, p ∈ accP (prm f (2 ^ n) n) (2 ^ n)) ∧ ∀ y, y < 2 ^ n → f y = true → don res y = true := by
  obtain ⟨n0, h1, h2, h3⟩ := least_ex (fun k => (srch f (2 ^ n) (accP (prm f (2 ^ n) n) (2 ^ n)) k []).isSome) 8 (srch_8 f n hn)
  obtain ⟨res, hr⟩ := Option.isSome_iff_exists.1 h2
  obtain ⟨⟨m, a1, a2, a3⟩, a4, a5, a6⟩ := srch_spec f (2 ^ n) _ n0 [] res hr
  have hm : m = n0 := by
    rcases Nat.lt_or_ge m n0 with hlt | hge
    · have := h3 m hlt
      rw [a3] at this
      cases this
    · omega
  refine ⟨n0, res, h1, hr, fun k hk => ?_, by rw [a2, hm]; simp, a5 List.nodup_nil, fun p hp => (a4 p hp).resolve_left (by simp), a6⟩
  have := h3 k hk
  simpa using this
/-- Appending to an empty slice that has no room. -/
theorem appendEmpty {P : Program} {h : Hp} {t e : TypeId} {x : Value} {vs : List Value} {i : Nat} {opn : Bool} (hT : SlT P t e) (hi : h.get i = some (.cells [] e opn)) (hx : Rds h x vs) (hv : vs.all scalar = true) (h1 : vs ≠ []) (hn : vs.length < 16777216) :
    appendOp P h t (.slice (some ⟨i, 0, none⟩) 0 0) x = some (.slice (some ⟨h.next, 0, none⟩) vs.length (2 * vs.length + 1), h.new (.cells vs e true)) := by
  obtain ⟨inf, hi1, hi2⟩ := hT.i
  obtain ⟨z, hz1, hz2⟩ := hT.z
  obtain ⟨a, c, hsh⟩ := hx.shape
  have hlen : lenV x = some vs.length := by rw [hsh]; rfl
  have hel : elems h 1 vs.length x = some vs := by
    rcases hx with ⟨⟨a, rfl⟩, rfl⟩ | ⟨i, off, c, rfl, hr⟩
    · exact absurd rfl h1
    · cases vs with
      | nil => exact absurd rfl h1
      | cons v r => simp only [elems, List.length_cons, Nat.mul_one]; exact (hr (by simp)).2
  cases vs with
  | nil => exact absurd rfl h1
  | cons v r =>
    simp only [List.length_cons] at hlen hel hn ⊢
    have b1 : Nat.ble (0 + (r.length + 1)) most = true := Nat.ble_eq_true_of_le (by unfold most; omega)
    have b2 : Nat.ble (0 + (r.length + 1)) (0 / 2) = false := by
      cases hb : Nat.ble (0 + (r.length + 1)) (0 / 2) with
      | false => rfl
      | true => have := Nat.le_of_ble_eq_true hb; omega
    have b3 : loadN h i 0 (0 * 1) = some [] := by
      unfold loadN
      rw [hi]
      rfl
    have b4 : Nat.beq (0 % 2) 0 = true := rfl
    simp only [appendOp, hT.u, hT.s, hi1, hz1, hlen, hel, hz2, hi2, hv, b1, b2, b3, b4, List.nil_append]
    rw [Nat.zero_add]
theorem cloneB_of (v : Nat → Bool) (N lf m b c : Nat) (hN : 1 ≤ N) (hN2 : N ≤ 64) (h : Hp) (A : ArB b N v h) :
    ∃ x h', Ev lf (m + 1) 29 [.slice (some ⟨b, 0, none⟩) N c] h = some (x, h') ∧ ∃ b', x = .slice (some ⟨b', 0, none⟩) N (2 * N + 1) ∧ h.next ≤ b' ∧ h.Ext h' ∧ ArB b' N v h' := by
  refine fnS_ok (Q := fun x h' => ∃ b', x = .slice (some ⟨b', 0, none⟩) N (2 * N + 1) ∧ h.next ≤ b' ∧ h.Ext h' ∧ ArB b' N v h') ?_
  have X : h.Ext (h.new (.cells [] 4 false)) := Hp.Ext.new _ _
  have hl : (cellsF N fun x => Value.bool (v x)).length = N := cellsF_len _ _
  have e := appendEmpty (P := Tryz.prog) (h := h.new (.cells [] 4 false)) (i := h.next) slB (get_new _ _) ((A.rds c).ext X) (by simp [cellsF, scalar]) (fun hc => by rw [hc] at hl; simp at hl; omega) (by rw [hl]; omega)
  rw [hl] at e
  refine ok_go 3 ?_
  refine sy_call 0 (r := appendOp Tryz.prog (h.new (.cells [] 4 false)) 22 (.slice (some ⟨h.next, 0, none⟩) 0 0) (.slice (some ⟨b, 0, none⟩) N c)) (v := .slice (some ⟨h.next + 1, 0, none⟩) N (2 * N + 1)) (h' := (h.new (.cells [] 4 false)).new (.cells (cellsF N fun x => Value.bool (v x)) 4 true)) (by kernel_rfl) e ?_
  refine ok_go 0 ?_
  exact sy_done 0 (v := .slice (some ⟨h.next + 1, 0, none⟩) N (2 * N + 1)) (h := (h.new (.cells [] 4 false)).new (.cells (cellsF N fun x => Value.bool (v x)) 4 true)) (by kernel_rfl) ⟨h.next + 1, rfl, Nat.le_succ _, X.trans (Hp.Ext.new _ _), ⟨Nat.lt_succ_self _, true, get_new _ _⟩⟩
end Go.Proofs.YtnfboopfpkaeaaaGreatDoor
