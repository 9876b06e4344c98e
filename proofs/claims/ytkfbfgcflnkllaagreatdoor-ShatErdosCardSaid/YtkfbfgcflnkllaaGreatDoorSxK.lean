/- Families: what Check says, and the reference's. -/
import Derived.Test.YtkfbfgcflnkllaaGreatDoorProg
import Derived.KernelRfl
import Derived.Test.YtkfbfgcflnkllaaGreatDoorSyF
import Derived.Test.YtkfbfgcflnkllaaGreatDoorSxC
import Derived.Test.YtkfbfgcflnkllaaGreatDoorSyD
import Derived.ChangeSlices
import Derived.ChangeArms
namespace Go.Proofs.YtkfbfgcflnkllaaGreatDoor
open Go Go.Eng Nim
set_option maxRecDepth 100000
set_option maxHeartbeats 8000000
theorem rdI {h : Hp} {rv : Value} {zs : List Int} (hr : Rds h rv (zs.map I)) {k : Nat} (hk : k < zs.length) : ∃ p, indexAddrOp Tryz.prog 28 rv (J k) = some p ∧ loadT Tryz.prog h 3 p = some (I zs[k]) :=
  hr.read (e := 3) (by kernel_rfl) (by kernel_rfl) (by kernel_rfl) (by rw [List.getElem?_map, List.getElem?_eq_getElem hk]; rfl)
theorem rdN {h : Hp} {rv : Value} {r : List Nat} (hr : Rds h rv (r.map J)) {k : Nat} (hk : k < r.length) : ∃ p, indexAddrOp Tryz.prog 28 rv (J k) = some p ∧ loadT Tryz.prog h 3 p = some (J r[k]) :=
  hr.read (e := 3) (by kernel_rfl) (by kernel_rfl) (by kernel_rfl) (by rw [List.getElem?_map, List.getElem?_eq_getElem hk]; rfl)
/-- The number ahead of number i. -/
def lastI (zs : List Int) (i : Nat) : Int := if i = 0 then -1 else zs.getD (i - 1) 0
def badAt (n : Nat) (zs : List Int) (i : Nat) : Prop := zs.getD i 0 ≤ lastI zs i ∨ zs.getD i 0 ≥ 2 ^ n
def GoodTo (n : Nat) (zs : List Int) (k : Nat) : Prop := ∀ i, i < k → ¬ badAt n zs i
/-- What Check says: the first bad place, or none. -/
def FamR (n : Int) (zs : List Int) (e : Nat) : Prop := ((n < 0 ∨ 10 < n) ∧ e = 1) ∨ ∃ N : Nat, n = Int.ofNat N ∧ N ≤ 10 ∧ ((e = 80 ∧ ∃ i, i < zs.length ∧ GoodTo N zs i ∧ badAt N zs i) ∨ (e = 0 ∧ GoodTo N zs zs.length))
theorem FamR.uniq {n : Int} {zs : List Int} {e f : Nat} (h1 : FamR n zs e) (h2 : FamR n zs f) : e = f := by
  rcases h1 with ⟨a, rfl⟩ | ⟨N, rfl, hN, h1⟩ <;> rcases h2 with ⟨b, rfl⟩ | ⟨M, hM, hM2, h2⟩
  · rfl
  · subst hM
    have : ¬ ((Int.ofNat M) < 0 ∨ 10 < Int.ofNat M) := by rintro (h | h) <;> simp at h <;> omega
    exact absurd a this
  · have : ¬ ((Int.ofNat N) < 0 ∨ 10 < Int.ofNat N) := by rintro (h | h) <;> simp at h <;> omega
    exact absurd b this
  · cases hM
    rcases h1 with ⟨rfl, i, hi, _, hb⟩ | ⟨rfl, hg⟩ <;> rcases h2 with ⟨rfl, j, hj, _, hb2⟩ | ⟨rfl, hg2⟩
    · rfl
    · exact absurd hb (hg2 i hi)
    · exact absurd hb2 (hg j hj)
    · rfl
theorem chk_of (lf m : Nat) (n : Int) (zs : List Int) (hz : zs.length < 100000) (hlf : zs.length < lf) (x : Value) (h : Hp) (hx : Rds h x (zs.map I)) :
    ∃ e, FamR n zs e ∧ Ev lf (m + 1) 57 [I n, x] h = some (J e, h) := by
  suffices ∃ v h', Ev lf (m + 1) 57 [I n, x] h = some (v, h') ∧ ∃ e, FamR n zs e ∧ v = J e ∧ h' = h by
    obtain ⟨v, h', e1, e, e2, rfl, rfl⟩ := this
    exact ⟨e, e2, e1⟩
  refine fnS_ok (Q := fun v h' => ∃ e, FamR n zs e ∧ v = J e ∧ h' = h) ?_
  obtain ⟨xa, xc, hxs⟩ := hx.shape
  rw [List.length_map] at hxs
  subst hxs
  have W := Sto.start h
  by_cases h0 : n < 0
  · refine ok_go 1 ?_
    refine sy_yes 0 (b := decide (n < 0)) (by kernel_rfl) (decide_eq_true h0) ?_
    refine ok_go 3 ?_
    exact sy_done 0 (v := J 1) (h := h) (by kernel_rfl) ⟨1, .inl ⟨.inl h0, rfl⟩, rfl, rfl⟩
  refine ok_go 1 ?_
  refine sy_no 0 (b := decide (n < 0)) (by kernel_rfl) (decide_eq_false h0) ?_
  refine ok_go 3 ?_
  by_cases h10 : n > 10
  · refine sy_yes 0 (b := decide (n > 10)) (by kernel_rfl) (decide_eq_true h10) ?_
    refine ok_go 0 ?_
    exact sy_done 0 (v := J 1) (h := h) (by kernel_rfl) ⟨1, .inl ⟨.inr h10, rfl⟩, rfl, rfl⟩
  refine sy_no 0 (b := decide (n > 10)) (by kernel_rfl) (decide_eq_false h10) ?_
  obtain ⟨N, rfl⟩ := Int.eq_ofNat_of_zero_le (show 0 ≤ n by omega)
  have hN : N ≤ 10 := by have : ¬ (10 : Int) < (N : Int) := h10; omega
  have hsh := one_shl N (by omega)
  have hpw : Int.ofNat (2 ^ N) = (2 : Int) ^ N := by simp
  refine ok_go 1 ?_
  refine sy_loop 0 lf h (α := Nat) (fun i => [(0, J N), (5, I (lastI zs i)), (14, .slice xa zs.length xc), (15, J zs.length), (16, J i)]) (fun i g => i ≤ zs.length ∧ GoodTo N zs i ∧ g = h) (fun i _ => zs.length - i) 0 (by kernel_rfl) (by kernel_rfl)
    ⟨by kernel_rfl, by kernel_rfl, by kernel_rfl, by kernel_rfl, by kernel_rfl, trivial⟩ (show zs.length - 0 < lf by omega) ⟨Nat.zero_le _, fun i hi => absurd hi (Nat.not_lt_zero i), rfl⟩ ?_
  rintro m1 i F1 g ⟨hi, hG, rfl⟩ ih
  have hw : IntKind.wrap .i64 (Int.ofNat (i + 1)) = Int.ofNat (i + 1) := wrap_nat (by omega)
  refine ok_go 1 ?_
  refine sy_test 0 (decide (Int.ofNat i < Int.ofNat zs.length)) (by kernel_rfl) ?_ ?_
  · intro hlt
    have hlt : i < zs.length := ok_nat hlt
    obtain ⟨p, hp1, hp2⟩ := rdI hx hlt
    have hgd : zs.getD i 0 = zs[i] := by rw [List.getD_eq_getElem?_getD, List.getElem?_eq_getElem hlt]; rfl
    have hla : lastI zs (i + 1) = zs[i] := by unfold lastI; rw [if_neg (by omega), Nat.add_sub_cancel, hgd]
    refine ok_go 0 ?_
    refine sy_load 0 (r := indexAddrOp Tryz.prog 28 (.slice xa zs.length xc) (J i)) (h' := g) (by kernel_rfl) hp1 ?_
    refine ok_go 0 ?_
    refine sy_load 0 (r := loadT Tryz.prog g 3 p) (h' := g) (by kernel_rfl) hp2 ?_
    refine ok_go 1 ?_
    by_cases hb1 : zs[i] ≤ lastI zs i
    · refine sy_yes 0 (b := decide (zs[i] ≤ lastI zs i)) (by kernel_rfl) (decide_eq_true hb1) ?_
      refine ok_go 6 ?_
      exact sy_done 0 (v := J 80) (h := g) (by kernel_rfl) ⟨80, .inr ⟨N, rfl, hN, .inl ⟨rfl, i, hlt, hG, .inl (by rw [hgd]; exact hb1)⟩⟩, rfl, rfl⟩
    · refine sy_no 0 (b := decide (zs[i] ≤ lastI zs i)) (by kernel_rfl) (decide_eq_false hb1) ?_
      refine ok_go 8 ?_
      by_cases hb2 : zs[i] ≥ Int.ofNat (2 ^ N)
      · refine sy_yes 0 (b := decide (zs[i] ≥ IntKind.i64.wrap (1 * 2 ^ min (IntKind.u64.wrap (Int.ofNat N)).toNat IntKind.i64.bits))) (by kernel_rfl) (by rw [hsh]; exact decide_eq_true hb2) ?_
        refine ok_go 0 ?_
        exact sy_done 0 (v := J 80) (h := g) (by kernel_rfl) ⟨80, .inr ⟨N, rfl, hN, .inl ⟨rfl, i, hlt, hG, .inr (by rw [hgd, ← hpw]; exact hb2)⟩⟩, rfl, rfl⟩
      · refine sy_no 0 (b := decide (zs[i] ≥ IntKind.i64.wrap (1 * 2 ^ min (IntKind.u64.wrap (Int.ofNat N)).toNat IntKind.i64.bits))) (by kernel_rfl) (by rw [hsh]; exact decide_eq_false hb2) ?_
        refine ok_go 1 ?_
        refine sy_next 0 _ g (by kernel_rfl) (by kernel_rfl) (ih (i + 1) _ g ⟨hlt, fun j hj => ?_, rfl⟩ (show zs.length - (i + 1) < zs.length - i by omega) ⟨by kernel_rfl, (by kernel_rfl : _ = I zs[i]).trans (by rw [hla]), by kernel_rfl, by kernel_rfl, (by kernel_rfl : _ = Value.int .i64 (IntKind.wrap .i64 (Int.ofNat (i + 1)))).trans (by rw [hw]), trivial⟩)
        rcases Nat.lt_succ_iff_lt_or_eq.1 hj with h | rfl
        · exact hG j h
        · rintro (h | h)
          · rw [hgd] at h; exact hb1 h
          · rw [hgd, ← hpw] at h
            exact hb2 h
  · intro hlt
    have hlt : i = zs.length := Nat.le_antisymm hi (no_nat hlt)
    subst hlt
    refine ok_go 0 ?_
    exact sy_done 0 (v := J 0) (h := g) (by kernel_rfl) ⟨0, .inr ⟨N, rfl, hN, .inr ⟨rfl, hG⟩⟩, rfl, rfl⟩
end Go.Proofs.YtkfbfgcflnkllaaGreatDoor
namespace Go.Proofs.YtkfbfgcflnkllaaGreatDoor
open Go Go.Eng Nim
set_option maxRecDepth 100000
set_option maxHeartbeats 8000000
end Go.Proofs.YtkfbfgcflnkllaaGreatDoor
namespace Go.Proofs.YtkfbfgcflnkllaaGreatDoor
open Go Go.Eng Nim
set_option maxRecDepth 100000
set_option maxHeartbeats 8000000
theorem x_rem {k : IntKind} {t : TypeId} {a b : Int} (hb : b ≠ 0) : pureX (binOp .rem t (.int k a) (.int k b)) = some (.int k (a.tmod b)) := by
  refine pureX_of ?_ rfl
  simp only [binOp, ne_eq, not_true_eq_false, if_false, Op.intDiv, hb]
  rfl
end Go.Proofs.YtkfbfgcflnkllaaGreatDoor
namespace Go.Proofs.YtkfbfgcflnkllaaGreatDoor
open Go Go.Eng Nim Ch
set_option maxRecDepth 100000
set_option maxHeartbeats 8000000
theorem make_sl {t e : TypeId} {z : Value} {inf : TypeInfo} (hu : Tryz.prog.underlying t = some (.slice e)) (hz : zeroOf Tryz.prog e = some z) (hi : Tryz.prog.info? e = some inf) (hb : Nat.ble inf.bytes 4096 = true) (hc : z.cells.toList = [z]) (hs : Nat.beq z.cells.size inf.size = true) (hsc : scalar z = true) (n : Nat) (hn : n ≤ most) (h : Hp) :
    makeSliceOp Tryz.prog h t (J n) (J n) = some (.slice (some ⟨h.next, 0, none⟩) n (2 * n), h.new (.cells (List.replicate n z) e false)) := by
  have hzz : ∀ k, zeros [z] k = List.replicate k z := fun k => by
    induction k with
    | zero => rfl
    | succ k ih => rw [zeros, ih]; rfl
  have hnn : natOf (J n) = some n := rfl
  simp only [makeSliceOp, hu, hnn, hz, hi, Nat.ble_eq_true_of_le (Nat.le_refl n), Nat.ble_eq_true_of_le hn, hb, hs, hc, List.all_cons, hsc, List.all_nil, Bool.and_true, hzz]
theorem mk37 (n : Nat) (hn : n ≤ most) (h : Hp) : makeSliceOp Tryz.prog h 37 (J n) (J n) = some (.slice (some ⟨h.next, 0, none⟩) n (2 * n), h.new (.cells (List.replicate n (.bool false)) 4 false)) :=
  make_sl (by kernel_rfl) (by kernel_rfl) rfl (by kernel_rfl) rfl (by kernel_rfl) rfl n hn h
end Go.Proofs.YtkfbfgcflnkllaaGreatDoor
namespace Go.Proofs.YtkfbfgcflnkllaaGreatDoor
open Go Go.Eng Nim
set_option maxRecDepth 100000
set_option maxHeartbeats 8000000
theorem mk97_set {f : Nat → Bool} {k : Nat} {b : Bool} : updF (fun i => Value.bool (f i)) k (.bool b) = fun i => .bool (if i = k then b else f i) := by
  funext i
  unfold updF
  split <;> simp_all
end Go.Proofs.YtkfbfgcflnkllaaGreatDoor
namespace Go.Proofs.YtkfbfgcflnkllaaGreatDoor
open Go Go.Eng Nim
set_option maxRecDepth 100000
set_option maxHeartbeats 8000000
/-- What is marked below n, in order. -/
def lst (f : Nat → Bool) (n : Nat) : List Nat := (List.range n).filter f
theorem lst_succ (f : Nat → Bool) (n : Nat) : lst f (n + 1) = if f n then lst f n ++ [n] else lst f n := by
  unfold lst
  rw [List.range_succ, List.filter_append]
  cases h : f n <;> simp [h]
theorem lst_len (f : Nat → Bool) (n : Nat) : (lst f n).length ≤ n := by
  unfold lst
  exact Nat.le_trans (List.length_filter_le ..) (by rw [List.length_range]; exact Nat.le_refl _)
theorem lst_rd {h g : Hp} {f : Nat → Bool} {n q : Nat} (W : Sto h g (oent q 3 ((lst f n).map J))) : Rds g (oslV q (lst f n).length) ((lst f n).map J) := by
  have := osl_rd (H := g) (e := 3) (i := q) (zs := (lst f n).map J) fun p hp => (W.all p hp).2
  rwa [List.length_map] at this
end Go.Proofs.YtkfbfgcflnkllaaGreatDoor
namespace Go.Proofs.YtkfbfgcflnkllaaGreatDoor
open Go Go.Eng Nim
set_option maxRecDepth 100000
set_option maxHeartbeats 8000000
theorem rep_cells (n : Nat) (v : Value) : List.replicate n v = cellsF n fun _ => v := by
  unfold cellsF
  rw [List.map_const', List.length_range]
theorem mkB (n : Nat) (hn : n ≤ 1024) (h : Hp) : makeSliceOp Tryz.prog h 37 (J n) (J n) = some (.slice (some ⟨h.next, 0, none⟩) n (2 * n), h.new (.cells (cellsF n fun _ => .bool false) 4 false)) := by
  rw [← rep_cells]
  exact mk37 n (by unfold Eng.most; omega) h
theorem rem_u (x : Int) (N : Nat) (hN : 0 < N) (hN2 : N < 2 ^ 62) : ∃ k, k < N ∧ (IntKind.wrap .u64 x).tmod (IntKind.wrap .u64 (Int.ofNat N)) = Int.ofNat k := by
  obtain ⟨u, hu⟩ : ∃ u : Nat, IntKind.wrap .u64 x = Int.ofNat u := Int.eq_ofNat_of_zero_le (by
    show 0 ≤ x % 2 ^ 64
    exact Int.emod_nonneg _ (by decide))
  have h2 : IntKind.wrap .u64 (Int.ofNat N) = Int.ofNat N := Int.emod_eq_of_lt (Int.natCast_nonneg _) (show ((N : Nat) : Int) < 18446744073709551616 by omega)
  exact ⟨u % N, Nat.mod_lt _ hN, by rw [hu, h2]; rfl⟩
theorem wrap_ne (N : Nat) (hN : 0 < N) (hN2 : N < 2 ^ 62) : IntKind.wrap .u64 (Int.ofNat N) ≠ 0 := by
  have h2 : IntKind.wrap .u64 (Int.ofNat N) = Int.ofNat N := Int.emod_eq_of_lt (Int.natCast_nonneg _) (show ((N : Nat) : Int) < 18446744073709551616 by omega)
  rw [h2]
  exact fun h => by have : N = 0 := Int.ofNat.inj h; omega
end Go.Proofs.YtkfbfgcflnkllaaGreatDoor
namespace Go.Proofs.YtkfbfgcflnkllaaGreatDoor
open Go Go.Eng Nim
set_option maxRecDepth 100000
set_option maxHeartbeats 8000000
theorem lst_mem {f : Nat → Bool} {n x : Nat} : x ∈ lst f n ↔ x < n ∧ f x = true := by
  unfold lst
  rw [List.mem_filter, List.mem_range]
theorem lst_rise (f : Nat → Bool) (n : Nat) : (lst f n).Pairwise (· < ·) := by
  unfold lst
  exact List.Pairwise.filter _ List.pairwise_lt_range
theorem chk_lst (lf m : Nat) (hlf : 2000 ≤ lf) (n : Nat) (hn : n ≤ 10) (f : Nat → Bool) (v : Value) (h : Hp) (hv : Rds h v ((lst f (2 ^ n)).map J)) : Ev lf (m + 1) 57 [J n, v] h = some (J 0, h) := by
  have h2n : 2 ^ n ≤ 1024 := Nat.pow_le_pow_right (by decide) hn
  have hll := lst_len f (2 ^ n)
  obtain ⟨e, he, e1⟩ := chk_of lf m (Int.ofNat n) ((lst f (2 ^ n)).map Int.ofNat) (by rw [List.length_map]; omega) (by rw [List.length_map]; omega) v h (by rw [List.map_map]; exact hv)
  have h0 : FamR (Int.ofNat n) ((lst f (2 ^ n)).map Int.ofNat) 0 := by
    refine .inr ⟨n, rfl, hn, .inr ⟨rfl, ?_⟩⟩
    intro i hi hbad
    rw [List.length_map] at hi
    have hget : ∀ k (hk : k < (lst f (2 ^ n)).length), ((lst f (2 ^ n)).map Int.ofNat).getD k 0 = Int.ofNat (lst f (2 ^ n))[k] := fun k hk => by
      rw [List.getD_eq_getElem?_getD, List.getElem?_map, List.getElem?_eq_getElem hk]
      rfl
    have hlt := (lst_mem.1 (List.getElem_mem hi)).1
    have hp2 : (2 : Int) ^ n = Int.ofNat (2 ^ n) := by simp
    rcases hbad with hb | hb
    · rw [hget i hi] at hb
      unfold lastI at hb
      split at hb
      · have : Int.ofNat (lst f (2 ^ n))[i] ≥ 0 := Int.natCast_nonneg _
        omega
      · have hr := List.pairwise_iff_getElem.1 (lst_rise f (2 ^ n)) (i - 1) i (by omega) hi (by omega)
        rw [hget (i - 1) (by omega)] at hb
        have : (lst f (2 ^ n))[i] ≤ (lst f (2 ^ n))[i - 1] := Int.ofNat_le.1 hb
        omega
    · rw [hget i hi, hp2] at hb
      have : 2 ^ n ≤ (lst f (2 ^ n))[i] := Int.ofNat_le.1 hb
      omega
  rw [he.uniq h0] at e1
  exact e1
end Go.Proofs.YtkfbfgcflnkllaaGreatDoor
namespace Go.Proofs.YtkfbfgcflnkllaaGreatDoor
open Go Go.Eng Nim Oct
theorem tb_x (s i k : Nat) : (s ^^^ 2 ^ i).testBit k = (s.testBit k ^^ decide (i = k)) := by
  rw [Nat.testBit_xor, Nat.testBit_two_pow]
theorem tb_xs (s i : Nat) : (s ^^^ 2 ^ i).testBit i = !s.testBit i := by
  rw [tb_x, decide_eq_true rfl, Bool.xor_true]
theorem x_x (s b : Nat) : s ^^^ b ^^^ b = s := by rw [Nat.xor_assoc, Nat.xor_self, Nat.xor_zero]
theorem x_lt {s k n : Nat} (hs : s < 2 ^ n) (hk : k < n) : s ^^^ 2 ^ k < 2 ^ n := Nat.xor_lt_two_pow hs (Nat.pow_lt_pow_right (by decide) hk)
/-! Kleitman. -/
def cnt (f : Nat → Bool) : Nat → Nat
  | 0 => 0
  | n + 1 => cnt f n + if f n then 1 else 0
theorem cnt_le {f g : Nat → Bool} : ∀ {n}, (∀ s, s < n → f s = true → g s = true) → cnt f n ≤ cnt g n
  | 0, _ => Nat.le_refl _
  | n + 1, h => by
    have h1 := cnt_le (n := n) fun s hs => h s (by omega)
    have h2 := h n (by omega)
    rw [cnt, cnt]
    cases hf : f n with
    | false => simp; omega
    | true => rw [h2 hf]; simp; omega
theorem cnt_congr {f g : Nat → Bool} {n : Nat} (h : ∀ s, s < n → f s = g s) : cnt f n = cnt g n :=
  Nat.le_antisymm (cnt_le fun s hs e => by rw [← h s hs]; exact e) (cnt_le fun s hs e => by rw [h s hs]; exact e)
end Go.Proofs.YtkfbfgcflnkllaaGreatDoor
namespace Go.Proofs.YtkfbfgcflnkllaaGreatDoor
open Go Go.Eng Nim
set_option maxRecDepth 100000
set_option maxHeartbeats 8000000
end Go.Proofs.YtkfbfgcflnkllaaGreatDoor
namespace Go.Proofs.YtkfbfgcflnkllaaGreatDoor
open Go Go.Eng Nim
set_option maxRecDepth 100000
set_option maxHeartbeats 8000000
def pcF : Nat → Nat → Nat
  | 0, _ => 0
  | k + 1, x => x % 2 + pcF k (x / 2)
theorem pcF_zero : ∀ k, pcF k 0 = 0
  | 0 => rfl
  | k + 1 => by rw [pcF, show (0 / 2 = 0) from rfl, pcF_zero k]
theorem pcF_le : ∀ k x, pcF k x ≤ k
  | 0, _ => Nat.le_refl _
  | k + 1, x => by rw [pcF]; have := pcF_le k (x / 2); omega
theorem sz_of (lf m : Nat) (hlf : 2000 ≤ lf) (x : Nat) (hx : x < 2 ^ 10) (h : Hp) : Ev lf (m + 1) 22 [J x] h = some (J (pcF 10 x), h) := by
  refine fn_eq ?_
  refine ok_go 0 ?_
  refine sy_loop 0 lf h (α := Nat × Nat × Nat) (fun y => [(0, J y.1), (3, J y.2.1)]) (fun y g => y.1 ≤ x ∧ y.1 < 2 ^ y.2.2 ∧ y.2.1 + pcF y.2.2 y.1 = pcF 10 x ∧ g = h) (fun y _ => y.1) (x, 0, 10) (by kernel_rfl) (by kernel_rfl)
    ⟨by kernel_rfl, by kernel_rfl, trivial⟩ (show x < lf by omega) ⟨Nat.le_refl _, hx, Nat.zero_add _, rfl⟩ ?_
  have hpl := pcF_le 10 x
  rintro m1 ⟨y, c, k⟩ F1 g ⟨hyx, hy, hc, rfl⟩ ih
  dsimp only at hyx hy hc
  refine ok_go 1 ?_
  by_cases h0 : 0 < y
  · refine sy_yes 0 (b := decide (Int.ofNat y > 0)) (by kernel_rfl) (decide_eq_true (by show (0 : Int) < (y : Int); omega)) ?_
    obtain ⟨k, rfl⟩ : ∃ j, k = j + 1 := ⟨k - 1, by
      cases k with
      | zero => exact absurd hy (by omega)
      | succ k => rfl⟩
    rw [pcF] at hc
    have hw : IntKind.wrap .i64 (Int.ofNat (c + y % 2)) = Int.ofNat (c + y % 2) := wrap_nat (by omega)
    have hw2 : IntKind.wrap .i64 (Int.ofNat (y / 2)) = Int.ofNat (y / 2) := wrap_nat (by have := Nat.div_le_self y 2; omega)
    refine ok_go 3 ?_
    exact sy_next 0 _ g (by kernel_rfl) (by kernel_rfl) (ih (y / 2, c + y % 2, k) _ g ⟨Nat.le_trans (Nat.div_le_self y 2) hyx, show y / 2 < 2 ^ k by rw [Nat.pow_succ] at hy; omega, by dsimp only; omega, rfl⟩ (show y / 2 < y by omega) ⟨(by kernel_rfl : _ = Value.int .i64 (IntKind.wrap .i64 (Int.ofNat (y / 2)))).trans (by rw [hw2]), (by kernel_rfl : _ = Value.int .i64 (IntKind.wrap .i64 (Int.ofNat (c + y % 2)))).trans (by rw [hw]), trivial⟩)
  · have h0 : y = 0 := by omega
    subst h0
    rw [pcF_zero, Nat.add_zero] at hc
    subst hc
    refine ok_go 1 ?_
    exact sy_done 0 (v := J (pcF 10 x)) (h := g) (by kernel_rfl) ⟨rfl, rfl⟩
end Go.Proofs.YtkfbfgcflnkllaaGreatDoor
namespace Go.Proofs.YtkfbfgcflnkllaaGreatDoor
open Go Go.Eng Nim Go.ChangeShapes
set_option maxRecDepth 100000
section
variable {HH : Type} {enc : TypeId × Value → HH} {B : Prot} {w0 w : World}
theorem cell_block {w : World} {a : Addr} {v : Value} (h : w.cell? a = some v) : ∃ arr e fz, w.heap[a.block]? = some (.cells arr e fz) ∧ a.spot = none ∧ arr[a.off]? = some v := by
  unfold World.cell? at h
  split at h
  · rename_i c e fz hb
    split at h
    · cases h
    · rename_i hs
      refine ⟨c, e, fz, hb, ?_, h⟩
      cases hq : a.spot with
      | none => rfl
      | some q => rw [hq] at hs; simp at hs
  · cases h
theorem add_spot {a : Addr} (h : a.spot = none) (i : Nat) : a.add i = ⟨a.block, a.off + i, none⟩ := by
  obtain ⟨b, o, s⟩ := a
  simp only at h
  subst h
  unfold Addr.add
  split
  · rename_i h0; subst h0; rfl
  · rfl
/-- A slice in memory, as the evaluator sees it: the cells one by one. -/
theorem openCells {E : Env} {h : Hp} (H : HpOK Tryz.prog B w0 E h w) (hB : ∀ k, k < w.heap.size → B.ro k) {a : Addr} {len cap : Nat} (cs : List Value) (hl : cs.length = len) (hc0 : 0 < cap → a.spot = none)
    (hlc : len ≤ cap) (hcell : ∀ i v, cs[i]? = some v → w.cell? (a.add i) = some (con E v)) (hs : scL h.next cs = true) (h1 : ∀ v ∈ cs, scalar v = true) :
    ∃ E' h' v, HpOK Tryz.prog B w0 E' h' w ∧ Agree h.next E E' ∧ h.Ext h' ∧ con E' v = .slice (some a) len cap ∧ sc h'.next v = true ∧ Rds h' v cs ∧ scalar v = true ∧ WfS v := by
  subst hl
  cases cs with
  | nil =>
    refine ⟨E.ext h.next a.block 0, ⟨h.objs, h.next + 1⟩, .slice (some ⟨h.next, a.off, a.spot⟩) 0 (2 * cap), H.bump a.block, Env.ext_agree _ _ _ _, ⟨Nat.le_succ _, fun j _ => rfl⟩, ?_, by simp [sc], ?_, rfl, ?_⟩
    · obtain ⟨b, o, s⟩ := a
      cases s with
      | none => simp [con, conCap]
      | some q =>
        have hc : cap = 0 := Nat.eq_zero_of_not_pos fun hp => by have := hc0 hp; simp at this
        subst hc
        simp [con, conCap, conOff, conSpot]
    · cases hsp : a.spot with
      | none => exact .inr ⟨h.next, a.off, _, rfl, fun hn => absurd rfl hn⟩
      | some q =>
        have hc : cap = 0 := Nat.eq_zero_of_not_pos fun hp => by have := hc0 hp; rw [hsp] at this; cases this
        subst hc
        exact .inl ⟨⟨_, rfl⟩, rfl⟩
    · cases hsp : a.spot with
      | none => exact .inl ⟨rfl, Nat.zero_le _⟩
      | some q =>
        have hc : cap = 0 := Nat.eq_zero_of_not_pos fun hp => by have := hc0 hp; rw [hsp] at this; cases this
        subst hc
        exact .inr ⟨rfl, rfl⟩
  | cons v r =>
    have h0 := hcell 0 v rfl
    have hsp : a.spot = none := hc0 (by simp at hlc; omega)
    obtain ⟨arr, e, fz, hb, _, ha⟩ := cell_block h0
    rw [add_spot hsp] at ha hb
    have ha0 : a.off + 0 < arr.size := (Array.getElem?_eq_some_iff.1 ha).1
    have hR := H.newRo (m := a.block) (off := a.off) (cs := v :: r) (hB _ (Array.getElem?_eq_some_iff.1 hb).1) hb (by omega) (fun i u hu => by
      have hi := hcell i u hu
      obtain ⟨arr', e', fz', hb', _, ha'⟩ := cell_block hi
      rw [add_spot hsp] at hb' ha'
      rw [hb] at hb'
      cases hb'
      exact ha') hs h1
    refine ⟨_, _, .slice (some ⟨h.next, a.off, none⟩) (r.length + 1) (2 * cap), hR, Env.ext_agree _ _ _ _, Hp.Ext.new _ _, ?_, by simp [sc, Hp.new], .inr ⟨h.next, a.off, _, rfl, fun _ => ⟨Nat.lt_succ_self _, ?_⟩⟩, rfl, .inl ⟨rfl, by simp at hlc; omega⟩⟩
    · obtain ⟨b, o, s⟩ := a
      simp only at hsp
      subst hsp
      simp [con, conCap]
    · unfold loadN
      rw [get_new]
      have hble : Nat.ble a.off a.off = true := Nat.ble_eq_true_of_le (Nat.le_refl _)
      simp only [hble, Nat.sub_self, List.drop_zero]
      exact takeN_all (v :: r)
theorem openInts {E : Env} {h : Hp} (H : HpOK Tryz.prog B w0 E h w) (hB : ∀ k, k < w.heap.size → B.ro k) {fuel : Nat} {c : Value} {x : DataW HH × List MemPlace}
    (ht : DataW.trod enc Tryz.prog w 0 (fun _ => true) true fuel 28 [c] = some x) :
    ∃ (E' : Env) (h' : Hp) (v : Value) (r : List Int), HpOK Tryz.prog B w0 E' h' w ∧ Agree h.next E E' ∧ h.Ext h' ∧ con E' v = c ∧ sc h'.next v = true ∧ Rds h' v (r.map I) ∧ scalar v = true ∧ r.length < 2 ^ 63 ∧ WfS v := by
  rcases open_ints (k := .i64) u28 (by kernel_rfl) (by kernel_rfl) ht with ⟨hc, _⟩ | ⟨a, len, cap, zs, hc, _, hlc, hcm, hzl, _, hcell, hwf⟩
  · simp only [List.cons.injEq, and_true] at hc
    subst hc
    exact ⟨E, h, .slice none 0 0, [], H, Agree.refl _ _, Hp.Ext.refl _, by simp [con], rfl, .inl ⟨⟨none, rfl⟩, rfl⟩, rfl, by decide, ⟨rfl, rfl⟩⟩
  · simp only [List.cons.injEq, and_true] at hc
    subst hc
    simp only [if_true] at hzl
    obtain ⟨E', h', v, k1, k2, k3, k4, k5, k6, k7, k8⟩ := openCells H hB (a := a) (len := len) (cap := cap) ((zs.take len).map I) (by simp; omega) (fun hp => by
        have := hcell 0 (by omega)
        obtain ⟨_, _, _, _, h2, _⟩ := cell_block this
        unfold Addr.add at h2
        simpa using h2) hlc (fun i v hv => by
        have hil : i < len ∧ i < zs.length := by
          have := (List.getElem?_eq_some_iff.1 hv).1
          simp at this
          exact ⟨by omega, by omega⟩
        have := hcell i hil.2
        rw [this]
        rw [List.getElem?_map, List.getElem?_take, if_pos hil.1, List.getElem?_eq_getElem hil.2] at hv
        simp only [Option.map_some, Option.some.injEq] at hv
        subst hv
        rw [List.getD_eq_getElem?_getD, List.getElem?_eq_getElem hil.2]
        simp [con]) (by rw [scL_iff]; intro v hv; obtain ⟨z, _, rfl⟩ := List.mem_map.1 hv; rfl) (fun v hv => by obtain ⟨z, _, rfl⟩ := List.mem_map.1 hv; rfl)
    refine ⟨E', h', v, zs.take len, k1, k2, k3, k4, k5, k6, k7, ?_, k8⟩
    have : maxLen = 2 ^ 63 - 1 := rfl
    rw [List.length_take]
    omega
theorem openIntsArg {E : Env} {h : Hp} (H : HpOK Tryz.prog B w0 E h w) (hB : ∀ k, k < w.heap.size → B.ro k) {v0 : Value} {base : Nat} {d : DataW HH} {p : List MemPlace} (hval : Value.okWide Tryz.prog w .any base 28 v0)
    (ht : DataW.Trod enc Tryz.prog w 0 (fun _ => true) true 28 v0 d p) :
    ∃ (E' : Env) (h' : Hp) (xa : Option Addr) (xc : Nat) (zs : List Int), HpOK Tryz.prog B w0 E' h' w ∧ con E' (.slice xa zs.length xc) = v0 ∧ sc h'.next (.slice xa zs.length xc) = true ∧ Rds h' (.slice xa zs.length xc) (zs.map I) ∧ WfS (.slice xa zs.length xc) ∧ zs.length < 2 ^ 63 := by
  obtain ⟨fuel, ht⟩ := ht
  have hsl : ∃ a l c, v0 = .slice a l c := by
    unfold Value.okWide at hval
    rw [u28] at hval
    simp only [Cell.okWide, u28, Cell.ok] at hval
    cases v0 <;> first | exact ⟨_, _, _, rfl⟩ | simp at hval
  obtain ⟨a0, l0, c0, rfl⟩ := hsl
  have hcells : (Value.slice a0 l0 c0).cells.toList = [.slice a0 l0 c0] := rfl
  rw [hcells] at ht
  obtain ⟨E', h', v, r, j1, j2, j3, j4, j5, j6, j7, j8, j9⟩ := openInts H hB ht
  obtain ⟨xa, xc, hs⟩ := j6.shape
  rw [List.length_map] at hs
  subst hs
  exact ⟨E', h', xa, xc, r, j1, j4, j5, j6, j9, j8⟩
end
end Go.Proofs.YtkfbfgcflnkllaaGreatDoor
namespace Go.Proofs.YtkfbfgcflnkllaaGreatDoor
open Go Go.Eng Nim
set_option maxRecDepth 100000
set_option maxHeartbeats 8000000
end Go.Proofs.YtkfbfgcflnkllaaGreatDoor
namespace Go.Proofs.YtkfbfgcflnkllaaGreatDoor
open Go Go.Eng Nim
set_option maxRecDepth 100000
set_option maxHeartbeats 8000000
end Go.Proofs.YtkfbfgcflnkllaaGreatDoor
namespace Go.Proofs.YtkfbfgcflnkllaaGreatDoor
open Go Go.Eng Nim
set_option maxRecDepth 100000
set_option maxHeartbeats 8000000
/-! Plain. -/
end Go.Proofs.YtkfbfgcflnkllaaGreatDoor
namespace Go.Proofs.YtkfbfgcflnkllaaGreatDoor
open Go Go.Eng Nim
set_option maxRecDepth 100000
end Go.Proofs.YtkfbfgcflnkllaaGreatDoor
namespace Go.Proofs.YtkfbfgcflnkllaaGreatDoor
open Go Go.Eng Nim
set_option maxRecDepth 100000
set_option maxHeartbeats 8000000
end Go.Proofs.YtkfbfgcflnkllaaGreatDoor
namespace Go.Proofs.YtkfbfgcflnkllaaGreatDoor
open Go Go.Eng Nim
set_option maxRecDepth 100000
set_option maxHeartbeats 8000000
end Go.Proofs.YtkfbfgcflnkllaaGreatDoor
namespace Go.Proofs.YtkfbfgcflnkllaaGreatDoor
open Go Go.Eng Nim
set_option maxRecDepth 100000
set_option maxHeartbeats 8000000
end Go.Proofs.YtkfbfgcflnkllaaGreatDoor
namespace Go.Proofs.YtkfbfgcflnkllaaGreatDoor
open Go Go.Eng Nim
set_option maxRecDepth 100000
set_option maxHeartbeats 8000000
end Go.Proofs.YtkfbfgcflnkllaaGreatDoor
namespace Go.Proofs.YtkfbfgcflnkllaaGreatDoor
open Go Go.Eng Nim Oct
end Go.Proofs.YtkfbfgcflnkllaaGreatDoor
namespace Go.Proofs.YtkfbfgcflnkllaaGreatDoor
open Go Go.Eng Nim
set_option maxRecDepth 100000
set_option maxHeartbeats 8000000
end Go.Proofs.YtkfbfgcflnkllaaGreatDoor
namespace Go.Proofs.YtkfbfgcflnkllaaGreatDoor
open Go Go.Eng Nim
set_option maxRecDepth 100000
set_option maxHeartbeats 8000000
end Go.Proofs.YtkfbfgcflnkllaaGreatDoor
namespace Go.Proofs.YtkfbfgcflnkllaaGreatDoor
open Go Go.Eng Nim
set_option maxRecDepth 100000
set_option maxHeartbeats 8000000
end Go.Proofs.YtkfbfgcflnkllaaGreatDoor
namespace Go.Proofs.YtkfbfgcflnkllaaGreatDoor
open Go Go.Eng Nim
set_option maxRecDepth 100000
set_option maxHeartbeats 8000000
end Go.Proofs.YtkfbfgcflnkllaaGreatDoor
namespace Go.Proofs.YtkfbfgcflnkllaaGreatDoor
open Go Go.Eng Nim
set_option maxRecDepth 100000
set_option maxHeartbeats 8000000
end Go.Proofs.YtkfbfgcflnkllaaGreatDoor
namespace Go.Proofs.YtkfbfgcflnkllaaGreatDoor
open Go Go.Eng Nim
set_option maxRecDepth 100000
set_option maxHeartbeats 8000000
end Go.Proofs.YtkfbfgcflnkllaaGreatDoor
namespace Go.Proofs.YtkfbfgcflnkllaaGreatDoor
open Go Go.Eng Nim
set_option maxRecDepth 100000
set_option maxHeartbeats 8000000
end Go.Proofs.YtkfbfgcflnkllaaGreatDoor
namespace Go.Proofs.YtkfbfgcflnkllaaGreatDoor
open Go Go.Eng Nim
set_option maxRecDepth 100000
set_option maxHeartbeats 8000000
end Go.Proofs.YtkfbfgcflnkllaaGreatDoor
namespace Go.Proofs.YtkfbfgcflnkllaaGreatDoor
open Go Go.Eng Nim
set_option maxRecDepth 100000
set_option maxHeartbeats 8000000
end Go.Proofs.YtkfbfgcflnkllaaGreatDoor
namespace Go.Proofs.YtkfbfgcflnkllaaGreatDoor
open Go Go.Eng Nim
set_option maxRecDepth 100000
set_option maxHeartbeats 8000000
end Go.Proofs.YtkfbfgcflnkllaaGreatDoor
namespace Go.Proofs.YtkfbfgcflnkllaaGreatDoor
open Go Go.Eng Nim
set_option maxRecDepth 100000
set_option maxHeartbeats 8000000
end Go.Proofs.YtkfbfgcflnkllaaGreatDoor
namespace Go.Proofs.YtkfbfgcflnkllaaGreatDoor
open Go Go.Eng Nim
set_option maxRecDepth 100000
set_option maxHeartbeats 8000000
end Go.Proofs.YtkfbfgcflnkllaaGreatDoor
namespace Go.Proofs.YtkfbfgcflnkllaaGreatDoor
open Go Go.Eng Nim
set_option maxRecDepth 100000
set_option maxHeartbeats 8000000
theorem yesT {lf n f : Nat} {args : List Value} {h : Hp} (hk : Ok (fun v _ => v = .bool true) (fnS Tryz.prog orc lf n f args h)) : ∃ H, Ev lf (n + 1) f args h = some (.bool true, H) := by
  obtain ⟨v, h', h1, rfl⟩ := fnS_ok hk
  exact ⟨h', h1⟩
end Go.Proofs.YtkfbfgcflnkllaaGreatDoor
namespace Go.Proofs.YtkfbfgcflnkllaaGreatDoor
open Go Go.Eng Nim
set_option maxRecDepth 100000
set_option maxHeartbeats 8000000
theorem cnt_s (f : Nat → Bool) (n : Nat) : cnt f (n + 1) = cnt f n + (f n).toNat := by
  simp only [cnt]
  by_cases h : f n = true
  · rw [if_pos h, h]; rfl
  · rw [if_neg h, Bool.eq_false_iff.2 h]; rfl
theorem cnt_oa (a b : Nat → Bool) : ∀ n, cnt (fun s => a s || b s) n + cnt (fun s => b s && a s) n = cnt a n + cnt b n
  | 0 => rfl
  | n + 1 => by
    have := cnt_oa a b n
    rw [cnt_s, cnt_s, cnt_s, cnt_s]
    cases a n <;> cases b n <;> simp <;> omega
end Go.Proofs.YtkfbfgcflnkllaaGreatDoor
namespace Go.Proofs.YtkfbfgcflnkllaaGreatDoor
open Go Go.Eng Nim
set_option maxRecDepth 100000
set_option maxHeartbeats 8000000
def bc (x : Nat) : Nat := cnt (fun u => x.testBit u) 8
theorem bc_all : ((List.range 256).all fun x => Nat.beq (bc x) (pcF 10 x)) = true := by decide +kernel
theorem bc_pc {x : Nat} (h : x < 256) : bc x = pcF 10 x := Nat.eq_of_beq_eq_true (List.all_eq_true.1 bc_all x (List.mem_range.2 h))
theorem bc_or (a b : Nat) : bc (a ||| b) ≤ bc a + bc b := by
  have h := cnt_oa (fun u => a.testBit u) (fun u => b.testBit u) 8
  have e : bc (a ||| b) = cnt (fun u => a.testBit u || b.testBit u) 8 := cnt_congr fun u _ => Nat.testBit_or ..
  unfold bc at *
  omega
theorem cnt_zero {f : Nat → Bool} : ∀ {n}, cnt f n = 0 → ∀ k, k < n → f k = false
  | 0, _, k, hk => absurd hk (Nat.not_lt_zero _)
  | n + 1, h, k, hk => by
    rw [cnt_s] at h
    rcases Nat.eq_or_lt_of_le (Nat.le_of_lt_succ hk) with h1 | h1
    · subst h1
      cases hf : f k with
      | false => rfl
      | true => rw [hf] at h; simp at h
    · exact cnt_zero (by omega) k h1
theorem bc_zero {x : Nat} (hx : x < 256) (h : bc x = 0) : x = 0 := by
  apply Nat.eq_of_testBit_eq
  intro i
  rw [Nat.zero_testBit]
  rcases Nat.lt_or_ge i 8 with h1 | h1
  · exact cnt_zero h i h1
  · exact Nat.testBit_lt_two_pow (Nat.lt_of_lt_of_le hx (Nat.pow_le_pow_right (by decide) h1 : 2 ^ 8 ≤ 2 ^ i))
theorem bc_x_all : ((List.range 256).all fun x => (List.range 8).all fun u => !(x.testBit u) || Nat.beq (bc (x ^^^ 2 ^ u) + 1) (bc x)) = true := by decide +kernel
theorem bc_x {x u : Nat} (hx : x < 256) (hu : u < 8) (h : x.testBit u = true) : bc (x ^^^ 2 ^ u) + 1 = bc x := by
  have := List.all_eq_true.1 (List.all_eq_true.1 bc_x_all x (List.mem_range.2 hx)) u (List.mem_range.2 hu)
  rw [h] at this
  exact Nat.eq_of_beq_eq_true (by simpa using this)
def Core (S : List Nat) (c : Nat) : Prop := ∀ s ∈ S, ∀ t ∈ S, s ≠ t → s &&& t = c
def bnd (k : Nat) : Nat → Nat
  | 0 => 1
  | s + 1 => bnd k s * (s + 1) * (k - 1)
/-- Sets without a common element, as many as come. -/
def grd : List Nat → List Nat
  | [] => []
  | x :: r => if (grd r).all (fun y => Nat.beq (x &&& y) 0) then x :: grd r else grd r
theorem grd_sub : ∀ (L : List Nat), (grd L).Sublist L
  | [] => List.Sublist.slnil
  | x :: r => by
    unfold grd
    split
    · exact (grd_sub r).cons_cons x
    · exact (grd_sub r).cons x
theorem grd_core : ∀ (L : List Nat), Core (grd L) 0
  | [] => fun s hs => absurd hs (List.not_mem_nil)
  | x :: r => by
    have ih := grd_core r
    unfold grd
    split
    · rename_i h
      have h1 : ∀ y ∈ grd r, x &&& y = 0 := fun y hy => Nat.eq_of_beq_eq_true (List.all_eq_true.1 h y hy)
      intro s hs t ht hn
      rcases List.mem_cons.1 hs with rfl | hs2
      · rcases List.mem_cons.1 ht with rfl | ht2
        · exact absurd rfl hn
        · exact h1 t ht2
      · rcases List.mem_cons.1 ht with rfl | ht2
        · rw [Nat.and_comm]; exact h1 s hs2
        · exact ih s hs2 t ht2 hn
    · exact ih
theorem grd_all : ∀ (L : List Nat), ∀ x ∈ L, x ∈ grd L ∨ ∃ y ∈ grd L, x &&& y ≠ 0
  | [], x, hx => absurd hx (List.not_mem_nil)
  | z :: r, x, hx => by
    unfold grd
    split
    · rename_i h
      rcases List.mem_cons.1 hx with rfl | hx
      · exact .inl (List.mem_cons_self ..)
      · rcases grd_all r x hx with h1 | ⟨y, hy, h1⟩
        · exact .inl (List.mem_cons_of_mem _ h1)
        · exact .inr ⟨y, List.mem_cons_of_mem _ hy, h1⟩
    · rename_i h
      rcases List.mem_cons.1 hx with rfl | hx
      · right
        have h2 : ((grd r).all fun y => Nat.beq (x &&& y) 0) = false := by simpa using h
        obtain ⟨y, hy, h3⟩ := List.all_eq_false.1 h2
        exact ⟨y, hy, fun e => h3 (by rw [e]; rfl)⟩
      · exact grd_all r x hx
def orL : List Nat → Nat
  | [] => 0
  | x :: r => x ||| orL r
theorem orL_mem : ∀ {L : List Nat} {y u : Nat}, y ∈ L → y.testBit u = true → (orL L).testBit u = true
  | [], y, u, h, _ => absurd h (List.not_mem_nil)
  | x :: r, y, u, h, hb => by
    show (x ||| orL r).testBit u = true
    rw [Nat.testBit_or]
    rcases List.mem_cons.1 h with rfl | h
    · rw [hb]; rfl
    · rw [orL_mem h hb, Bool.or_true]
theorem orL_bc {s : Nat} : ∀ {L : List Nat}, (∀ x ∈ L, bc x ≤ s) → bc (orL L) ≤ (L.filter (· != 0)).length * s
  | [], _ => by show bc 0 ≤ _; exact Nat.zero_le _
  | x :: r, h => by
    have ih := orL_bc (L := r) fun y hy => h y (List.mem_cons_of_mem _ hy)
    have hx := h x (List.mem_cons_self ..)
    have h1 := bc_or x (orL r)
    show bc (x ||| orL r) ≤ _
    by_cases hz : x = 0
    · subst hz
      rw [Nat.zero_or, List.filter_cons_of_neg (by decide)]
      exact ih
    · rw [List.filter_cons_of_pos (by simpa using hz), List.length_cons, Nat.succ_mul]
      omega
def dg (U : Nat) (L : List Nat) : Nat → Nat
  | 0 => 0
  | u + 1 => dg U L u + if U.testBit u then (L.filter fun x => x.testBit u).length else 0
theorem dg_cons (U x : Nat) (L : List Nat) : ∀ N, dg U (x :: L) N = dg U L N + cnt (fun u => U.testBit u && x.testBit u) N
  | 0 => rfl
  | N + 1 => by
    rw [cnt_s]
    simp only [dg, dg_cons U x L N]
    cases h1 : U.testBit N <;> cases h2 : x.testBit N <;> simp [h2] <;> omega
theorem cnt_pos {f : Nat → Bool} : ∀ {n k}, k < n → f k = true → 1 ≤ cnt f n
  | 0, k, hk, _ => absurd hk (Nat.not_lt_zero _)
  | n + 1, k, hk, hf => by
    rw [cnt_s]
    rcases Nat.eq_or_lt_of_le (Nat.le_of_lt_succ hk) with h1 | h1
    · subst h1; rw [hf]; simp
    · have := cnt_pos h1 hf; omega
theorem dg_len (U : Nat) : ∀ (L : List Nat), (∀ x ∈ L, x ≠ 0 → ∃ u, u < 8 ∧ U.testBit u = true ∧ x.testBit u = true) → L.length ≤ (L.filter (· == 0)).length + dg U L 8
  | [], _ => Nat.zero_le _
  | x :: r, h => by
    have ih := dg_len U r fun y hy => h y (List.mem_cons_of_mem _ hy)
    rw [dg_cons, List.length_cons]
    by_cases hz : x = 0
    · subst hz
      rw [List.filter_cons_of_pos (by decide), List.length_cons]
      omega
    · obtain ⟨u, hu, h1, h2⟩ := h x (List.mem_cons_self ..) hz
      have := cnt_pos (f := fun u => U.testBit u && x.testBit u) hu (by show (U.testBit u && x.testBit u) = true; rw [h1, h2]; rfl)
      rw [List.filter_cons_of_neg (by simpa using hz)]
      omega
theorem dg_le (U : Nat) (L : List Nat) (M : Nat) : ∀ N, (∀ u, u < N → U.testBit u = true → (L.filter fun x => x.testBit u).length ≤ M) → dg U L N ≤ cnt (fun u => U.testBit u) N * M
  | 0, _ => Nat.zero_le _
  | N + 1, h => by
    have ih := dg_le U L M N fun u hu => h u (by omega)
    rw [cnt_s]
    simp only [dg]
    cases h1 : U.testBit N with
    | true =>
      have := h N (by omega) h1
      simp only [if_true, Bool.toNat_true]
      rw [Nat.succ_mul]; omega
    | false => simp only [Bool.false_eq_true, if_false, Nat.add_zero, Bool.toNat_false]; exact ih
theorem bnd_pos (k : Nat) (hk : 2 ≤ k) : ∀ s, 1 ≤ bnd k s
  | 0 => Nat.le_refl _
  | s + 1 => by
    have h1 := bnd_pos k hk s
    show 1 ≤ bnd k s * (s + 1) * (k - 1)
    exact Nat.mul_pos (Nat.mul_pos h1 (by omega)) (by omega)
theorem nodup_const : ∀ {L : List Nat} {c : Nat}, L.Nodup → (∀ x ∈ L, x = c) → L.length ≤ 1
  | [], _, _, _ => Nat.zero_le _
  | [_], _, _, _ => Nat.le_refl _
  | x :: y :: r, c, h, hc => by
    have h1 := hc x (by simp)
    have h2 := hc y (by simp)
    rw [h1, h2] at h
    simp at h
theorem x_inj {a b u : Nat} (h : a ^^^ 2 ^ u = b ^^^ 2 ^ u) : a = b := by
  have := congrArg (· ^^^ 2 ^ u) h
  simp only [x_x] at this
  exact this
theorem nodup_map {u : Nat} : ∀ {L : List Nat}, L.Nodup → (L.map (· ^^^ 2 ^ u)).Nodup
  | [], _ => List.nodup_nil
  | x :: r, h => by
    rw [List.nodup_cons] at h
    rw [List.map_cons, List.nodup_cons]
    refine ⟨fun h1 => ?_, nodup_map h.2⟩
    obtain ⟨y, hy, h2⟩ := List.mem_map.1 h1
    exact h.1 (x_inj h2 ▸ hy)
theorem and_xx {a b u : Nat} (ha : a.testBit u = false) (hb : b.testBit u = false) : (a ^^^ 2 ^ u) &&& (b ^^^ 2 ^ u) = (a &&& b) ^^^ 2 ^ u := by
  apply Nat.eq_of_testBit_eq
  intro i
  rw [Nat.testBit_and, tb_x, tb_x, tb_x, Nat.testBit_and]
  by_cases h : u = i
  · subst h; rw [ha, hb]; simp
  · rw [decide_eq_false h]; simp
theorem flower_ex (k : Nat) (hk : 2 ≤ k) : ∀ (s : Nat) (L : List Nat), L.Nodup → (∀ x ∈ L, x < 256 ∧ bc x ≤ s) → bnd k s < L.length → ∃ S c, S.Nodup ∧ S.length = k ∧ (∀ x ∈ S, x ∈ L) ∧ Core S c
  | 0, L, hn, hb, hl => by
    have := nodup_const hn fun x hx => bc_zero (hb x hx).1 (by have := (hb x hx).2; omega)
    have h1 : bnd k 0 = 1 := rfl
    omega
  | s + 1, L, hn, hb, hl => by
    have hB := bnd_pos k hk s
    have hsub := grd_sub L
    have hcore := grd_core L
    by_cases hD : k ≤ (grd L).length
    · refine ⟨(grd L).take k, 0, (hn.sublist hsub).sublist (List.take_sublist ..), by rw [List.length_take]; omega, fun x hx => hsub.subset ((List.take_sublist ..).subset hx), fun a ha b hb => hcore a ((List.take_sublist ..).subset ha) b ((List.take_sublist ..).subset hb)⟩
    · by_cases hu : ∃ u, u < 8 ∧ (orL (grd L)).testBit u = true ∧ bnd k s < (L.filter fun x => x.testBit u).length
      · obtain ⟨u, hu8, _, h1⟩ := hu
        have hfm : ∀ x ∈ L.filter (fun x => x.testBit u), x ∈ L ∧ x.testBit u = true := fun x hx => List.mem_filter.1 hx
        obtain ⟨S, c, hS1, hS2, hS3, hS4⟩ := flower_ex k hk s ((L.filter fun x => x.testBit u).map (· ^^^ 2 ^ u)) (nodup_map (hn.sublist (List.filter_sublist ..))) (fun x hx => by
          obtain ⟨y, hy, rfl⟩ := List.mem_map.1 hx
          obtain ⟨h2, h3⟩ := hfm y hy
          have h4 := hb y h2
          have h5 := bc_x h4.1 hu8 h3
          exact ⟨x_lt (n := 8) h4.1 hu8, by omega⟩) (by rw [List.length_map]; exact h1)
        have hSb : ∀ x ∈ S, x.testBit u = false ∧ x ^^^ 2 ^ u ∈ L := fun x hx => by
          obtain ⟨y, hy, rfl⟩ := List.mem_map.1 (hS3 x hx)
          obtain ⟨h2, h3⟩ := hfm y hy
          exact ⟨by rw [tb_xs, h3]; rfl, by rw [x_x]; exact h2⟩
        refine ⟨S.map (· ^^^ 2 ^ u), c ^^^ 2 ^ u, nodup_map hS1, by rw [List.length_map, hS2], fun x hx => ?_, fun a ha b hb hab => ?_⟩
        · obtain ⟨y, hy, rfl⟩ := List.mem_map.1 hx
          exact (hSb y hy).2
        · obtain ⟨y, hy, rfl⟩ := List.mem_map.1 ha
          obtain ⟨z, hz, rfl⟩ := List.mem_map.1 hb
          rw [and_xx (hSb y hy).1 (hSb z hz).1, hS4 y hy z hz fun e => hab (by rw [e])]
      · exfalso
        have hu2 : ∀ u, u < 8 → (orL (grd L)).testBit u = true → (L.filter fun x => x.testBit u).length ≤ bnd k s := fun u h1 h2 => Nat.le_of_not_lt fun h3 => hu ⟨u, h1, h2, h3⟩
        have h1 := dg_le _ L _ 8 hu2
        have h2 := dg_len (orL (grd L)) L fun x hx hx0 => by
          have key : ∀ y, y ∈ grd L → x &&& y ≠ 0 → ∃ u, u < 8 ∧ (orL (grd L)).testBit u = true ∧ x.testBit u = true := fun y hy hxy => by
            obtain ⟨i, hi⟩ := Nat.exists_testBit_ne_of_ne hxy
            rw [Nat.zero_testBit, Nat.testBit_and] at hi
            have hi : x.testBit i = true ∧ y.testBit i = true := by
              cases hx1 : x.testBit i <;> cases hy1 : y.testBit i <;> simp [hx1, hy1] at hi ⊢
            refine ⟨i, ?_, orL_mem hy hi.2, hi.1⟩
            rcases Nat.lt_or_ge i 8 with h3 | h3
            · exact h3
            · rw [Nat.testBit_lt_two_pow (Nat.lt_of_lt_of_le (hb x hx).1 (Nat.pow_le_pow_right (by decide) h3 : 2 ^ 8 ≤ 2 ^ i))] at hi
              exact absurd hi.1 (by decide)
          rcases grd_all L x hx with h3 | ⟨y, hy, h3⟩
          · exact key x h3 (by rw [Nat.and_self]; exact hx0)
          · exact key y hy h3
        have h3 : bc (orL (grd L)) ≤ ((grd L).filter (· != 0)).length * (s + 1) := orL_bc fun x hx => (hb x (hsub.subset hx)).2
        have h4 : (L.filter (· == 0)).length ≤ 1 := nodup_const (c := 0) (hn.sublist (List.filter_sublist ..)) fun x hx => by
          have := (List.mem_filter.1 hx).2
          simpa using this
        have h5 : ((grd L).filter (· != 0)).length + (L.filter (· == 0)).length ≤ (grd L).length := by
          by_cases h0 : 0 ∈ L
          · have h6 : 0 ∈ grd L := by
              rcases grd_all L 0 h0 with h7 | ⟨y, _, h7⟩
              · exact h7
              · rw [Nat.zero_and] at h7; exact absurd rfl h7
            have h8 : ∀ (D : List Nat), 0 ∈ D → (D.filter (· != 0)).length + 1 ≤ D.length := fun D => by
              induction D with
              | nil => intro h; exact absurd h (List.not_mem_nil)
              | cons y r ih =>
                intro h
                by_cases hy : y = 0
                · subst hy
                  rw [List.filter_cons_of_neg (by decide), List.length_cons]
                  have := List.length_filter_le (· != 0) r
                  omega
                · rw [List.filter_cons_of_pos (by simpa using hy), List.length_cons, List.length_cons]
                  have := ih ((List.mem_cons.1 h).resolve_left fun e => hy e.symm)
                  omega
            have := h8 _ h6
            omega
          · have h6 : L.filter (· == 0) = [] := List.filter_eq_nil_iff.2 fun x hx h7 => by
              have h8 : x = 0 := by simpa using h7
              exact h0 (h8 ▸ hx)
            rw [h6]
            exact List.length_filter_le _ _
        generalize (L.filter (· == 0)).length = z at *
        generalize ((grd L).filter (· != 0)).length = p at *
        have h6 : bc (orL (grd L)) * bnd k s ≤ p * (s + 1) * bnd k s := Nat.mul_le_mul_right _ h3
        have h7 : dg (orL (grd L)) L 8 ≤ bc (orL (grd L)) * bnd k s := h1
        have h8 : p + z ≤ k - 1 := by omega
        have h9 : 1 ≤ (s + 1) * bnd k s := Nat.mul_pos (by omega) hB
        have h10 : p * (s + 1) * bnd k s = p * ((s + 1) * bnd k s) := Nat.mul_assoc ..
        have h11 : bnd k (s + 1) = (k - 1) * ((s + 1) * bnd k s) := by
          show bnd k s * (s + 1) * (k - 1) = _
          rw [Nat.mul_comm, Nat.mul_comm (bnd k s)]
        have h12 : (p + z) * ((s + 1) * bnd k s) ≤ (k - 1) * ((s + 1) * bnd k s) := Nat.mul_le_mul_right _ h8
        rw [Nat.add_mul] at h12
        have h13 : z ≤ z * ((s + 1) * bnd k s) := Nat.le_mul_of_pos_right _ h9
        omega
end Go.Proofs.YtkfbfgcflnkllaaGreatDoor
namespace Go.Proofs.YtkfbfgcflnkllaaGreatDoor
open Go Go.Eng Nim
set_option maxRecDepth 100000
set_option maxHeartbeats 8000000
theorem lst_ins1 (f : Nat → Bool) (k : Nat) : ∀ N, (lst (fun j => if j = k then true else f j) N).length ≤ (lst f N).length + if k < N then 1 else 0
  | 0 => Nat.zero_le _
  | N + 1 => by
    have ih := lst_ins1 f k N
    rw [lst_succ, lst_succ]
    by_cases hN : N = k
    · subst hN
      rw [if_neg (Nat.lt_irrefl _)] at ih
      rw [if_pos (if_pos rfl), if_pos (Nat.lt_succ_self _), List.length_append, List.length_singleton]
      cases f N with
      | true => rw [if_pos rfl, List.length_append, List.length_singleton]; omega
      | false => rw [if_neg (by decide)]; omega
    · have e : (if N = k then true else f N) = f N := if_neg hN
      have e2 : (if k < N + 1 then 1 else 0) = if k < N then 1 else 0 := by
        by_cases h : k < N
        · rw [if_pos h, if_pos (by omega)]
        · rw [if_neg h, if_neg (by omega)]
      rw [e, e2]
      cases f N with
      | true => rw [if_pos rfl, if_pos rfl, List.length_append, List.length_append, List.length_singleton]; omega
      | false => rw [if_neg (by decide), if_neg (by decide)]; exact ih
theorem lst_ins {f : Nat → Bool} {k N i : Nat} (h : (lst f N).length ≤ i) : (lst (fun j => if j = k then true else f j) N).length ≤ i + 1 := by
  have := lst_ins1 f k N
  split at this <;> omega
theorem tame2_of (lf m : Nat) (hlf : 2000 ≤ lf) (n most : Nat) (hn : n ≤ 10) (hm : most ≤ 1000) (zs : List Int) (hzs : zs.length < 2 ^ 63) (v : Value) (h : Hp) (hv : Rds h v (zs.map I)) :
    ∃ v' h', Ev lf (m + 1) 20 [J n, v, J most] h = some (v', h') ∧ ∃ f q, (lst f (2 ^ n)).length ≤ most ∧ v' = oslV q (lst f (2 ^ n)).length ∧ Sto h h' (oent q 3 ((lst f (2 ^ n)).map J)) := by
  refine fnS_ok (Q := fun v' h' => ∃ f q, (lst f (2 ^ n)).length ≤ most ∧ v' = oslV q (lst f (2 ^ n)).length ∧ Sto h h' (oent q 3 ((lst f (2 ^ n)).map J))) ?_
  have hsh := one_shl n (by omega)
  have h2n : 2 ^ n ≤ 1024 := Nat.pow_le_pow_right (by decide) hn
  have hpos := Nat.two_pow_pos n
  obtain ⟨va, vc, hvs⟩ := hv.shape
  rw [List.length_map] at hvs
  subst hvs
  have W := Sto.start h
  refine ok_go 2 ?_
  refine sy_call 0 (r := makeSliceOp Tryz.prog h 37 (I (IntKind.i64.wrap (1 * 2 ^ min (IntKind.u64.wrap (Int.ofNat n)).toNat IntKind.i64.bits))) (I (IntKind.i64.wrap (1 * 2 ^ min (IntKind.u64.wrap (Int.ofNat n)).toNat IntKind.i64.bits)))) (by kernel_rfl) (by rw [hsh]; exact mkB (2 ^ n) h2n h) ?_
  have W := W.new (.cells (cellsF (2 ^ n) fun _ => .bool false) 4 false)
  generalize h.new (.cells (cellsF (2 ^ n) fun _ => .bool false) 4 false) = h1 at *
  refine ok_go 0 ?_
  refine sy_loop 0 lf h1 (α := Nat × (Nat → Bool)) (fun x => [(1, .slice va zs.length vc), (2, J most), (7, .slice (some ⟨h.next, 0, none⟩) (2 ^ n) (2 * 2 ^ n)), (8, J x.1)]) (fun x g => (x.1 ≤ most ∧ (lst x.2 (2 ^ n)).length ≤ x.1) ∧ Sto h g [(h.next, .cells (cellsF (2 ^ n) fun k => .bool (x.2 k)) 4 false)]) (fun x _ => most - x.1) (0, fun _ => false) (by kernel_rfl) (by kernel_rfl)
    ⟨by kernel_rfl, by kernel_rfl, by kernel_rfl, by kernel_rfl, trivial⟩ (show most - 0 < lf by omega) ⟨⟨Nat.zero_le _, by unfold lst; simp⟩, W⟩ ?_
  clear W
  rintro m1 ⟨i, f⟩ F1 g ⟨⟨hi, hcn⟩, W⟩ ih
  dsimp only at hi hcn W
  have hw : IntKind.wrap .i64 (Int.ofNat (i + 1)) = Int.ofNat (i + 1) := wrap_nat (by omega)
  refine ok_go 2 ?_
  by_cases h1 : i < zs.length
  · refine sy_yes 0 (b := decide (Int.ofNat i < Int.ofNat zs.length)) (by kernel_rfl) (decide_eq_true (by show (i : Int) < (zs.length : Int); omega)) ?_
    refine ok_go 4 ?_
    by_cases h2 : i < most
    · refine sy_yes 0 (b := decide (Int.ofNat i < Int.ofNat most)) (by kernel_rfl) (decide_eq_true (by show (i : Int) < (most : Int); omega)) ?_
      obtain ⟨p, hp1, hp2⟩ := rdI (hv.ext W.ext) h1
      generalize zs[i] = x at *
      obtain ⟨k, hk, hrem⟩ := rem_u x (2 ^ n) hpos (by omega)
      refine ok_go 0 ?_
      refine sy_load 0 (r := indexAddrOp Tryz.prog 28 (.slice va zs.length vc) (J i)) (h' := g) (by kernel_rfl) hp1 ?_
      refine ok_go 0 ?_
      refine sy_load 0 (r := loadT Tryz.prog g 3 p) (h' := g) (by kernel_rfl) hp2 ?_
      refine ok_go 3 ?_
      refine sy_load 0 (r := pureX (binOp .rem 36 (.int .u64 (IntKind.wrap .u64 x)) (.int .u64 (IntKind.wrap .u64 (Int.ofNat (2 ^ n)))))) (h' := g) (by kernel_rfl) (x_rem (wrap_ne (2 ^ n) hpos (by omega))) ?_
      refine ok_go 0 ?_
      refine sy_load 0 (r := indexAddrOp Tryz.prog 37 (.slice (some ⟨h.next, 0, none⟩) (2 ^ n) (2 * 2 ^ n)) (.int .u64 ((IntKind.wrap .u64 x).tmod (IntKind.wrap .u64 (Int.ofNat (2 ^ n)))))) (h' := g) (v := ptr h.next k) (by kernel_rfl) (by rw [hrem]; exact idxS0 (e := 4) (by kernel_rfl) zB hk) ?_
      refine ok_go 0 ?_
      refine ow_storeF (P := Tryz.prog) (T := 4) (v := .bool true) 0 0 W rfl hk zB rfl (by kernel_rfl) fun g2 ng2 W => ?_
      rw [mk97_set] at W
      refine ok_go 1 ?_
      exact sy_next 0 _ g2 (by kernel_rfl) (by kernel_rfl) (ih (i + 1, fun j => if j = k then true else f j) _ g2 ⟨⟨h2, lst_ins hcn⟩, W⟩ (show most - (i + 1) < most - i by omega) ⟨by kernel_rfl, by kernel_rfl, by kernel_rfl, (by kernel_rfl : _ = Value.int .i64 (IntKind.wrap .i64 (Int.ofNat (i + 1)))).trans (by rw [hw]), trivial⟩)
    · refine sy_no 0 (b := decide (Int.ofNat i < Int.ofNat most)) (by kernel_rfl) (decide_eq_false (by show ¬ (i : Int) < (most : Int); omega)) ?_
      refine ok_go 0 ?_
      refine sy_loop 0 lf g (α := Nat × Nat × Option Addr × Nat) (fun x => [(7, .slice (some ⟨h.next, 0, none⟩) (2 ^ n) (2 * 2 ^ n)), (9, .slice x.2.2.1 (lst f x.1).length x.2.2.2), (10, J x.1)]) (fun x g => x.1 ≤ 2 ^ n ∧ .slice x.2.2.1 (lst f x.1).length x.2.2.2 = oslV x.2.1 (lst f x.1).length ∧ Sto h g ((h.next, .cells (cellsF (2 ^ n) fun k => .bool (f k)) 4 false) :: oent x.2.1 3 ((lst f x.1).map J))) (fun x _ => 2 ^ n - x.1) (0, 0, none, 0) (by kernel_rfl) (by kernel_rfl)
        ⟨by kernel_rfl, by kernel_rfl, by kernel_rfl, trivial⟩ (show 2 ^ n - 0 < lf by omega) ⟨Nat.zero_le _, rfl, W⟩ ?_
      clear W
      rintro m2 ⟨k, q, oa, oc⟩ F2 g2 ⟨hk, hos, W⟩ ih2
      dsimp only at hk hos W
      have hw2 : IntKind.wrap .i64 (Int.ofNat (k + 1)) = Int.ofNat (k + 1) := wrap_nat (by omega)
      have hll := lst_len f k
      have hls := lst_succ f k
      refine ok_go 2 ?_
      refine sy_test 0 (decide (Int.ofNat k < Int.ofNat (2 ^ n))) (by kernel_rfl) ?_ ?_
      · intro hlt
        have hlt : k < 2 ^ n := ok_nat hlt
        refine ok_go 0 ?_
        refine sy_load 0 (r := indexAddrOp Tryz.prog 37 (.slice (some ⟨h.next, 0, none⟩) (2 ^ n) (2 * 2 ^ n)) (J k)) (h' := g2) (v := ptr h.next k) (by kernel_rfl) (idxS0 (e := 4) (by kernel_rfl) zB hlt) ?_
        refine ok_go 0 ?_
        refine ow_loadF (P := Tryz.prog) (T := 4) 0 0 W rfl hlt agB (by kernel_rfl) ?_
        refine ok_go 0 ?_
        cases hf : f k with
        | true =>
          rw [hf, if_pos rfl] at hls
          generalize lst f k = L at *
          refine ow_new 1 W (AObj.cells [Value.int IntKind.i64 (Int.ofNat (Prod.fst (k, q, oa, oc)))] 3 false) (fun q => Value.slice (some { block := q, off := 0 }) 1 2) (by kernel_rfl) fun k1 nk1 Wk1 => ?_
          have W := Wk1
          have W : Sto h k1 ((g2.next, .cells [J k] 3 false) :: ([(h.next, .cells (cellsF (2 ^ n) fun k => .bool (f k)) 4 false)] ++ oent q 3 (L.map J))) := W
          refine ow_app (P := Tryz.prog) (t := 28) (e := 3) (z := 1) (c := L.length) (i := q) 0 W slz28 (by rw [List.length_map, Nat.mul_one]) rfl rfl (by omega) (by rw [← hos]; kernel_rfl) fun k2 sl nk2 hsl hsc W => ?_
          obtain ⟨oa2, oc2, ho2⟩ := osl_shape k1.next (L.length + 1)
          rw [ho2] at hsl
          subst hsl
          have W : Sto h k2 ((h.next, .cells (cellsF (2 ^ n) fun k => .bool (f k)) 4 false) :: oent k1.next 3 ((L ++ [k]).map J)) := by rw [List.map_append]; exact W
          refine ok_go 1 ?_
          exact sy_next 0 _ k2 (by kernel_rfl) (by kernel_rfl) (ih2 (k + 1, k1.next, oa2, oc2) _ k2 ⟨hlt, by dsimp only; rw [hls, List.length_append]; exact ho2.symm, by dsimp only; rw [hls]; exact W⟩ (show 2 ^ n - (k + 1) < 2 ^ n - k by omega) ⟨by kernel_rfl, (by kernel_rfl : _ = Value.slice oa2 (L.length + 1) oc2).trans (by dsimp only; rw [hls, List.length_append]; rfl), (by kernel_rfl : _ = Value.int .i64 (IntKind.wrap .i64 (Int.ofNat (k + 1)))).trans (by rw [hw2]), trivial⟩)
        | false =>
          rw [hf, if_neg Bool.false_ne_true] at hls
          generalize lst f k = L at *
          refine ok_go 2 ?_
          exact sy_next 0 _ g2 (by kernel_rfl) (by kernel_rfl) (ih2 (k + 1, q, oa, oc) _ g2 ⟨hlt, by dsimp only; rw [hls]; exact hos, by dsimp only; rw [hls]; exact W⟩ (show 2 ^ n - (k + 1) < 2 ^ n - k by omega) ⟨by kernel_rfl, (by kernel_rfl : _ = Value.slice oa L.length oc).trans (by dsimp only; rw [hls]), (by kernel_rfl : _ = Value.int .i64 (IntKind.wrap .i64 (Int.ofNat (k + 1)))).trans (by rw [hw2]), trivial⟩)
      · intro hlt
        have hlt : k = 2 ^ n := Nat.le_antisymm hk (no_nat hlt)
        subst hlt
        refine ok_go 0 ?_
        exact sy_done 0 (v := .slice oa (lst f (2 ^ n)).length oc) (h := g2) (by kernel_rfl) ⟨f, q, by omega, hos, W.drop 1⟩
  · refine sy_no 0 (b := decide (Int.ofNat i < Int.ofNat zs.length)) (by kernel_rfl) (decide_eq_false (by show ¬ (i : Int) < (zs.length : Int); omega)) ?_
    refine ok_go 4 ?_
    refine sy_loop 0 lf g (α := Nat × Nat × Option Addr × Nat) (fun x => [(7, .slice (some ⟨h.next, 0, none⟩) (2 ^ n) (2 * 2 ^ n)), (9, .slice x.2.2.1 (lst f x.1).length x.2.2.2), (10, J x.1)]) (fun x g => x.1 ≤ 2 ^ n ∧ .slice x.2.2.1 (lst f x.1).length x.2.2.2 = oslV x.2.1 (lst f x.1).length ∧ Sto h g ((h.next, .cells (cellsF (2 ^ n) fun k => .bool (f k)) 4 false) :: oent x.2.1 3 ((lst f x.1).map J))) (fun x _ => 2 ^ n - x.1) (0, 0, none, 0) (by kernel_rfl) (by kernel_rfl)
      ⟨by kernel_rfl, by kernel_rfl, by kernel_rfl, trivial⟩ (show 2 ^ n - 0 < lf by omega) ⟨Nat.zero_le _, rfl, W⟩ ?_
    clear W
    rintro m2 ⟨k, q, oa, oc⟩ F2 g2 ⟨hk, hos, W⟩ ih2
    dsimp only at hk hos W
    have hw2 : IntKind.wrap .i64 (Int.ofNat (k + 1)) = Int.ofNat (k + 1) := wrap_nat (by omega)
    have hll := lst_len f k
    have hls := lst_succ f k
    refine ok_go 2 ?_
    refine sy_test 0 (decide (Int.ofNat k < Int.ofNat (2 ^ n))) (by kernel_rfl) ?_ ?_
    · intro hlt
      have hlt : k < 2 ^ n := ok_nat hlt
      refine ok_go 0 ?_
      refine sy_load 0 (r := indexAddrOp Tryz.prog 37 (.slice (some ⟨h.next, 0, none⟩) (2 ^ n) (2 * 2 ^ n)) (J k)) (h' := g2) (v := ptr h.next k) (by kernel_rfl) (idxS0 (e := 4) (by kernel_rfl) zB hlt) ?_
      refine ok_go 0 ?_
      refine ow_loadF (P := Tryz.prog) (T := 4) 0 0 W rfl hlt agB (by kernel_rfl) ?_
      refine ok_go 0 ?_
      cases hf : f k with
      | true =>
        rw [hf, if_pos rfl] at hls
        generalize lst f k = L at *
        refine ow_new 1 W (AObj.cells [Value.int IntKind.i64 (Int.ofNat (Prod.fst (k, q, oa, oc)))] 3 false) (fun q => Value.slice (some { block := q, off := 0 }) 1 2) (by kernel_rfl) fun k1 nk1 Wk1 => ?_
        have W := Wk1
        have W : Sto h k1 ((g2.next, .cells [J k] 3 false) :: ([(h.next, .cells (cellsF (2 ^ n) fun k => .bool (f k)) 4 false)] ++ oent q 3 (L.map J))) := W
        refine ow_app (P := Tryz.prog) (t := 28) (e := 3) (z := 1) (c := L.length) (i := q) 0 W slz28 (by rw [List.length_map, Nat.mul_one]) rfl rfl (by omega) (by rw [← hos]; kernel_rfl) fun k2 sl nk2 hsl hsc W => ?_
        obtain ⟨oa2, oc2, ho2⟩ := osl_shape k1.next (L.length + 1)
        rw [ho2] at hsl
        subst hsl
        have W : Sto h k2 ((h.next, .cells (cellsF (2 ^ n) fun k => .bool (f k)) 4 false) :: oent k1.next 3 ((L ++ [k]).map J)) := by rw [List.map_append]; exact W
        refine ok_go 1 ?_
        exact sy_next 0 _ k2 (by kernel_rfl) (by kernel_rfl) (ih2 (k + 1, k1.next, oa2, oc2) _ k2 ⟨hlt, by dsimp only; rw [hls, List.length_append]; exact ho2.symm, by dsimp only; rw [hls]; exact W⟩ (show 2 ^ n - (k + 1) < 2 ^ n - k by omega) ⟨by kernel_rfl, (by kernel_rfl : _ = Value.slice oa2 (L.length + 1) oc2).trans (by dsimp only; rw [hls, List.length_append]; rfl), (by kernel_rfl : _ = Value.int .i64 (IntKind.wrap .i64 (Int.ofNat (k + 1)))).trans (by rw [hw2]), trivial⟩)
      | false =>
        rw [hf, if_neg Bool.false_ne_true] at hls
        generalize lst f k = L at *
        refine ok_go 2 ?_
        exact sy_next 0 _ g2 (by kernel_rfl) (by kernel_rfl) (ih2 (k + 1, q, oa, oc) _ g2 ⟨hlt, by dsimp only; rw [hls]; exact hos, by dsimp only; rw [hls]; exact W⟩ (show 2 ^ n - (k + 1) < 2 ^ n - k by omega) ⟨by kernel_rfl, (by kernel_rfl : _ = Value.slice oa L.length oc).trans (by dsimp only; rw [hls]), (by kernel_rfl : _ = Value.int .i64 (IntKind.wrap .i64 (Int.ofNat (k + 1)))).trans (by rw [hw2]), trivial⟩)
    · intro hlt
      have hlt : k = 2 ^ n := Nat.le_antisymm hk (no_nat hlt)
      subst hlt
      refine ok_go 0 ?_
      exact sy_done 0 (v := .slice oa (lst f (2 ^ n)).length oc) (h := g2) (by kernel_rfl) ⟨f, q, by omega, hos, W.drop 1⟩
end Go.Proofs.YtkfbfgcflnkllaaGreatDoor
namespace Go.Proofs.YtkfbfgcflnkllaaGreatDoor
open Go Go.Eng Nim
set_option maxRecDepth 100000
set_option maxHeartbeats 8000000
/-- The pairs of the set in place i with those in the first j places. -/
def flP (s : List Nat) (i j : Nat) : Bool := (List.range j).all fun k => Nat.beq (s.getD i 0 &&& s.getD k 0) (s.getD 0 0 &&& s.getD 1 0)
def flR (s : List Nat) (i : Nat) : Bool := (List.range i).all fun k => flP s k k
def isF (s : List Nat) : Bool := flR s s.length
theorem flP_succ (s : List Nat) (i j : Nat) : flP s i (j + 1) = (flP s i j && Nat.beq (s.getD i 0 &&& s.getD j 0) (s.getD 0 0 &&& s.getD 1 0)) := by
  unfold flP; rw [List.range_succ, List.all_append]; simp
theorem flR_succ (s : List Nat) (i : Nat) : flR s (i + 1) = (flR s i && flP s i i) := by
  unfold flR; rw [List.range_succ, List.all_append]; simp
theorem flP_false {s : List Nat} {i j k : Nat} (h : flP s i j = false) (hj : j ≤ k) : flP s i k = false := by
  obtain ⟨x, hx, h1⟩ := List.all_eq_false.1 h
  exact List.all_eq_false.2 ⟨x, List.mem_range.2 (by have := List.mem_range.1 hx; omega), h1⟩
theorem flR_false {s : List Nat} {i k : Nat} (h : flR s i = false) (hj : i ≤ k) : flR s k = false := by
  obtain ⟨x, hx, h1⟩ := List.all_eq_false.1 h
  exact List.all_eq_false.2 ⟨x, List.mem_range.2 (by have := List.mem_range.1 hx; omega), h1⟩
theorem isflower_of (lf m : Nat) (hlf : 2000 ≤ lf) (s : List Nat) (hl : s.length ≤ 1024) (hb : ∀ x ∈ s, x < 2 ^ 62) (v : Value) (h : Hp) (hwf : WfS v) (hv : Rds h v (s.map J)) : Ev lf (m + 1) 83 [v] h = some (.bool (isF s), h) := by
  refine fn_eq ?_
  obtain ⟨va, vc, hvs⟩ := hv.shape
  rw [List.length_map] at hvs
  subst hvs
  have hgd : ∀ {k : Nat} (hk : k < s.length), s.getD k 0 = s[k] := fun hk => by
    rw [List.getD_eq_getElem?_getD, List.getElem?_eq_getElem hk]; rfl
  have hbd : ∀ k, s.getD k 0 < 2 ^ 62 := fun k => by
    rcases Nat.lt_or_ge k s.length with hk | hk
    · rw [hgd hk]; exact hb _ (List.getElem_mem hk)
    · rw [List.getD_eq_getElem?_getD, List.getElem?_eq_none hk]; decide
  refine ok_go 1 ?_
  refine sy_loop 0 lf h (α := Nat) (fun i => [(0, .slice va s.length vc), (7, .slice va s.length vc), (8, J s.length), (9, J i)]) (fun i g => (i ≤ s.length ∧ flR s i = true) ∧ g = h) (fun i _ => s.length - i) 0 (by kernel_rfl) (by kernel_rfl)
    ⟨by kernel_rfl, by kernel_rfl, by kernel_rfl, by kernel_rfl, trivial⟩ (show s.length - 0 < lf by omega) ⟨⟨Nat.zero_le _, rfl⟩, rfl⟩ ?_
  rintro m1 i F1 g ⟨⟨hi, hR⟩, rfl⟩ ih
  have hw : IntKind.wrap .i64 (Int.ofNat (i + 1)) = Int.ofNat (i + 1) := wrap_nat (by omega)
  refine ok_go 1 ?_
  refine sy_test 0 (decide (Int.ofNat i < Int.ofNat s.length)) (by kernel_rfl) ?_ ?_
  · intro hlt
    have hlt : i < s.length := ok_nat hlt
    obtain ⟨p, hp1, hp2⟩ := rdN hv hlt
    rw [← hgd hlt] at hp2
    have hRs := flR_succ s i
    rw [hR, Bool.true_and] at hRs
    refine ok_go 0 ?_
    refine sy_load 0 (r := indexAddrOp Tryz.prog 28 (.slice va s.length vc) (J i)) (h' := g) (by kernel_rfl) hp1 ?_
    refine ok_go 0 ?_
    refine sy_load 0 (r := loadT Tryz.prog g 3 p) (h' := g) (by kernel_rfl) hp2 ?_
    obtain ⟨ra, rfl⟩ : ∃ ra, va = some ra := by
      rcases hv with ⟨⟨a, _⟩, h2⟩ | ⟨q, off, c, h2, _⟩
      · rw [List.map_eq_nil_iff] at h2
        subst h2
        exact absurd hlt (Nat.not_lt_zero _)
      · injection h2 with h3
        exact ⟨_, h3⟩
    refine ok_go 0 ?_
    obtain ⟨y, hy1, hy2⟩ := cut_row hwf hv (K := i) (by rw [List.length_map]; omega)
    rw [← List.map_take] at hy2
    obtain ⟨ya, yc, hys⟩ := hy2.shape
    rw [List.length_map, List.length_take, Nat.min_eq_left (by omega)] at hys
    subst hys
    refine sy_load 0 (r := sliceOp Tryz.prog 28 (.slice (some ra) s.length vc) none (some (J i)) none) (h' := g) (by kernel_rfl) hy1 ?_
    refine ok_go 1 ?_
    refine sy_loop 0 lf g (α := Nat) (fun j => [(0, .slice (some ra) s.length vc), (4, J (s.getD i 0)), (7, .slice (some ra) s.length vc), (8, J s.length), (9, J i), (16, .slice ya i yc), (17, J i), (18, J j)]) (fun j g' => (j ≤ i ∧ flP s i j = true) ∧ g' = g) (fun j _ => i - j) 0 (by kernel_rfl) (by kernel_rfl)
      ⟨by kernel_rfl, by kernel_rfl, by kernel_rfl, by kernel_rfl, by kernel_rfl, by kernel_rfl, by kernel_rfl, by kernel_rfl, trivial⟩ (show i - 0 < lf by omega) ⟨⟨Nat.zero_le _, rfl⟩, rfl⟩ ?_
    rintro m2 j F2 g ⟨⟨hj, hP⟩, rfl⟩ ih2
    have hwj : IntKind.wrap .i64 (Int.ofNat (j + 1)) = Int.ofNat (j + 1) := wrap_nat (by omega)
    refine ok_go 1 ?_
    refine sy_test 0 (decide (Int.ofNat j < Int.ofNat i)) (by kernel_rfl) ?_ ?_
    · intro hlj
      have hlj : j < i := ok_nat hlj
      obtain ⟨p2, h21, h22⟩ := rdN (r := s.take i) hy2 (k := j) (by rw [List.length_take]; omega)
      rw [List.getElem_take, ← hgd (show j < s.length by omega)] at h22
      obtain ⟨p3, h31, h32⟩ := rdN hv (k := 0) (by omega)
      rw [← hgd (show 0 < s.length by omega)] at h32
      obtain ⟨p4, h41, h42⟩ := rdN hv (k := 1) (by omega)
      rw [← hgd (show 1 < s.length by omega)] at h42
      have hPs := flP_succ s i j
      rw [hP, Bool.true_and] at hPs
      have b0 := hbd i
      have b1 := hbd j
      have b2 := hbd 0
      have b3 := hbd 1
      generalize hsi : s.getD i 0 = si at *
      generalize s.getD j 0 = sj at *
      generalize s.getD 0 0 = s0 at *
      generalize s.getD 1 0 = s1 at *
      refine ok_go 0 ?_
      refine sy_load 0 (r := indexAddrOp Tryz.prog 28 (.slice ya i yc) (J j)) (h' := g) (by kernel_rfl) h21 ?_
      refine ok_go 0 ?_
      refine sy_load 0 (r := loadT Tryz.prog g 3 p2) (h' := g) (by kernel_rfl) h22 ?_
      refine ok_go 1 ?_
      refine sy_load 0 (r := indexAddrOp Tryz.prog 28 (.slice (some ra) s.length vc) (J 0)) (h' := g) (by kernel_rfl) h31 ?_
      refine ok_go 0 ?_
      refine sy_load 0 (r := loadT Tryz.prog g 3 p3) (h' := g) (by kernel_rfl) h32 ?_
      refine ok_go 0 ?_
      refine sy_load 0 (r := indexAddrOp Tryz.prog 28 (.slice (some ra) s.length vc) (J 1)) (h' := g) (by kernel_rfl) h41 ?_
      refine ok_go 0 ?_
      refine sy_load 0 (r := loadT Tryz.prog g 3 p4) (h' := g) (by kernel_rfl) h42 ?_
      refine ok_go 2 ?_
      have hb2 : (andI (Int.ofNat si) (Int.ofNat sj) != andI (Int.ofNat s0) (Int.ofNat s1)) = !Nat.beq (si &&& sj) (s0 &&& s1) := by
        rw [and_nat (by omega), and_nat (by omega)]
        cases hc : Nat.beq (si &&& sj) (s0 &&& s1) with
        | true => rw [Nat.eq_of_beq_eq_true hc]; simp
        | false =>
          have : si &&& sj ≠ s0 &&& s1 := fun e => by rw [e, Nat.beq_refl] at hc; cases hc
          exact bne_iff_ne.2 fun e => this (Int.ofNat.inj e)
      cases hc : Nat.beq (si &&& sj) (s0 &&& s1) with
      | true =>
        rw [hc] at hb2 hPs
        refine sy_no 0 (b := andI (Int.ofNat si) (Int.ofNat sj) != andI (Int.ofNat s0) (Int.ofNat s1)) (by kernel_rfl) hb2 ?_
        refine ok_go 1 ?_
        exact sy_next 0 _ g (by kernel_rfl) (by kernel_rfl) (ih2 (j + 1) _ g ⟨⟨hlj, hPs⟩, rfl⟩ (show i - (j + 1) < i - j by omega) ⟨by kernel_rfl, by kernel_rfl, by kernel_rfl, by kernel_rfl, by kernel_rfl, by kernel_rfl, by kernel_rfl, (by kernel_rfl : _ = I (IntKind.wrap .i64 (Int.ofNat (j + 1)))).trans (by rw [hwj]), trivial⟩)
      | false =>
        rw [hc] at hb2 hPs
        have hF : isF s = false := flR_false (i := i + 1) (by rw [hRs]; exact flP_false hPs hlj) hlt
        refine sy_yes 0 (b := andI (Int.ofNat si) (Int.ofNat sj) != andI (Int.ofNat s0) (Int.ofNat s1)) (by kernel_rfl) hb2 ?_
        refine ok_go 0 ?_
        exact sy_done 0 (v := .bool false) (h := g) (by kernel_rfl) ⟨by rw [hF], rfl⟩
    · intro hlj
      have hlj : j = i := Nat.le_antisymm hj (no_nat hlj)
      subst hlj
      refine ok_go 1 ?_
      exact sy_next 0 _ g (by kernel_rfl) (by kernel_rfl) (ih (j + 1) _ g ⟨⟨hlt, by rw [hRs]; exact hP⟩, rfl⟩ (show s.length - (j + 1) < s.length - j by omega) ⟨by kernel_rfl, by kernel_rfl, by kernel_rfl, (by kernel_rfl : _ = I (IntKind.wrap .i64 (Int.ofNat (j + 1)))).trans (by rw [hw]), trivial⟩)
  · intro hlt
    have hlt : i = s.length := Nat.le_antisymm hi (no_nat hlt)
    subst hlt
    have hR : isF s = true := hR
    refine ok_go 0 ?_
    exact sy_done 0 (v := .bool true) (h := g) (by kernel_rfl) ⟨by rw [hR], rfl⟩
end Go.Proofs.YtkfbfgcflnkllaaGreatDoor
namespace Go.Proofs.YtkfbfgcflnkllaaGreatDoor
open Go Go.Eng Nim Ch
set_option maxRecDepth 100000
set_option maxHeartbeats 8000000
theorem os_app2 {h H : Hp} {l : List (Nat × AObj)} {q len j : Nat} {cs : List Value} {v x : Value} (W : Sto h H ((j, .cells [x] 3 false) :: (l ++ oent q 3 cs))) (hO : OSv q cs.length len v) (hx : scalar x = true) (hc : cs.length < 1000) :
    ∃ v' H' q' cs', appendOp Tryz.prog H 28 v (.slice (some ⟨j, 0, none⟩) 1 2) = some (v', H') ∧ OSv q' cs'.length (len + 1) v' ∧ cs'.length ≤ max cs.length (len + 1) ∧ cs'.take (len + 1) = cs.take len ++ [x] ∧ scalar v' = true ∧ Sto h H' (l ++ oent q' 3 cs') := by
  have hj : H.get j = some (.cells [x] 3 false) := W.get 0 rfl
  by_cases hlc : len < cs.length
  · obtain ⟨h1, h2, rfl⟩ : 0 < cs.length ∧ len ≤ cs.length ∧ v = .slice (some ⟨q, 0, none⟩) len (2 * cs.length + 1) := by
      rcases hO with ⟨a, b, _⟩ | hh
      · omega
      · exact hh
    have W1 : Sto h H (((j, .cells [x] 3 false) :: l) ++ oent q 3 cs) := W
    obtain ⟨hg, _, _⟩ := oent_get W1 h1
    have hne : oent q 3 cs = [(q, .cells cs 3 true)] := by
      cases cs with
      | nil => cases h1
      | cons a r => rfl
    have hne2 : oent q 3 (cs.set len x) = [(q, .cells (cs.set len x) 3 true)] := by
      have : (cs.set len x).length = cs.length := List.length_set
      cases hcs : cs.set len x with
      | nil => rw [hcs] at this; simp at this; omega
      | cons a r => rfl
    rw [hne] at W
    have hset : ((j, AObj.cells [x] 3 false) :: (l ++ [(q, AObj.cells cs 3 true)])).set (l.length + 1) (q, .cells (cs.set len x) 3 true) = (j, .cells [x] 3 false) :: (l ++ [(q, .cells (cs.set len x) 3 true)]) := by
      simp
    refine ⟨.slice (some ⟨q, 0, none⟩) (len + 1) (2 * cs.length + 1), H.put q (.cells (cs.set len x) 3 true), q, cs.set len x, ?_, .inr ⟨by rw [List.length_set]; exact h1, by rw [List.length_set]; omega, by rw [List.length_set]⟩, by rw [List.length_set]; omega, set_take _ _ _ hlc, rfl, ?_⟩
    · obtain ⟨inf, hi1, hi2⟩ := slz28.i
      obtain ⟨z, hz1, hz2⟩ := slz28.zr
      have he : elems H 1 1 (.slice (some ⟨j, 0, none⟩) 1 2) = some [x] := by simp only [elems, loadN, hj]; rfl
      have hst : storeN H q (0 + len * 1) [x] = some (H.put q (.cells (cs.set len x) 3 true)) := by
        simp only [storeN, hg, Nat.zero_add, Nat.mul_one, List.length_singleton, Nat.ble_eq_true_of_le (show len + 1 ≤ cs.length by omega), List.all_cons, hx, List.all_nil, Bool.and_true, splice1 hlc]
      simp only [appendOp, slz28.u, slz28.s, hi1, hz1, show lenV (.slice (some ⟨j, 0, none⟩) 1 2) = some 1 from rfl, he, hz2, hi2, List.all_cons, hx, List.all_nil, Bool.and_true, (odd_half cs.length).1,
        Nat.ble_eq_true_of_le (show len + 1 ≤ most by unfold most; omega), Nat.ble_eq_true_of_le (show len + 1 ≤ cs.length by omega), hst]
    · rw [hne2]
      have W3 := W.put (l.length + 1) (show ((j, AObj.cells [x] 3 false) :: (l ++ [(q, AObj.cells cs 3 true)]))[l.length + 1]? = some (q, .cells cs 3 true) by simp) (.cells (cs.set len x) 3 true)
      rw [hset] at W3
      exact W3.drop 1
  · have hlen : len = cs.length ∧ v = oslV q cs.length := by
      rcases hO with ⟨a, b, c⟩ | ⟨a, b, c⟩
      · exact ⟨by omega, by rw [a]; exact c⟩
      · obtain rfl : len = cs.length := by omega
        refine ⟨rfl, ?_⟩
        rw [c]
        cases hcs : cs.length with
        | zero => omega
        | succ k => rfl
    obtain ⟨rfl, rfl⟩ := hlen
    obtain ⟨H', e1, e2, W'⟩ := append_sto (P := Tryz.prog) (t := 28) (x := .slice (some ⟨j, 0, none⟩) 1 2) (n := cs.length) (m := 0) (W.sub (List.sublist_cons_self ..)) slz28 (by simp) rfl rfl (by simp only [elems, loadN, hj]; rfl) (by simp [hx]) (by omega)
    refine ⟨_, H', H.next, cs ++ [x], e1, ?_, by simp, by rw [List.take_length, List.take_of_length_le (by simp)], rfl, W'⟩
    rw [List.length_append]
    exact .inr ⟨by simp, by simp, rfl⟩
/-- The search: the first flower of k sets that begins with s and goes on with the rest. -/
def srF (k : Nat) : List Nat → List Nat → Option (List Nat)
  | [], s => if s.length = k then some s else none
  | x :: r, s => if s.length = k then some s else if isF (s ++ [x]) then (match srF k r (s ++ [x]) with | some f => some f | none => srF k r s) else srF k r s
theorem srF_full {k : Nat} {s : List Nat} (h : s.length = k) : ∀ r, srF k r s = some s
  | [] => if_pos h
  | _ :: _ => if_pos h
theorem srF_nil {k : Nat} {s : List Nat} (h : s.length ≠ k) : srF k [] s = none := if_neg h
theorem srF_cons {k : Nat} {s : List Nat} (h : s.length ≠ k) (x : Nat) (r : List Nat) : srF k (x :: r) s = if isF (s ++ [x]) then (match srF k r (s ++ [x]) with | some f => some f | none => srF k r s) else srF k r s := if_neg h
theorem osv_wf {q c n : Nat} {v : Value} (k : OSv q c n v) : WfS v := by
  rcases k with ⟨_, rfl, rfl⟩ | ⟨_, h, rfl⟩
  · exact ⟨rfl, rfl⟩
  · exact .inl ⟨rfl, by omega⟩
theorem osv_sc {q c n : Nat} {v : Value} (k : OSv q c n v) : scalar v = true := by
  rcases k with ⟨_, rfl, rfl⟩ | ⟨_, h, rfl⟩ <;> rfl
theorem osv_rds {h0 H : Hp} {l : List (Nat × AObj)} {q : Nat} {cs : List Value} {v : Value} {s : List Nat} (k : OSv q cs.length s.length v) (ht : cs.take s.length = s.map J) (W : Sto h0 H (l ++ oent q 3 cs)) : Rds H v (s.map J) := by
  rcases k with ⟨h1, h2, rfl⟩ | ⟨h1, h2, rfl⟩
  · exact .inl ⟨⟨none, rfl⟩, by rw [List.length_eq_zero_iff.1 h2]; rfl⟩
  · obtain ⟨hg, hn, _⟩ := oent_get W h1
    refine .inr ⟨q, 0, 2 * cs.length + 1, by rw [List.length_map], fun _ => ⟨hn, ?_⟩⟩
    simp only [loadN, hg, List.drop_zero, List.length_map]
    rw [takeN_take (takeN_all cs) s.length h2, ht]
end Go.Proofs.YtkfbfgcflnkllaaGreatDoor
namespace Go.Proofs.YtkfbfgcflnkllaaGreatDoor
open Go Go.Eng Nim Ch
set_option maxRecDepth 100000
set_option maxHeartbeats 8000000
theorem srch_of (lf m : Nat) (hlf : 2000 ≤ lf) (L : List Nat) (hL : L.length ≤ 60) (hb : ∀ x ∈ L, x < 1024) (la : Option Addr) (lc : Nat) (h0 : Hp) (hv : Rds h0 (.slice la L.length lc) (L.map J)) (k a1 a2 a3 a4 : Nat) (hk : k ≤ 5) :
    ∀ (j : Nat) (s : List Nat) (fr q : Nat) (cs : List Value) (v : Value) (g : Hp), s.length + j = k → fr ≤ L.length → OSv q cs.length s.length v → cs.length ≤ 5 → cs.take s.length = s.map J → (∀ x ∈ s, x < 1024) →
      Sto h0 g ((a1, .cells [v] 28 false) :: (a2, .cells [J k] 3 false) :: (a3, .cells [.slice la L.length lc] 28 false) :: (a4, .cells [.func (.func 82) #[] #[ptr a1 0, ptr a2 0, ptr a3 0, ptr a4 0]] 31 false) :: oent q 3 cs) →
      ∃ w g', Ev lf (m + j + 2) 82 [J fr, ptr a1 0, ptr a2 0, ptr a3 0, ptr a4 0] g = some (w, g') ∧ ∃ s' q' cs' v', w = .bool (srF k (L.drop fr) s).isSome ∧ s' = (srF k (L.drop fr) s).getD s ∧ OSv q' cs'.length s'.length v' ∧ cs'.length ≤ 5 ∧ cs'.take s'.length = s'.map J ∧
        Sto h0 g' ((a1, .cells [v'] 28 false) :: (a2, .cells [J k] 3 false) :: (a3, .cells [.slice la L.length lc] 28 false) :: (a4, .cells [.func (.func 82) #[] #[ptr a1 0, ptr a2 0, ptr a3 0, ptr a4 0]] 31 false) :: oent q' 3 cs') := by
  intro j
  induction j with
  | zero =>
    intro s fr q cs v g hj hfr hO hc ht _ W
    have hsk : s.length = k := by omega
    rw [srF_full hsk]
    obtain ⟨oa, oc, rfl⟩ := hO.shape
    refine fnS_ok (Q := fun w g' => ∃ s' q' cs' v', w = .bool (some s : Option (List Nat)).isSome ∧ s' = (some s : Option (List Nat)).getD s ∧ OSv q' cs'.length s'.length v' ∧ cs'.length ≤ 5 ∧ cs'.take s'.length = s'.map J ∧
        Sto h0 g' ((a1, .cells [v'] 28 false) :: (a2, .cells [J k] 3 false) :: (a3, .cells [.slice la L.length lc] 28 false) :: (a4, .cells [.func (.func 82) #[] #[ptr a1 0, ptr a2 0, ptr a3 0, ptr a4 0]] 31 false) :: oent q' 3 cs')) ?_
    refine ow_load (P := Tryz.prog) (T := 28) (off := 0) 0 0 W rfl rfl (by kernel_rfl) (by kernel_rfl) ?_
    refine ow_load (P := Tryz.prog) (T := 3) (off := 0) 1 1 W rfl rfl (by kernel_rfl) (by kernel_rfl) ?_
    refine ok_go 1 ?_
    refine sy_yes 0 (b := Int.ofNat s.length == Int.ofNat k) (by kernel_rfl) (by rw [hsk, beq_self_eq_true]) ?_
    refine ok_go 0 ?_
    exact sy_done 0 (v := .bool true) (h := g) (by kernel_rfl) ⟨s, q, cs, _, rfl, rfl, hO, hc, ht, W⟩
  | succ j ih0 =>
    intro s fr q cs v g hj hfr hO hc ht hs W
    have hsk : s.length ≠ k := by omega
    generalize hres : srF k (L.drop fr) s = res
    obtain ⟨oa, oc, rfl⟩ := hO.shape
    refine fnS_ok (Q := fun w g' => ∃ s' q' cs' v', w = .bool res.isSome ∧ s' = res.getD s ∧ OSv q' cs'.length s'.length v' ∧ cs'.length ≤ 5 ∧ cs'.take s'.length = s'.map J ∧
        Sto h0 g' ((a1, .cells [v'] 28 false) :: (a2, .cells [J k] 3 false) :: (a3, .cells [.slice la L.length lc] 28 false) :: (a4, .cells [.func (.func 82) #[] #[ptr a1 0, ptr a2 0, ptr a3 0, ptr a4 0]] 31 false) :: oent q' 3 cs')) ?_
    refine ow_load (P := Tryz.prog) (T := 28) (off := 0) 0 0 W rfl rfl (by kernel_rfl) (by kernel_rfl) ?_
    refine ow_load (P := Tryz.prog) (T := 3) (off := 0) 1 1 W rfl rfl (by kernel_rfl) (by kernel_rfl) ?_
    refine ok_go 1 ?_
    refine sy_no 0 (b := Int.ofNat s.length == Int.ofNat k) (by kernel_rfl) (beq_eq_false_iff_ne.2 fun h => hsk (Int.ofNat.inj h)) ?_
    refine ok_go 0 ?_
    refine sy_loop 0 lf g (α := Nat × Nat × List Value × Option Addr × Nat) (fun x => [(1, ptr a1 0), (2, ptr a2 0), (3, ptr a3 0), (4, ptr a4 0), (7, J x.1)]) (fun x g => (x.1 ≤ L.length ∧ srF k (L.drop x.1) s = res) ∧ OSv x.2.1 x.2.2.1.length s.length (.slice x.2.2.2.1 s.length x.2.2.2.2) ∧ x.2.2.1.length ≤ 5 ∧ x.2.2.1.take s.length = s.map J ∧
        Sto h0 g ((a1, .cells [.slice x.2.2.2.1 s.length x.2.2.2.2] 28 false) :: (a2, .cells [J k] 3 false) :: (a3, .cells [.slice la L.length lc] 28 false) :: (a4, .cells [.func (.func 82) #[] #[ptr a1 0, ptr a2 0, ptr a3 0, ptr a4 0]] 31 false) :: oent x.2.1 3 x.2.2.1)) (fun x _ => L.length - x.1) (fr, q, cs, oa, oc) (by kernel_rfl) (by kernel_rfl)
      ⟨by kernel_rfl, by kernel_rfl, by kernel_rfl, by kernel_rfl, by kernel_rfl, trivial⟩ (show L.length - fr < lf by omega) ⟨⟨hfr, hres⟩, hO, hc, ht, W⟩ ?_
    clear W hO hc ht hres
    rintro m1 ⟨i, q, cs, oa, oc⟩ F1 g ⟨⟨hi, hres⟩, hO, hc, ht, W⟩ ih
    dsimp only at hi hres hO hc ht W
    have hw : IntKind.wrap .i64 (Int.ofNat (i + 1)) = Int.ofNat (i + 1) := wrap_nat (by omega)
    refine ow_load (P := Tryz.prog) (T := 28) (off := 0) 0 2 W rfl rfl (by kernel_rfl) (by kernel_rfl) ?_
    refine ok_go 2 ?_
    refine sy_test 0 (decide (Int.ofNat i < Int.ofNat L.length)) (by kernel_rfl) ?_ ?_
    · intro hlt
      have hlt : i < L.length := ok_nat hlt
      obtain ⟨p, hp1, hp2⟩ := rdN (hv.ext W.ext) hlt
      have hxb := hb _ (List.getElem_mem hlt)
      have hdr : L.drop i = L[i] :: L.drop (i + 1) := List.drop_eq_getElem_cons hlt
      rw [hdr, srF_cons hsk] at hres
      generalize L[i] = x at *
      refine ow_load (P := Tryz.prog) (T := 28) (off := 0) 0 0 W rfl rfl (by kernel_rfl) (by kernel_rfl) ?_
      refine ow_load (P := Tryz.prog) (T := 28) (off := 0) 0 2 W rfl rfl (by kernel_rfl) (by kernel_rfl) ?_
      refine sy_load 0 (r := indexAddrOp Tryz.prog 28 (.slice la L.length lc) (J i)) (h' := g) (by kernel_rfl) hp1 ?_
      refine ok_go 0 ?_
      refine sy_load 0 (r := loadT Tryz.prog g 3 p) (h' := g) (by kernel_rfl) hp2 ?_
      refine ow_new 0 W (AObj.cells [Value.int IntKind.i64 (Int.ofNat x)] 3 false) (fun q => Value.slice (some { block := q, off := 0 }) 1 2) (by kernel_rfl) fun c1 nc1 Wc1 => ?_
      have W := Wc1
      have W : Sto h0 c1 ((g.next, .cells [J x] 3 false) :: ([(a1, .cells [.slice oa s.length oc] 28 false), (a2, .cells [J k] 3 false), (a3, .cells [.slice la L.length lc] 28 false), (a4, .cells [.func (.func 82) #[] #[ptr a1 0, ptr a2 0, ptr a3 0, ptr a4 0]] 31 false)] ++ oent q 3 cs)) := W
      obtain ⟨v2, c2, q2, cs2, e2, hO2, hc2, ht2, hsv, W⟩ := os_app2 W hO rfl (by omega)
      have hc2 : cs2.length ≤ 5 := by omega
      have ht2 : cs2.take (s ++ [x]).length = (s ++ [x]).map J := by
        rw [List.length_append, List.length_singleton, ht2, ht, List.map_append]; rfl
      have hO2 : OSv q2 cs2.length (s ++ [x]).length v2 := by rw [List.length_append]; exact hO2
      have hsx : ∀ y ∈ s ++ [x], y < 1024 := fun y hy => by
        rcases List.mem_append.1 hy with h1 | h1
        · exact hs y h1
        · rw [List.mem_singleton.1 h1]; exact hxb
      refine sy_call 0 (by kernel_rfl) e2 ?_
      have W : Sto h0 c2 ((a1, .cells [.slice oa s.length oc] 28 false) :: (a2, .cells [J k] 3 false) :: (a3, .cells [.slice la L.length lc] 28 false) :: (a4, .cells [.func (.func 82) #[] #[ptr a1 0, ptr a2 0, ptr a3 0, ptr a4 0]] 31 false) :: oent q2 3 cs2) := W
      refine ok_go 0 ?_
      refine ow_store (P := Tryz.prog) (T := 28) (off := 0) (v := v2) 0 0 W rfl (Nat.le_of_ble_eq_true (by kernel_rfl)) (by kernel_rfl) hsv (by kernel_rfl) fun c3 nc3 W => ?_
      have W : Sto h0 c3 ((a1, .cells [v2] 28 false) :: (a2, .cells [J k] 3 false) :: (a3, .cells [.slice la L.length lc] 28 false) :: (a4, .cells [.func (.func 82) #[] #[ptr a1 0, ptr a2 0, ptr a3 0, ptr a4 0]] 31 false) :: oent q2 3 cs2) := W
      have W' : Sto h0 c3 ([(a1, .cells [v2] 28 false), (a2, .cells [J k] 3 false), (a3, .cells [.slice la L.length lc] 28 false), (a4, .cells [.func (.func 82) #[] #[ptr a1 0, ptr a2 0, ptr a3 0, ptr a4 0]] 31 false)] ++ oent q2 3 cs2) := W
      have e3 := isflower_of lf (m + j + 1) hlf (s ++ [x]) (by rw [List.length_append]; have : ([x] : List Nat).length = 1 := rfl; omega) (fun y hy => by have := hsx y hy; omega) v2 c3 (osv_wf hO2) (osv_rds hO2 ht2 W')
      obtain ⟨hcp, hcl, rfl⟩ : 0 < cs2.length ∧ (s ++ [x]).length ≤ cs2.length ∧ v2 = .slice (some ⟨q2, 0, none⟩) (s ++ [x]).length (2 * cs2.length + 1) := by
        rcases hO2 with ⟨_, h2, _⟩ | hh
        · rw [List.length_append, List.length_singleton] at h2; omega
        · exact hh
      have hlen : (s ++ [x]).length = s.length + 1 := by rw [List.length_append, List.length_singleton]
      have hsl2 : s.length ≤ cs2.length := by omega
      have hm1 : IntKind.i64.wrap (Int.ofNat (s ++ [x]).length - 1) = Int.ofNat s.length := by rw [hlen]; exact wrap_sub (a := s.length + 1) (b := 1) (by omega) (by omega)
      have hcut : ∀ (n : Nat) (cs : List Value), 0 < cs.length → s.length ≤ cs.length → ∀ q n, sliceOp Tryz.prog 28 (.slice (some ⟨q, 0, none⟩) n (2 * cs.length + 1)) none (some (I (Int.ofNat s.length))) none = some (.slice (some ⟨q, 0, none⟩) s.length (2 * cs.length + 1)) := fun _ cs h1 h2 q n => gl_hi (e := 3) (by kernel_rfl) (by kernel_rfl) h2 h1
      have htk : ∀ cs : List Value, cs.take (s ++ [x]).length = (s ++ [x]).map J → cs.take s.length = s.map J := fun cs h => by
        have := congrArg (List.take s.length) h
        rw [List.take_take, hlen, Nat.min_eq_left (by omega), List.map_append, List.take_left' (by rw [List.length_map])] at this
        exact this
      refine ow_load (P := Tryz.prog) (T := 28) (off := 0) 0 0 W rfl rfl (by kernel_rfl) (by kernel_rfl) ?_
      refine sy_call 0 (by kernel_rfl) e3 ?_
      by_cases hF : isF (s ++ [x]) = true
      · rw [if_pos hF] at hres
        refine ok_go 1 ?_
        refine sy_no 0 (b := !isF (s ++ [x])) (by kernel_rfl) (by rw [hF]; rfl) ?_
        obtain ⟨_, c4, e4, s4, q4, cs4, v4, rfl, hs4, hO4, hc4, ht4, W4⟩ := ih0 (s ++ [x]) (i + 1) q2 cs2 _ c3 (by rw [hlen]; omega) hlt hO2 hc2 ht2 hsx W
        rw [show J (i + 1) = I (IntKind.wrap .i64 (Int.ofNat (i + 1))) by rw [hw]] at e4
        refine ow_load (P := Tryz.prog) (T := 31) (off := 0) 0 3 W rfl rfl (by kernel_rfl) (by kernel_rfl) ?_
        refine ok_go 1 ?_
        refine sy_call 0 (by kernel_rfl) e4 ?_
        have W := W4
        cases hr4 : srF k (L.drop (i + 1)) (s ++ [x]) with
        | some f =>
          rw [hr4] at hres hs4
          have hs4 : s4 = f := hs4
          have hres : some f = res := hres
          refine ok_go 1 ?_
          exact sy_done 0 (v := .bool true) (h := c4) (by kernel_rfl) ⟨s4, q4, cs4, v4, by rw [← hres]; rfl, by rw [← hres]; exact hs4, hO4, hc4, ht4, W⟩
        | none =>
          rw [hr4] at hres hs4
          have hs4 : s4 = s ++ [x] := hs4
          have hres : srF k (L.drop (i + 1)) s = res := hres
          subst hs4
          obtain ⟨hcp4, hcl4, rfl⟩ : 0 < cs4.length ∧ (s ++ [x]).length ≤ cs4.length ∧ v4 = .slice (some ⟨q4, 0, none⟩) (s ++ [x]).length (2 * cs4.length + 1) := by
            rcases hO4 with ⟨_, h2, _⟩ | hh
            · rw [hlen] at h2; omega
            · exact hh
          have hsl4 : s.length ≤ cs4.length := by omega
          refine ow_load (P := Tryz.prog) (T := 28) (off := 0) 1 0 W rfl rfl (by kernel_rfl) (by kernel_rfl) ?_
          refine ow_load (P := Tryz.prog) (T := 28) (off := 0) 0 0 W rfl rfl (by kernel_rfl) (by kernel_rfl) ?_
          refine ok_go 2 ?_
          refine sy_load 0 (r := sliceOp Tryz.prog 28 (.slice (some ⟨q4, 0, none⟩) (s ++ [x]).length (2 * cs4.length + 1)) none (some (I (IntKind.i64.wrap (Int.ofNat (s ++ [x]).length - 1)))) none) (h' := c4) (by kernel_rfl) (by rw [hm1]; exact hcut 0 cs4 hcp4 hsl4 q4 _) ?_
          refine ok_go 0 ?_
          refine ow_store (P := Tryz.prog) (T := 28) (off := 0) (v := .slice (some ⟨q4, 0, none⟩) s.length (2 * cs4.length + 1)) 0 0 W rfl (Nat.le_of_ble_eq_true (by kernel_rfl)) (by kernel_rfl) rfl (by kernel_rfl) fun c9 nc9 W => ?_
          have W : Sto h0 c9 ((a1, .cells [.slice (some ⟨q4, 0, none⟩) s.length (2 * cs4.length + 1)] 28 false) :: (a2, .cells [J k] 3 false) :: (a3, .cells [.slice la L.length lc] 28 false) :: (a4, .cells [.func (.func 82) #[] #[ptr a1 0, ptr a2 0, ptr a3 0, ptr a4 0]] 31 false) :: oent q4 3 cs4) := W
          refine ok_go 1 ?_
          exact sy_next 0 _ c9 (by kernel_rfl) (by kernel_rfl) (ih (i + 1, q4, cs4, some ⟨q4, 0, none⟩, 2 * cs4.length + 1) _ c9 ⟨⟨hlt, hres⟩, .inr ⟨hcp4, hsl4, rfl⟩, hc4, htk cs4 ht4, W⟩ (show L.length - (i + 1) < L.length - i by omega) ⟨by kernel_rfl, by kernel_rfl, by kernel_rfl, by kernel_rfl, (by kernel_rfl : _ = I (IntKind.wrap .i64 (Int.ofNat (i + 1)))).trans (by rw [hw]), trivial⟩)
      · rw [if_neg hF] at hres
        refine ok_go 1 ?_
        refine sy_yes 0 (b := !isF (s ++ [x])) (by kernel_rfl) (by rw [Bool.eq_false_iff.2 hF]; rfl) ?_
        refine ow_load (P := Tryz.prog) (T := 28) (off := 0) 0 0 W rfl rfl (by kernel_rfl) (by kernel_rfl) ?_
        refine ow_load (P := Tryz.prog) (T := 28) (off := 0) 0 0 W rfl rfl (by kernel_rfl) (by kernel_rfl) ?_
        refine ok_go 2 ?_
        refine sy_load 0 (r := sliceOp Tryz.prog 28 (.slice (some ⟨q2, 0, none⟩) (s ++ [x]).length (2 * cs2.length + 1)) none (some (I (IntKind.i64.wrap (Int.ofNat (s ++ [x]).length - 1)))) none) (h' := c3) (by kernel_rfl) (by rw [hm1]; exact hcut 0 cs2 hcp hsl2 q2 _) ?_
        refine ok_go 0 ?_
        refine ow_store (P := Tryz.prog) (T := 28) (off := 0) (v := .slice (some ⟨q2, 0, none⟩) s.length (2 * cs2.length + 1)) 0 0 W rfl (Nat.le_of_ble_eq_true (by kernel_rfl)) (by kernel_rfl) rfl (by kernel_rfl) fun c9 nc9 W => ?_
        have W : Sto h0 c9 ((a1, .cells [.slice (some ⟨q2, 0, none⟩) s.length (2 * cs2.length + 1)] 28 false) :: (a2, .cells [J k] 3 false) :: (a3, .cells [.slice la L.length lc] 28 false) :: (a4, .cells [.func (.func 82) #[] #[ptr a1 0, ptr a2 0, ptr a3 0, ptr a4 0]] 31 false) :: oent q2 3 cs2) := W
        refine ok_go 1 ?_
        exact sy_next 0 _ c9 (by kernel_rfl) (by kernel_rfl) (ih (i + 1, q2, cs2, some ⟨q2, 0, none⟩, 2 * cs2.length + 1) _ c9 ⟨⟨hlt, hres⟩, .inr ⟨hcp, hsl2, rfl⟩, hc2, htk cs2 ht2, W⟩ (show L.length - (i + 1) < L.length - i by omega) ⟨by kernel_rfl, by kernel_rfl, by kernel_rfl, by kernel_rfl, (by kernel_rfl : _ = I (IntKind.wrap .i64 (Int.ofNat (i + 1)))).trans (by rw [hw]), trivial⟩)
    · intro hlt
      have hlt : i = L.length := Nat.le_antisymm hi (no_nat hlt)
      subst hlt
      rw [List.drop_length, srF_nil hsk] at hres
      refine ok_go 0 ?_
      exact sy_done 0 (v := .bool false) (h := g) (by kernel_rfl) ⟨s, q, cs, _, by rw [← hres]; rfl, by rw [← hres]; rfl, hO, hc, ht, W⟩
end Go.Proofs.YtkfbfgcflnkllaaGreatDoor
namespace Go.Proofs.YtkfbfgcflnkllaaGreatDoor
open Go Go.Eng Nim Ch
set_option maxRecDepth 100000
set_option maxHeartbeats 8000000
theorem flw_of (lf m : Nat) (hlf : 2000 ≤ lf) (n : Nat) (hn : n ≤ 10) (k : Nat) (hk1 : 1 ≤ k) (hk5 : k ≤ 5) (f : Nat → Bool) (hl : (lst f (2 ^ n)).length ≤ 60) (v : Value) (h : Hp) (hv : Rds h v ((lst f (2 ^ n)).map J)) :
    ∃ v' h', Ev lf (m + k + 3) 43 [J n, v, J k] h = some (v', h') ∧ h.Ext h' ∧ ((srF k (lst f (2 ^ n)) [] = none ∧ v' = .tuple #[.slice none 0 0, .bool false, J 0]) ∨ ∃ fl w, srF k (lst f (2 ^ n)) [] = some fl ∧ v' = .tuple #[w, .bool true, J 0] ∧ Rds h' w (fl.map J) ∧ WfS w) := by
  refine fnS_ok (Q := fun v' h' => h.Ext h' ∧ ((srF k (lst f (2 ^ n)) [] = none ∧ v' = .tuple #[.slice none 0 0, .bool false, J 0]) ∨ ∃ fl w, srF k (lst f (2 ^ n)) [] = some fl ∧ v' = .tuple #[w, .bool true, J 0] ∧ Rds h' w (fl.map J) ∧ WfS w)) ?_
  have h2n : 2 ^ n ≤ 1024 := Nat.pow_le_pow_right (by decide) hn
  have e1 := fun g (X : h.Ext g) => chk_lst lf (m + k + 1) hlf n hn f v g (hv.ext X)
  have hlm : ∀ x ∈ lst f (2 ^ n), x < 1024 := fun x hx => by have := (lst_mem.1 hx).1; omega
  obtain ⟨va, vc, hvs⟩ := hv.shape
  rw [List.length_map] at hvs
  subst hvs
  generalize lst f (2 ^ n) = L at *
  have W := Sto.start h
  refine ow_new 0 W (AObj.cells [Value.slice va (List.length L) vc] 28 false) (fun q => Value.pointer (some { block := q, off := 0 })) (by kernel_rfl) fun g1 ng1 Wg1 => ?_
  have W := Wg1
  refine ow_new 0 W (AObj.cells [Value.int IntKind.i64 (Int.ofNat k)] 3 false) (fun q => Value.pointer (some { block := q, off := 0 })) (by kernel_rfl) fun g2 ng2 Wg2 => ?_
  have W := Wg2
  refine ow_new 0 W (AObj.cells [Value.slice none 0 0] 28 false) (fun q => Value.pointer (some { block := q, off := 0 })) (by kernel_rfl) fun g3 ng3 Wg3 => ?_
  have W := Wg3
  refine ow_load (P := Tryz.prog) (T := 28) (off := 0) 0 2 W rfl rfl (by kernel_rfl) (by kernel_rfl) ?_
  refine sy_call 0 (by kernel_rfl) (e1 _ W.ext) ?_
  refine ow_load (P := Tryz.prog) (T := 3) (off := 0) 2 1 W rfl rfl (by kernel_rfl) (by kernel_rfl) ?_
  refine ok_go 1 ?_
  refine sy_no 0 (b := decide (Int.ofNat k < 1)) (by kernel_rfl) (decide_eq_false (by show ¬ (k : Int) < 1; omega)) ?_
  refine ow_load (P := Tryz.prog) (T := 3) (off := 0) 0 1 W rfl rfl (by kernel_rfl) (by kernel_rfl) ?_
  refine ok_go 3 ?_
  refine sy_no 0 (b := decide (Int.ofNat k > 5)) (by kernel_rfl) (decide_eq_false (by show ¬ (5 : Int) < (k : Int); omega)) ?_
  refine ow_load (P := Tryz.prog) (T := 28) (off := 0) 0 2 W rfl rfl (by kernel_rfl) (by kernel_rfl) ?_
  refine ok_go 2 ?_
  refine sy_no 0 (b := decide (Int.ofNat L.length > 60)) (by kernel_rfl) (decide_eq_false (by show ¬ (60 : Int) < (L.length : Int); omega)) ?_
  refine ow_new 0 W (AObj.cells [Value.nilFunc] 31 false) (fun q => Value.pointer (some { block := q, off := 0 })) (by kernel_rfl) fun c1 nc1 Wc1 => ?_
  have W := Wc1
  refine ow_store (P := Tryz.prog) (T := 31) (off := 0) (v := Value.func (Fn.func 82) { toList := [] } { toList := [Value.pointer (some { block := Hp.next g2, off := 0 }), Value.pointer (some { block := Hp.next g1, off := 0 }), Value.pointer (some { block := Hp.next h, off := 0 }), Value.pointer (some { block := Hp.next g3, off := 0 })] }) 1 0 W rfl (Nat.le_of_ble_eq_true (by kernel_rfl)) (by kernel_rfl) (by first | rfl | assumption) (by kernel_rfl) fun c2 nc2 Wc2 => ?_
  have W := Wc2
  refine ow_load (P := Tryz.prog) (T := 31) (off := 0) 0 0 W rfl rfl (by kernel_rfl) (by kernel_rfl) ?_
  have W : Sto h c2 ((g3.next, .cells [.func (.func 82) #[] #[ptr g2.next 0, ptr g1.next 0, ptr h.next 0, ptr g3.next 0]] 31 false) :: [(g2.next, .cells [.slice none 0 0] 28 false), (g1.next, .cells [J k] 3 false), (h.next, .cells [.slice va L.length vc] 28 false)]) := W
  have W := W.perm (List.perm_append_comm (l₁ := [_]) (l₂ := [_, _, _]))
  obtain ⟨_, c3, e3, s', q', cs', v', rfl, hs', hO', _, ht', W3⟩ := srch_of lf m hlf L hl hlm va vc h hv k g2.next g1.next h.next g3.next hk5 k [] 0 0 [] (.slice none 0 0) c2 (by rw [List.length_nil]; omega) (Nat.zero_le _) (.inl ⟨rfl, rfl, rfl⟩) (Nat.zero_le _) rfl (fun x hx => absurd hx (List.not_mem_nil)) W
  rw [List.drop_zero] at e3 hs'
  refine sy_call 0 (by kernel_rfl) e3 ?_
  have W := W3
  have hsc := osv_sc hO'
  cases hr : srF k L [] with
  | some fl =>
    rw [hr] at hs'
    have hs' : s' = fl := hs'
    subst hs'
    have W' : Sto h c3 ([(g2.next, .cells [v'] 28 false), (g1.next, .cells [J k] 3 false), (h.next, .cells [.slice va L.length vc] 28 false), (g3.next, .cells [.func (.func 82) #[] #[ptr g2.next 0, ptr g1.next 0, ptr h.next 0, ptr g3.next 0]] 31 false)] ++ oent q' 3 cs') := W3
    refine ow_load (P := Tryz.prog) (T := 28) (off := 0) 2 0 W rfl rfl (by kernel_rfl) (by kernel_rfl) ?_
    refine ow_store (P := Tryz.prog) (T := 28) (off := 0) (v := v') 0 0 W rfl (Nat.le_of_ble_eq_true (by kernel_rfl)) (by kernel_rfl) (by first | rfl | assumption) (by kernel_rfl) fun d1 nd1 Wd1 => ?_
    have W := Wd1
    refine ow_load (P := Tryz.prog) (T := 28) (off := 0) 0 0 W rfl rfl (by kernel_rfl) (by kernel_rfl) ?_
    have W' : Sto h d1 ([(g2.next, .cells [v'] 28 false), (g1.next, .cells [J k] 3 false), (h.next, .cells [.slice va L.length vc] 28 false), (g3.next, .cells [.func (.func 82) #[] #[ptr g2.next 0, ptr g1.next 0, ptr h.next 0, ptr g3.next 0]] 31 false)] ++ oent q' 3 cs') := W
    exact sy_done 0 (v := .tuple #[v', .bool true, J 0]) (h := d1) (by kernel_rfl) ⟨W.ext, .inr ⟨s', v', rfl, rfl, osv_rds hO' ht' W', osv_wf hO'⟩⟩
  | none =>
    refine ow_store (P := Tryz.prog) (T := 28) (off := 0) (v := Value.slice none 0 0) 2 0 W rfl (Nat.le_of_ble_eq_true (by kernel_rfl)) (by kernel_rfl) (by first | rfl | assumption) (by kernel_rfl) fun d1 nd1 Wd1 => ?_
    have W := Wd1
    refine ow_load (P := Tryz.prog) (T := 28) (off := 0) 0 0 W rfl rfl (by kernel_rfl) (by kernel_rfl) ?_
    exact sy_done 0 (v := .tuple #[.slice none 0 0, .bool false, J 0]) (h := d1) (by kernel_rfl) ⟨W.ext, .inl ⟨rfl, rfl⟩⟩
end Go.Proofs.YtkfbfgcflnkllaaGreatDoor
namespace Go.Proofs.YtkfbfgcflnkllaaGreatDoor
open Go Go.Eng Nim
set_option maxRecDepth 100000
set_option maxHeartbeats 8000000
theorem less_nat (lf m a b : Nat) (h : Hp) : Ev lf (m + 2) 110 [J a, J b] h = some (.bool (decide (Int.ofNat a < Int.ofNat b)), h) := by
  refine fn_eq ?_
  refine ok_go 1 ?_
  refine sy_no 0 (b := Int.ofNat a != Int.ofNat a) (by kernel_rfl) (bne_self_eq_false _) ?_
  refine ok_go 8 ?_
  exact sy_done 0 (v := .bool (decide (Int.ofNat a < Int.ofNat b))) (h := h) (by kernel_rfl) ⟨rfl, rfl⟩
theorem bs_of (lf m : Nat) (hlf : 2000 ≤ lf) (s : List Nat) (hl : s.length ≤ 1024) (hr : s.Pairwise (· < ·)) (x : Nat) (v : Value) (h : Hp) (hv : Rds h v (s.map J)) : ∃ p : Nat, Ev lf (m + 3) 85 [v, J x] h = some (.tuple #[J p, .bool (decide (x ∈ s))], h) := by
  suffices hk : ∃ w h', Ev lf (m + 3) 85 [v, J x] h = some (w, h') ∧ ∃ p : Nat, w = .tuple #[J p, .bool (decide (x ∈ s))] ∧ h' = h by
    obtain ⟨w, h', e, p, rfl, rfl⟩ := hk
    exact ⟨p, e⟩
  refine fnS_ok (Q := fun w h' => ∃ p : Nat, w = .tuple #[J p, .bool (decide (x ∈ s))] ∧ h' = h) ?_
  obtain ⟨va, vc, hvs⟩ := hv.shape
  rw [List.length_map] at hvs
  subst hvs
  refine ok_go 1 ?_
  refine sy_loop 0 lf h (α := Nat × Nat) (fun y => [(0, .slice va s.length vc), (1, J x), (6, J s.length), (7, J y.1), (8, J y.2)]) (fun y g => (y.1 ≤ y.2 ∧ y.2 ≤ s.length ∧ (∀ j (hj : j < s.length), j < y.1 → s[j] < x) ∧ ∀ j (hj : j < s.length), y.2 ≤ j → x ≤ s[j]) ∧ g = h) (fun y _ => y.2 - y.1) (0, s.length) (by kernel_rfl) (by kernel_rfl)
    ⟨by kernel_rfl, by kernel_rfl, by kernel_rfl, by kernel_rfl, by kernel_rfl, trivial⟩ (show s.length - 0 < lf by omega) ⟨⟨Nat.zero_le _, Nat.le_refl _, fun j hj h1 => absurd h1 (Nat.not_lt_zero _), fun j hj h1 => absurd h1 (by show ¬ s.length ≤ j; omega)⟩, rfl⟩ ?_
  rintro m1 ⟨lo, hi⟩ F1 g ⟨⟨h1, h2, h3, h4⟩, rfl⟩ ih
  dsimp only at h1 h2 h3 h4
  refine ok_go 1 ?_
  refine sy_test 0 (decide (Int.ofNat lo < Int.ofNat hi)) (by kernel_rfl) ?_ ?_
  · intro hlt
    have hlt : lo < hi := ok_nat hlt
    have hmid : IntKind.i64.wrap ((IntKind.u64.wrap (IntKind.i64.wrap (Int.ofNat lo + Int.ofNat hi))).fdiv (2 ^ min (Int.toNat 1) IntKind.u64.bits)) = Int.ofNat ((lo + hi) / 2) := by
      rw [wrap_nat (n := lo + hi) (by omega) |> fun h => (h : IntKind.i64.wrap (Int.ofNat lo + Int.ofNat hi) = Int.ofNat (lo + hi))]
      have h5 : IntKind.u64.wrap (Int.ofNat (lo + hi)) = Int.ofNat (lo + hi) := Int.emod_eq_of_lt (Int.natCast_nonneg _) (show ((lo + hi : Nat) : Int) < 18446744073709551616 by omega)
      have h6 : (Int.ofNat (lo + hi)).fdiv (2 ^ min (Int.toNat 1) IntKind.u64.bits) = Int.ofNat ((lo + hi) / 2) := shr_nat (lo + hi) 1
      rw [h5, h6]
      exact wrap_nat (n := (lo + hi) / 2) (by omega)
    have hm1 : lo ≤ (lo + hi) / 2 := by omega
    have hm2 : (lo + hi) / 2 < hi := by omega
    obtain ⟨p, hp1, hp2⟩ := rdN hv (k := (lo + hi) / 2) (by omega)
    rw [show J ((lo + hi) / 2) = I (IntKind.i64.wrap ((IntKind.u64.wrap (IntKind.i64.wrap (Int.ofNat lo + Int.ofNat hi))).fdiv (2 ^ min (Int.toNat 1) IntKind.u64.bits))) by rw [hmid]] at hp1
    refine ok_go 4 ?_
    refine sy_load 0 (r := indexAddrOp Tryz.prog 28 (.slice va s.length vc) (I (IntKind.i64.wrap ((IntKind.u64.wrap (IntKind.i64.wrap (Int.ofNat lo + Int.ofNat hi))).fdiv (2 ^ min (Int.toNat 1) IntKind.u64.bits))))) (h' := g) (by kernel_rfl) hp1 ?_
    refine ok_go 0 ?_
    refine sy_load 0 (r := loadT Tryz.prog g 3 p) (h' := g) (by kernel_rfl) hp2 ?_
    have e1 := less_nat lf m s[(lo + hi) / 2] x g
    generalize hsm : s[(lo + hi) / 2]'(by omega) = sm at *
    refine ok_go 0 ?_
    refine sy_call 0 (by kernel_rfl) e1 ?_
    refine ok_go 0 ?_
    by_cases hc : sm < x
    · refine sy_yes 0 (b := decide (Int.ofNat sm < Int.ofNat x)) (by kernel_rfl) (decide_eq_true (by show (sm : Int) < (x : Int); omega)) ?_
      refine ok_go 1 ?_
      have hw : IntKind.i64.wrap (IntKind.i64.wrap ((IntKind.u64.wrap (IntKind.i64.wrap (Int.ofNat lo + Int.ofNat hi))).fdiv (2 ^ min (Int.toNat 1) IntKind.u64.bits)) + 1) = Int.ofNat ((lo + hi) / 2 + 1) := by rw [hmid]; exact wrap_nat (n := (lo + hi) / 2 + 1) (by omega)
      exact sy_next 0 _ g (by kernel_rfl) (by kernel_rfl) (ih ((lo + hi) / 2 + 1, hi) _ g ⟨⟨by show (lo + hi) / 2 + 1 ≤ hi; omega, h2, fun j hj h5 => by
        rcases Nat.eq_or_lt_of_le (show j ≤ (lo + hi) / 2 by omega) with h6 | h6
        · subst h6; rw [hsm]; exact hc
        · have := List.pairwise_iff_getElem.1 hr j ((lo + hi) / 2) hj (by omega) h6; rw [hsm] at this; omega, h4⟩, rfl⟩ (show hi - ((lo + hi) / 2 + 1) < hi - lo by omega) ⟨by kernel_rfl, by kernel_rfl, by kernel_rfl, (by kernel_rfl : _ = I (IntKind.i64.wrap (IntKind.i64.wrap ((IntKind.u64.wrap (IntKind.i64.wrap (Int.ofNat lo + Int.ofNat hi))).fdiv (2 ^ min (Int.toNat 1) IntKind.u64.bits)) + 1))).trans (by rw [hw]), by kernel_rfl, trivial⟩)
    · refine sy_no 0 (b := decide (Int.ofNat sm < Int.ofNat x)) (by kernel_rfl) (decide_eq_false (by show ¬ (sm : Int) < (x : Int); omega)) ?_
      refine ok_go 0 ?_
      exact sy_next 0 _ g (by kernel_rfl) (by kernel_rfl) (ih (lo, (lo + hi) / 2) _ g ⟨⟨hm1, by show (lo + hi) / 2 ≤ s.length; omega, h3, fun j hj h5 => by
        rcases Nat.eq_or_lt_of_le h5 with h6 | h6
        · have h6 : (lo + hi) / 2 = j := h6
          subst h6; rw [hsm]; omega
        · have h6 : (lo + hi) / 2 < j := h6
          have := List.pairwise_iff_getElem.1 hr ((lo + hi) / 2) j (by omega) hj h6; rw [hsm] at this; omega⟩, rfl⟩ (show (lo + hi) / 2 - lo < hi - lo by omega) ⟨by kernel_rfl, by kernel_rfl, by kernel_rfl, by kernel_rfl, (by kernel_rfl : _ = I (IntKind.i64.wrap ((IntKind.u64.wrap (IntKind.i64.wrap (Int.ofNat lo + Int.ofNat hi))).fdiv (2 ^ min (Int.toNat 1) IntKind.u64.bits)))).trans (by rw [hmid]), trivial⟩)
  · intro hlt
    have hlt : lo = hi := Nat.le_antisymm h1 (no_nat hlt)
    subst hlt
    refine ok_go 1 ?_
    by_cases hn : lo < s.length
    · refine sy_yes 0 (b := decide (Int.ofNat lo < Int.ofNat s.length)) (by kernel_rfl) (decide_eq_true (by show (lo : Int) < (s.length : Int); omega)) ?_
      obtain ⟨p, hp1, hp2⟩ := rdN hv hn
      have hsx := h4 lo hn (Nat.le_refl _)
      have hmem : x ∈ s ↔ s[lo] = x := by
        constructor
        · intro hx
          obtain ⟨j, hj, hje⟩ := List.getElem_of_mem hx
          rcases Nat.lt_trichotomy j lo with h5 | h5 | h5
          · have := h3 j hj h5; omega
          · subst h5; exact hje
          · have := List.pairwise_iff_getElem.1 hr lo j hn hj h5; omega
        · intro hx; rw [← hx]; exact List.getElem_mem hn
      generalize s[lo] = sm at *
      refine ok_go 2 ?_
      refine sy_load 0 (r := indexAddrOp Tryz.prog 28 (.slice va s.length vc) (J lo)) (h' := g) (by kernel_rfl) hp1 ?_
      refine ok_go 1 ?_
      refine sy_load 0 (r := loadT Tryz.prog g 3 p) (h' := g) (by kernel_rfl) hp2 ?_
      refine ok_go 4 ?_
      by_cases hc : sm = x
      · refine sy_yes 0 (b := Int.ofNat sm == Int.ofNat x) (by kernel_rfl) (by rw [hc, beq_self_eq_true]) ?_
        refine ok_go 9 ?_
        exact sy_done 0 (v := .tuple #[J lo, .bool true]) (h := g) (by kernel_rfl) ⟨lo, by rw [decide_eq_true (hmem.2 hc)], rfl⟩
      · refine sy_no 0 (b := Int.ofNat sm == Int.ofNat x) (by kernel_rfl) (beq_eq_false_iff_ne.2 fun h => hc (Int.ofNat.inj h)) ?_
        refine ok_go 2 ?_
        refine sy_load 0 (r := indexAddrOp Tryz.prog 28 (.slice va s.length vc) (J lo)) (h' := g) (by kernel_rfl) hp1 ?_
        refine ok_go 1 ?_
        refine sy_load 0 (r := loadT Tryz.prog g 3 p) (h' := g) (by kernel_rfl) hp2 ?_
        refine ok_go 3 ?_
        refine sy_no 0 (b := Int.ofNat sm != Int.ofNat sm) (by kernel_rfl) (bne_self_eq_false _) ?_
        refine ok_go 6 ?_
        exact sy_done 0 (v := .tuple #[J lo, .bool false]) (h := g) (by kernel_rfl) ⟨lo, by rw [decide_eq_false fun h => hc (hmem.1 h)], rfl⟩
    · refine sy_no 0 (b := decide (Int.ofNat lo < Int.ofNat s.length)) (by kernel_rfl) (decide_eq_false (by show ¬ (lo : Int) < (s.length : Int); omega)) ?_
      have hmem : ¬ x ∈ s := fun hx => by
        obtain ⟨j, hj, hje⟩ := List.getElem_of_mem hx
        have := h3 j hj (by omega); omega
      refine ok_go 8 ?_
      exact sy_done 0 (v := .tuple #[J lo, .bool false]) (h := g) (by kernel_rfl) ⟨lo, by rw [decide_eq_false hmem], rfl⟩
end Go.Proofs.YtkfbfgcflnkllaaGreatDoor
namespace Go.Proofs.YtkfbfgcflnkllaaGreatDoor
open Go Go.Eng Nim
set_option maxRecDepth 100000
set_option maxHeartbeats 8000000
theorem takeN_drop : ∀ {n : Nat} {l r : List Value}, takeN n l = some r → ∀ k, k ≤ n → takeN (n - k) (l.drop k) = some (r.drop k)
  | _, _, _, h, 0, _ => by simpa using h
  | 0, _, _, _, k + 1, hk => absurd hk (by omega)
  | n + 1, [], _, h, k + 1, _ => by simp [takeN] at h
  | n + 1, v :: l, r, h, k + 1, hk => by
    unfold takeN at h
    split at h
    · rename_i l' hl'
      cases h
      rw [show n + 1 - (k + 1) = n - k by omega]
      exact takeN_drop hl' k (by omega)
    · cases h
theorem slice_lo {i off len cap K : Nat} (h1 : K ≤ len) (h : K < cap / 2) : ∃ c, sliceOp Tryz.prog 28 (.slice (some ⟨i, off, none⟩) len cap) (some (J K)) none none = some (.slice (some ⟨i, off + K, none⟩) (len - K) c) := by
  have hs : sizeT Tryz.prog 3 = some 1 := by kernel_rfl
  simp only [sliceOp, u28, hs, sliceV, Go.Eng.bound, Option.isSome_none, show natOf (J K) = some K from rfl, Nat.ble_eq_true_of_le h1, Nat.ble_eq_true_of_le (Nat.le_of_lt h)]
  have hb : Nat.beq (cap / 2) K = false := by
    cases hb : Nat.beq (cap / 2) K with
    | true => have := Nat.eq_of_beq_eq_true hb; omega
    | false => rfl
  rw [hb]
  cases hc : Nat.beq (cap % 2) 1
  · exact ⟨_, by simp; rfl⟩
  · exact ⟨_, by simp; rfl⟩
theorem cut_lo {h : Hp} {x : Value} {vs : List Value} (hw : WfS x) (hx : Rds h x vs) {K : Nat} (hK : K < vs.length) : ∃ y, sliceOp Tryz.prog 28 x (some (J K)) none none = some y ∧ Rds h y (vs.drop K) := by
  rcases hx with ⟨⟨a, rfl⟩, rfl⟩ | ⟨i, off, c, rfl, hr⟩
  · exact absurd hK (Nat.not_lt_zero _)
  · have hc : vs.length ≤ c / 2 := by
      rcases hw with ⟨_, h⟩ | ⟨h, h2⟩
      · exact h
      · omega
    obtain ⟨c', e⟩ := slice_lo (i := i) (off := off) (len := vs.length) (cap := c) (K := K) (Nat.le_of_lt hK) (by omega)
    refine ⟨_, e, .inr ⟨i, off + K, c', by rw [List.length_drop], fun hne => ?_⟩⟩
    have hv : vs ≠ [] := fun h0 => by subst h0; simp at hne
    obtain ⟨h1, h2⟩ := hr hv
    refine ⟨h1, ?_⟩
    rw [List.length_drop]
    unfold loadN at h2 ⊢
    cases hg : h.get i with
    | none => rw [hg] at h2; cases h2
    | some o =>
      rw [hg] at h2
      cases o with
      | cells cs e opn =>
        show takeN (vs.length - K) (List.drop (off + K) cs) = some (List.drop K vs)
        rw [← List.drop_drop]
        exact takeN_drop h2 K (Nat.le_of_lt hK)
      | ro o cs e =>
        have h2 : (match o.ble off with | true => takeN vs.length (List.drop (off - o) cs) | false => none) = some vs := h2
        show (match o.ble (off + K) with | true => takeN (vs.length - K) (List.drop (off + K - o) cs) | false => none) = some (List.drop K vs)
        cases hb : o.ble off with
        | false => rw [hb] at h2; cases h2
        | true =>
          rw [hb] at h2
          have hle := Nat.le_of_ble_eq_true hb
          rw [Nat.ble_eq_true_of_le (show o ≤ off + K by omega), show off + K - o = off - o + K by omega, ← List.drop_drop]
          exact takeN_drop h2 K (Nat.le_of_lt hK)
      | fro cs e =>
        show takeN (vs.length - K) (List.drop (off + K) cs) = some (List.drop K vs)
        rw [← List.drop_drop]
        exact takeN_drop h2 K (Nat.le_of_lt hK)
      | _ => cases h2
theorem rds_some {h : Hp} {va : Option Addr} {n vc : Nat} {l : List Value} (hv : Rds h (.slice va n vc) l) (hl : l ≠ []) : ∃ ra, va = some ra := by
  rcases hv with ⟨⟨a, _⟩, h2⟩ | ⟨q, off, c, h2, _⟩
  · exact absurd h2 hl
  · injection h2 with h3
    exact ⟨_, h3⟩
theorem isfl_ok (lf m : Nat) (hlf : 2000 ≤ lf) (n : Nat) (hn : n ≤ 10) (f : Nat → Bool) (v : Value) (s : List Nat) (hl : s.length ≤ 1024) (hne : s ≠ []) (hb : ∀ x ∈ s, x < 1024) (y : Value) (h : Hp) (hv : Rds h v ((lst f (2 ^ n)).map J)) (hwf : WfS y) (hy : Rds h y (s.map J)) (hck : Ev lf (m + 3) 57 [J n, y] h = some (J 0, h)) :
    Ev lf (m + 4) 47 [J n, v, y] h = some (.bool (decide (∀ x ∈ s, x ∈ lst f (2 ^ n)) && isF s), h) := by
  refine fn_eq ?_
  have h2n : 2 ^ n ≤ 1024 := Nat.pow_le_pow_right (by decide) hn
  have hll := lst_len f (2 ^ n)
  have e1 := chk_lst lf (m + 2) hlf n hn f v h hv
  have hbs := fun x => bs_of lf m hlf (lst f (2 ^ n)) (by omega) (lst_rise f (2 ^ n)) x v h hv
  have e3 := isflower_of lf (m + 2) hlf s hl (fun x hx => by have := hb x hx; omega) y h hwf hy
  obtain ⟨ya, yc, hys⟩ := hy.shape
  rw [List.length_map] at hys
  subst hys
  obtain ⟨va, vc, hvs⟩ := hv.shape
  rw [List.length_map] at hvs
  subst hvs
  have hpos : 0 < s.length := List.length_pos_iff.2 hne
  generalize lst f (2 ^ n) = L at *
  refine ok_go 0 ?_
  refine sy_call 0 (by kernel_rfl) e1 ?_
  refine ok_go 7 ?_
  refine sy_no 0 (b := Int.ofNat s.length == 0) (by kernel_rfl) (beq_eq_false_iff_ne.2 fun h => by have h : Int.ofNat s.length = Int.ofNat 0 := h; have := Int.ofNat.inj h; omega) ?_
  refine ok_go 2 ?_
  refine sy_call 0 (by kernel_rfl) hck ?_
  refine ok_go 5 ?_
  refine sy_loop 0 lf h (α := Nat) (fun i => [(1, .slice va L.length vc), (2, .slice ya s.length yc), (26, .slice ya s.length yc), (27, J s.length), (28, J i)]) (fun i g => (i ≤ s.length ∧ ∀ j (hj : j < s.length), j < i → s[j] ∈ L) ∧ g = h) (fun i _ => s.length - i) 0 (by kernel_rfl) (by kernel_rfl)
    ⟨by kernel_rfl, by kernel_rfl, by kernel_rfl, by kernel_rfl, by kernel_rfl, trivial⟩ (show s.length - 0 < lf by omega) ⟨⟨Nat.zero_le _, fun j _ h => absurd h (Nat.not_lt_zero _)⟩, rfl⟩ ?_
  rintro m1 i F1 g ⟨⟨hi, hall⟩, rfl⟩ ih
  have hw : IntKind.wrap .i64 (Int.ofNat (i + 1)) = Int.ofNat (i + 1) := wrap_nat (by omega)
  refine ok_go 1 ?_
  refine sy_test 0 (decide (Int.ofNat i < Int.ofNat s.length)) (by kernel_rfl) ?_ ?_
  · intro hlt
    have hlt : i < s.length := ok_nat hlt
    obtain ⟨p, hp1, hp2⟩ := rdN hy hlt
    obtain ⟨b, eb⟩ := hbs s[i]
    have hxm : s[i] ∈ s := List.getElem_mem hlt
    have hnx : s[i] ∈ L → ∀ j (hj : j < s.length), j < i + 1 → s[j] ∈ L := fun h1 j hj h2 => by
      rcases Nat.eq_or_lt_of_le (Nat.le_of_lt_succ h2) with h3 | h3
      · subst h3; exact h1
      · exact hall j hj h3
    generalize s[i] = x at *
    refine ok_go 0 ?_
    refine sy_load 0 (r := indexAddrOp Tryz.prog 28 (.slice ya s.length yc) (J i)) (h' := g) (by kernel_rfl) hp1 ?_
    refine ok_go 0 ?_
    refine sy_load 0 (r := loadT Tryz.prog g 3 p) (h' := g) (by kernel_rfl) hp2 ?_
    refine ok_go 0 ?_
    refine sy_call 0 (by kernel_rfl) eb ?_
    refine ok_go 3 ?_
    by_cases hx : x ∈ L
    · refine sy_no 0 (b := !decide (x ∈ L)) (by kernel_rfl) (by rw [decide_eq_true hx]; rfl) ?_
      refine ok_go 1 ?_
      exact sy_next 0 _ g (by kernel_rfl) (by kernel_rfl) (ih (i + 1) _ g ⟨⟨hlt, hnx hx⟩, rfl⟩ (show s.length - (i + 1) < s.length - i by omega) ⟨by kernel_rfl, by kernel_rfl, by kernel_rfl, by kernel_rfl, (by kernel_rfl : _ = I (IntKind.wrap .i64 (Int.ofNat (i + 1)))).trans (by rw [hw]), trivial⟩)
    · refine sy_yes 0 (b := !decide (x ∈ L)) (by kernel_rfl) (by rw [decide_eq_false hx]; rfl) ?_
      refine ok_go 0 ?_
      exact sy_done 0 (v := .bool false) (h := g) (by kernel_rfl) ⟨by rw [decide_eq_false fun h => hx (h x hxm)]; rfl, rfl⟩
  · intro hlt
    have hlt : i = s.length := Nat.le_antisymm hi (no_nat hlt)
    subst hlt
    have hal : ∀ x ∈ s, x ∈ L := fun x hx => by
      obtain ⟨j, hj, rfl⟩ := List.getElem_of_mem hx
      exact hall j hj hj
    refine ok_go 0 ?_
    refine sy_call 0 (by kernel_rfl) e3 ?_
    refine ok_go 0 ?_
    exact sy_done 0 (v := .bool (isF s)) (h := g) (by kernel_rfl) ⟨by rw [decide_eq_true hal, Bool.true_and], rfl⟩
end Go.Proofs.YtkfbfgcflnkllaaGreatDoor
namespace Go.Proofs.YtkfbfgcflnkllaaGreatDoor
open Go Go.Eng Nim
set_option maxRecDepth 100000
set_option maxHeartbeats 8000000
/-- The first set that has nothing of x. -/
def crI (x : Nat) : List Nat → Option Nat
  | [] => none
  | t :: r => if x &&& t = 0 then some t else crI x r
def crF : List Nat → Option (Nat × Nat)
  | [] => none
  | x :: r => match crI x (x :: r) with
    | some t => some (x, t)
    | none => crF r
def crV (o : Option (Nat × Nat)) : List Value := match o with
  | some p => [J p.1, J p.2, .bool false]
  | none => [J 0, J 0, .bool true]
theorem crI_none {x : Nat} : ∀ {l : List Nat}, crI x l = none → ∀ t ∈ l, x &&& t ≠ 0
  | [], _, t, ht => absurd ht (List.not_mem_nil)
  | y :: r, h, t, ht => by
    unfold crI at h
    split at h
    · cases h
    · rename_i h1
      rcases List.mem_cons.1 ht with rfl | h2
      · exact h1
      · exact crI_none h t h2
theorem crF_none : ∀ {l : List Nat}, crF l = none → ∀ x ∈ l, ∀ y ∈ l, x &&& y ≠ 0
  | [], _, x, hx, _, _ => absurd hx (List.not_mem_nil)
  | z :: r, h, x, hx, y, hy => by
    unfold crF at h
    split at h
    · cases h
    · rename_i h1
      have h2 := crI_none h1
      rcases List.mem_cons.1 hx with rfl | hx2
      · exact h2 y hy
      · rcases List.mem_cons.1 hy with rfl | hy2
        · rw [Nat.and_comm]; exact h2 x hx
        · exact crF_none h x hx2 y hy2
theorem cross_of (lf m : Nat) (hlf : 2000 ≤ lf) (s : List Nat) (hl : s.length ≤ 1024) (hb : ∀ x ∈ s, x < 2 ^ 62) (v : Value) (h : Hp) (hwf : WfS v) (hv : Rds h v (s.map J)) : Ev lf (m + 1) 89 [v] h = some (.tuple (crV (crF s)).toArray, h) := by
  refine fn_eq ?_
  obtain ⟨va, vc, hvs⟩ := hv.shape
  rw [List.length_map] at hvs
  subst hvs
  generalize hres : crF s = res
  refine ok_go 1 ?_
  refine sy_loop 0 lf h (α := Nat) (fun i => [(0, .slice va s.length vc), (9, .slice va s.length vc), (10, J s.length), (11, J i)]) (fun i g => (i ≤ s.length ∧ crF (s.drop i) = res) ∧ g = h) (fun i _ => s.length - i) 0 (by kernel_rfl) (by kernel_rfl)
    ⟨by kernel_rfl, by kernel_rfl, by kernel_rfl, by kernel_rfl, trivial⟩ (show s.length - 0 < lf by omega) ⟨⟨Nat.zero_le _, hres⟩, rfl⟩ ?_
  clear hres
  rintro m1 i F1 g ⟨⟨hi, hres⟩, rfl⟩ ih
  have hw : IntKind.wrap .i64 (Int.ofNat (i + 1)) = Int.ofNat (i + 1) := wrap_nat (by omega)
  refine ok_go 1 ?_
  refine sy_test 0 (decide (Int.ofNat i < Int.ofNat s.length)) (by kernel_rfl) ?_ ?_
  · intro hlt
    have hlt : i < s.length := ok_nat hlt
    obtain ⟨p, hp1, hp2⟩ := rdN hv hlt
    obtain ⟨ra, rfl⟩ := rds_some hv (by intro h; rw [List.map_eq_nil_iff] at h; subst h; simp at hlt)
    obtain ⟨y, hy1, hy2⟩ := cut_lo hwf hv (K := i) (by rw [List.length_map]; omega)
    rw [← List.map_drop] at hy2
    obtain ⟨ya, yc, hys⟩ := hy2.shape
    rw [List.length_map] at hys
    subst hys
    have hdr : s.drop i = s[i] :: s.drop (i + 1) := List.drop_eq_getElem_cons hlt
    have hxb := hb _ (List.getElem_mem hlt)
    have hdl : (s.drop i).length ≤ 1024 := by rw [List.length_drop]; omega
    have hdb : ∀ t ∈ s.drop i, t < 2 ^ 62 := fun t ht => hb t (List.drop_subset _ _ ht)
    have hres2 : (match crI s[i] (s.drop i) with | some t => some (s[i], t) | none => crF (s.drop (i + 1))) = res := by
      rw [← hres]
      conv => rhs; rw [hdr]
      rw [hdr]; rfl
    clear hdr hres
    generalize hq : crI s[i] (s.drop i) = qq at *
    generalize s[i] = x at *
    generalize s.drop i = D at *
    refine ok_go 0 ?_
    refine sy_load 0 (r := indexAddrOp Tryz.prog 28 (.slice (some ra) s.length vc) (J i)) (h' := g) (by kernel_rfl) hp1 ?_
    refine ok_go 0 ?_
    refine sy_load 0 (r := loadT Tryz.prog g 3 p) (h' := g) (by kernel_rfl) hp2 ?_
    refine ok_go 0 ?_
    refine sy_load 0 (r := sliceOp Tryz.prog 28 (.slice (some ra) s.length vc) (some (J i)) none none) (h' := g) (by kernel_rfl) hy1 ?_
    refine ok_go 1 ?_
    refine sy_loop 0 lf g (α := Nat) (fun j => [(0, .slice (some ra) s.length vc), (6, J x), (9, .slice (some ra) s.length vc), (10, J s.length), (11, J i), (18, .slice ya D.length yc), (19, J D.length), (20, J j)]) (fun j g' => (j ≤ D.length ∧ crI x (D.drop j) = qq) ∧ g' = g) (fun j _ => D.length - j) 0 (by kernel_rfl) (by kernel_rfl)
      ⟨by kernel_rfl, by kernel_rfl, by kernel_rfl, by kernel_rfl, by kernel_rfl, by kernel_rfl, by kernel_rfl, by kernel_rfl, trivial⟩ (show D.length - 0 < lf by omega) ⟨⟨Nat.zero_le _, hq⟩, rfl⟩ ?_
    clear hq
    rintro m2 j F2 g ⟨⟨hj, hq⟩, rfl⟩ ih2
    have hwj : IntKind.wrap .i64 (Int.ofNat (j + 1)) = Int.ofNat (j + 1) := wrap_nat (by omega)
    refine ok_go 1 ?_
    refine sy_test 0 (decide (Int.ofNat j < Int.ofNat D.length)) (by kernel_rfl) ?_ ?_
    · intro hlj
      have hlj : j < D.length := ok_nat hlj
      obtain ⟨p2, h21, h22⟩ := rdN hy2 hlj
      have hdj : D.drop j = D[j] :: D.drop (j + 1) := List.drop_eq_getElem_cons hlj
      have hqq : (if x &&& D[j] = 0 then some D[j] else crI x (D.drop (j + 1))) = qq := by rw [← hq, hdj]; rfl
      clear hdj
      generalize D[j] = t at *
      have hand : andI (Int.ofNat x) (Int.ofNat t) = Int.ofNat (x &&& t) := and_nat (by omega)
      refine ok_go 0 ?_
      refine sy_load 0 (r := indexAddrOp Tryz.prog 28 (.slice ya D.length yc) (J j)) (h' := g) (by kernel_rfl) h21 ?_
      refine ok_go 0 ?_
      refine sy_load 0 (r := loadT Tryz.prog g 3 p2) (h' := g) (by kernel_rfl) h22 ?_
      refine ok_go 2 ?_
      by_cases hz : x &&& t = 0
      · rw [if_pos hz] at hqq
        refine sy_yes 0 (b := andI (Int.ofNat x) (Int.ofNat t) == 0) (by kernel_rfl) (by rw [hand, hz]; rfl) ?_
        rw [← hqq] at hres2
        refine ok_go 0 ?_
        exact sy_done 0 (v := .tuple #[J x, J t, .bool false]) (h := g) (by kernel_rfl) ⟨by rw [← hres2]; rfl, rfl⟩
      · rw [if_neg hz] at hqq
        refine sy_no 0 (b := andI (Int.ofNat x) (Int.ofNat t) == 0) (by kernel_rfl) (by rw [hand]; exact beq_eq_false_iff_ne.2 fun h => hz (Int.ofNat.inj (h : Int.ofNat (x &&& t) = Int.ofNat 0))) ?_
        refine ok_go 1 ?_
        exact sy_next 0 _ g (by kernel_rfl) (by kernel_rfl) (ih2 (j + 1) _ g ⟨⟨hlj, hqq⟩, rfl⟩ (show D.length - (j + 1) < D.length - j by omega) ⟨by kernel_rfl, by kernel_rfl, by kernel_rfl, by kernel_rfl, by kernel_rfl, by kernel_rfl, by kernel_rfl, (by kernel_rfl : _ = I (IntKind.wrap .i64 (Int.ofNat (j + 1)))).trans (by rw [hwj]), trivial⟩)
    · intro hlj
      have hlj : j = D.length := Nat.le_antisymm hj (no_nat hlj)
      subst hlj
      rw [List.drop_length] at hq
      have hq : none = qq := hq
      rw [← hq] at hres2
      refine ok_go 1 ?_
      exact sy_next 0 _ g (by kernel_rfl) (by kernel_rfl) (ih (i + 1) _ g ⟨⟨hlt, hres2⟩, rfl⟩ (show s.length - (i + 1) < s.length - i by omega) ⟨by kernel_rfl, by kernel_rfl, by kernel_rfl, (by kernel_rfl : _ = I (IntKind.wrap .i64 (Int.ofNat (i + 1)))).trans (by rw [hw]), trivial⟩)
  · intro hlt
    have hlt : i = s.length := Nat.le_antisymm hi (no_nat hlt)
    subst hlt
    rw [List.drop_length] at hres
    have hres : none = res := hres
    refine ok_go 0 ?_
    exact sy_done 0 (v := .tuple #[J 0, J 0, .bool true]) (h := g) (by kernel_rfl) ⟨by rw [← hres]; rfl, rfl⟩
theorem crossing_of (lf m : Nat) (hlf : 2000 ≤ lf) (n : Nat) (hn : n ≤ 10) (f : Nat → Bool) (v : Value) (h : Hp) (hwf : WfS v) (hv : Rds h v ((lst f (2 ^ n)).map J)) : Ev lf (m + 2) 51 [J n, v] h = some (.tuple (crV (crF (lst f (2 ^ n))) ++ [J 0]).toArray, h) := by
  refine fn_eq ?_
  have h2n : 2 ^ n ≤ 1024 := Nat.pow_le_pow_right (by decide) hn
  have hll := lst_len f (2 ^ n)
  have e1 := chk_lst lf m hlf n hn f v h hv
  have e2 := cross_of lf m hlf (lst f (2 ^ n)) (by omega) (fun x hx => by have := (lst_mem.1 hx).1; omega) v h hwf hv
  generalize lst f (2 ^ n) = L at *
  obtain ⟨va, vc, hvs⟩ := hv.shape
  subst hvs
  refine ok_go 0 ?_
  refine sy_call 0 (by kernel_rfl) e1 ?_
  refine ok_go 2 ?_
  refine sy_call 0 (by kernel_rfl) e2 ?_
  cases crF L with
  | some p =>
    refine ok_go 3 ?_
    exact sy_done 0 (v := .tuple #[J p.1, J p.2, .bool false, J 0]) (h := h) (by kernel_rfl) ⟨rfl, rfl⟩
  | none =>
    refine ok_go 3 ?_
    exact sy_done 0 (v := .tuple #[J 0, J 0, .bool true, J 0]) (h := h) (by kernel_rfl) ⟨rfl, rfl⟩
end Go.Proofs.YtkfbfgcflnkllaaGreatDoor
namespace Go.Proofs.YtkfbfgcflnkllaaGreatDoor
open Go Go.Eng Nim
set_option maxRecDepth 100000
set_option maxHeartbeats 8000000
theorem nodup_le : ∀ {l1 l2 : List Nat}, l1.Nodup → (∀ x ∈ l1, x ∈ l2) → l1.length ≤ l2.length
  | [], _, _, _ => Nat.zero_le _
  | a :: r, l2, h, hs => by
    rw [List.nodup_cons] at h
    have ha := hs a (List.mem_cons_self ..)
    have := nodup_le (l2 := l2.erase a) h.2 fun x hx => (List.mem_erase_of_ne (by intro e; subst e; exact h.1 hx)).2 (hs x (List.mem_cons_of_mem _ hx))
    rw [List.length_erase_of_mem ha] at this
    have hp : 0 < l2.length := List.length_pos_of_mem ha
    rw [List.length_cons]; omega
theorem core_isF {s : List Nat} {c : Nat} (hn : s.Nodup) (hc : Core s c) : isF s = true := by
  unfold isF flR
  rw [List.all_eq_true]
  intro i hi
  have hi := List.mem_range.1 hi
  unfold flP
  rw [List.all_eq_true]
  intro k hk
  have hk := List.mem_range.1 hk
  have hgd : ∀ {k : Nat} (hk : k < s.length), s.getD k 0 = s[k] := fun hk => by
    rw [List.getD_eq_getElem?_getD, List.getElem?_eq_getElem hk]; rfl
  have hne : ∀ {a b : Nat} (ha : a < s.length) (hb : b < s.length), a ≠ b → s[a] ≠ s[b] := fun ha hb hab e => by
    rcases Nat.lt_or_gt_of_ne hab with h | h
    · exact List.pairwise_iff_getElem.1 hn _ _ ha hb h e
    · exact List.pairwise_iff_getElem.1 hn _ _ hb ha h e.symm
  have h1 : s.getD i 0 &&& s.getD k 0 = c := by
    rw [hgd hi, hgd (show k < s.length by omega)]
    exact hc _ (List.getElem_mem _) _ (List.getElem_mem _) (hne _ _ (by omega))
  have h2 : s.getD 0 0 &&& s.getD 1 0 = c := by
    rw [hgd (show 0 < s.length by omega), hgd (show 1 < s.length by omega)]
    exact hc _ (List.getElem_mem _) _ (List.getElem_mem _) (hne _ _ (by omega))
  rw [h1, h2]
  exact Nat.beq_refl c
theorem srF_none {k c : Nat} : ∀ {r s : List Nat}, srF k r s = none → ∀ t, t.Sublist r → (s ++ t).length = k → (s ++ t).Nodup → Core (s ++ t) c → False
  | [], s, h, t, ht, hl, _, _ => by
    have : t = [] := List.sublist_nil.1 ht
    subst this
    rw [List.append_nil] at hl
    unfold srF at h
    rw [if_pos hl] at h; cases h
  | x :: r, s, h, t, ht, hl, hn, hc => by
    by_cases hs : s.length = k
    · rw [srF_full hs] at h; cases h
    · rw [srF_cons hs] at h
      have hrest : (match srF k r (s ++ [x]) with | some f => some f | none => srF k r s) = none → srF k r (s ++ [x]) = none ∧ srF k r s = none := fun h => by
        cases h1 : srF k r (s ++ [x]) with
        | some f => rw [h1] at h; cases h
        | none => rw [h1] at h; exact ⟨rfl, h⟩
      rcases List.sublist_cons_iff.1 ht with h1 | ⟨t', rfl, h1⟩
      · have h2 : srF k r s = none := by
          split at h
          · exact (hrest h).2
          · exact h
        exact srF_none h2 t h1 hl hn hc
      · have he : s ++ x :: t' = (s ++ [x]) ++ t' := by simp
        rw [he] at hl hn hc
        have hF : isF (s ++ [x]) = true := core_isF (c := c) (hn.sublist (List.sublist_append_left _ _)) fun a ha b hb => hc a (List.mem_append_left _ ha) b (List.mem_append_left _ hb)
        rw [if_pos hF] at h
        exact srF_none (hrest h).1 t' h1 hl hn hc
theorem srF_some {k : Nat} : ∀ {r s f : List Nat}, srF k r s = some f → isF s = true → f.length = k ∧ isF f = true ∧ ∃ t, t.Sublist r ∧ f = s ++ t
  | [], s, f, h, hF => by
    unfold srF at h
    split at h
    · cases h; exact ⟨by assumption, hF, [], List.Sublist.slnil, by simp⟩
    · cases h
  | x :: r, s, f, h, hF => by
    by_cases hs : s.length = k
    · rw [srF_full hs] at h; cases h
      exact ⟨hs, hF, [], List.nil_sublist _, by simp⟩
    · rw [srF_cons hs] at h
      have hskip : srF k r s = some f → f.length = k ∧ isF f = true ∧ ∃ t, t.Sublist (x :: r) ∧ f = s ++ t := fun h => by
        obtain ⟨h1, h2, t, h3, h4⟩ := srF_some h hF
        exact ⟨h1, h2, t, h3.cons x, h4⟩
      split at h
      · rename_i hF2
        cases h1 : srF k r (s ++ [x]) with
        | some f' =>
          rw [h1] at h
          cases h
          obtain ⟨h2, h3, t, h4, h5⟩ := srF_some h1 hF2
          exact ⟨h2, h3, x :: t, h4.cons_cons x, by rw [h5]; simp⟩
        | none => rw [h1] at h; exact hskip h
      · exact hskip h
/-- Many sets of few elements: the search does not fail. -/
theorem erdos {k s : Nat} (hk : 2 ≤ k) {L : List Nat} (hL : L.Nodup) (hb : ∀ x ∈ L, x < 256 ∧ bc x ≤ s) (hl : bnd k s < L.length) : srF k L [] ≠ none := fun h => by
  obtain ⟨S, c, hS1, hS2, hS3, hS4⟩ := flower_ex k hk s L hL hb hl
  have hsub : ((L.filter fun x => decide (x ∈ S)).take k).Sublist L := (List.take_sublist ..).trans List.filter_sublist
  have hlen : k ≤ (L.filter fun x => decide (x ∈ S)).length := by
    rw [← hS2]
    exact nodup_le hS1 fun x hx => List.mem_filter.2 ⟨hS3 x hx, decide_eq_true hx⟩
  have hmem : ∀ x ∈ (L.filter fun x => decide (x ∈ S)).take k, x ∈ S := fun x hx => of_decide_eq_true (List.mem_filter.1 (List.mem_of_mem_take hx)).2
  exact srF_none (c := c) h _ hsub (by rw [List.nil_append, List.length_take]; omega) (by rw [List.nil_append]; exact hL.sublist hsub) (by
    rw [List.nil_append]
    exact fun a ha b hb => hS4 a (hmem a ha) b (hmem b hb))
/-- Crossing families. -/
theorem cross_half {n : Nat} (hn : 1 ≤ n) {L : List Nat} (hr : L.Pairwise (· < ·)) (hb : ∀ x ∈ L, x < 2 ^ n) (hc : crF L = none) : L.length ≤ 2 ^ (n - 1) := by
  have hx := crF_none hc
  have h2 : 2 ^ n = 2 ^ (n - 1) + 2 ^ (n - 1) := by
    obtain ⟨k, rfl⟩ : ∃ k, n = k + 1 := ⟨n - 1, by omega⟩
    rw [Nat.add_sub_cancel, Nat.pow_succ]; omega
  have hand : ∀ x, x < 2 ^ n → x &&& (2 ^ n - (x + 1)) = 0 := fun x hx => by
    apply Nat.eq_of_testBit_eq
    intro i
    rw [Nat.testBit_and, Nat.testBit_two_pow_sub_succ hx, Nat.zero_testBit]
    cases x.testBit i <;> simp
  generalize hM : 2 ^ (n - 1) = M at *
  have hnd : (L.map fun x => if x < M then x else 2 ^ n - (x + 1)).Nodup := by
    unfold List.Nodup
    rw [List.pairwise_map]
    refine hr.imp_of_mem fun {a b} ha hb2 hab => ?_
    have h3 := hb a ha
    have h4 := hb b hb2
    by_cases h5 : a < M
    · rw [if_pos h5]
      by_cases h6 : b < M
      · rw [if_pos h6]; omega
      · rw [if_neg h6]
        intro e
        have := hand b h4
        rw [← e] at this
        exact hx b hb2 a ha this
    · rw [if_neg h5, if_neg (by omega)]; omega
  have := nodup_le (l2 := List.range M) hnd fun y hy => by
    obtain ⟨x, hx1, rfl⟩ := List.mem_map.1 hy
    have := hb x hx1
    rw [List.mem_range]
    split <;> omega
  rwa [List.length_map, List.length_range] at this
end Go.Proofs.YtkfbfgcflnkllaaGreatDoor
namespace Go.Proofs.YtkfbfgcflnkllaaGreatDoor
open Go Go.Eng Nim
set_option maxRecDepth 100000
set_option maxHeartbeats 8000000
theorem rise_eq : ∀ {l1 l2 : List Nat}, l1.Pairwise (· < ·) → l2.Pairwise (· < ·) → (∀ x, x ∈ l1 ↔ x ∈ l2) → l1 = l2
  | [], [], _, _, _ => rfl
  | [], b :: q, _, _, h => absurd ((h b).2 (List.mem_cons_self ..)) (List.not_mem_nil)
  | a :: r, [], _, _, h => absurd ((h a).1 (List.mem_cons_self ..)) (List.not_mem_nil)
  | a :: r, b :: q, h1, h2, h => by
    rw [List.pairwise_cons] at h1 h2
    have hab : a = b := by
      rcases List.mem_cons.1 ((h a).1 (List.mem_cons_self ..)) with h3 | h3
      · exact h3
      · rcases List.mem_cons.1 ((h b).2 (List.mem_cons_self ..)) with h4 | h4
        · exact h4.symm
        · have := h1.1 b h4; have := h2.1 a h3; omega
    subst hab
    rw [rise_eq h1.2 h2.2 fun x => ?_]
    constructor
    · intro hx
      rcases List.mem_cons.1 ((h x).1 (List.mem_cons_of_mem _ hx)) with h3 | h3
      · subst h3; exact absurd (h1.1 _ hx) (Nat.lt_irrefl _)
      · exact h3
    · intro hx
      rcases List.mem_cons.1 ((h x).2 (List.mem_cons_of_mem _ hx)) with h3 | h3
      · subst h3; exact absurd (h2.1 _ hx) (Nat.lt_irrefl _)
      · exact h3
theorem rise_lst {s : List Nat} {N : Nat} (hr : s.Pairwise (· < ·)) (hb : ∀ x ∈ s, x < N) : lst (fun j => decide (j ∈ s)) N = s :=
  rise_eq (lst_rise _ _) hr fun x => by
    rw [lst_mem, decide_eq_true_eq]
    exact ⟨fun h => h.2, fun h => ⟨hb x h, h⟩⟩
def zR (z : Int) : Int := IntKind.i64.wrap (1 + IntKind.i64.wrap ((IntKind.u64.wrap z).tmod (IntKind.u64.wrap (IntKind.i64.wrap (7 + 1)))))
theorem r_size (z : Int) : ∃ N : Nat, 1 ≤ N ∧ N ≤ 8 ∧ zR z = Int.ofNat N := by
  obtain ⟨k, hk, hr⟩ := rem_u z 8 (by decide) (by decide)
  have h9 : (IntKind.u64.wrap (IntKind.i64.wrap (7 + 1))) = IntKind.u64.wrap (Int.ofNat 8) := by decide
  refine ⟨1 + k, by omega, by omega, ?_⟩
  unfold zR
  rw [h9, hr, wrap_nat (n := k) (by omega)]
  exact wrap_nat (n := 1 + k) (by omega)
def zM (z : Int) : Int := IntKind.i64.wrap (2 + IntKind.i64.wrap ((IntKind.u64.wrap z).tmod (IntKind.u64.wrap (IntKind.i64.wrap (3 + 1)))))
theorem m_size (z : Int) : ∃ K : Nat, 2 ≤ K ∧ K ≤ 5 ∧ zM z = Int.ofNat K := by
  obtain ⟨k, hk, hr⟩ := rem_u z 4 (by decide) (by decide)
  have h9 : (IntKind.u64.wrap (IntKind.i64.wrap (3 + 1))) = IntKind.u64.wrap (Int.ofNat 4) := by decide
  refine ⟨2 + k, by omega, by omega, ?_⟩
  unfold zM
  rw [h9, hr, wrap_nat (n := k) (by omega)]
  exact wrap_nat (n := 2 + k) (by omega)
theorem pc_all8 : ((List.range 9).all fun n => (List.range (2 ^ n)).all fun s => Nat.ble (pcF 10 s) n) = true := by decide +kernel
theorem pc_le8 {n s : Nat} (hn : n ≤ 8) (hs : s < 2 ^ n) : pcF 10 s ≤ n :=
  Nat.le_of_ble_eq_true (List.all_eq_true.1 (List.all_eq_true.1 pc_all8 n (List.mem_range.2 (by omega))) s (List.mem_range.2 hs))
theorem bnd_all : ((List.range 6).all fun k => (List.range 9).all fun s => Nat.ble (bnd k s) 4000000000) = true := by decide +kernel
theorem bnd_le {k s : Nat} (hk : k ≤ 5) (hs : s ≤ 8) : bnd k s ≤ 4000000000 :=
  Nat.le_of_ble_eq_true (List.all_eq_true.1 (List.all_eq_true.1 bnd_all k (List.mem_range.2 (by omega))) s (List.mem_range.2 (by omega)))
/-- The largest number of elements. -/
def mxS : List Nat → Nat → Nat
  | [], a => a
  | x :: r, a => mxS r (max a (pcF 10 x))
theorem mxS_app (l r : List Nat) : ∀ a, mxS (l ++ r) a = mxS r (mxS l a) := by
  induction l with
  | nil => intro a; rfl
  | cons x l ih => intro a; exact ih _
theorem mxS_ge : ∀ (l : List Nat) (a : Nat), a ≤ mxS l a ∧ ∀ x ∈ l, pcF 10 x ≤ mxS l a
  | [], a => ⟨Nat.le_refl _, fun x hx => absurd hx (List.not_mem_nil)⟩
  | y :: r, a => by
    obtain ⟨h1, h2⟩ := mxS_ge r (max a (pcF 10 y))
    refine ⟨Nat.le_trans (Nat.le_max_left ..) h1, fun x hx => ?_⟩
    rcases List.mem_cons.1 hx with rfl | hx
    · exact Nat.le_trans (Nat.le_max_right ..) h1
    · exact h2 x hx
theorem mxS_le {b : Nat} : ∀ (l : List Nat) (a : Nat), a ≤ b → (∀ x ∈ l, pcF 10 x ≤ b) → mxS l a ≤ b
  | [], a, h, _ => h
  | y :: r, a, h, hl => mxS_le r _ (Nat.max_le.2 ⟨h, hl y (List.mem_cons_self ..)⟩) fun x hx => hl x (List.mem_cons_of_mem _ hx)
theorem x_shlE {t : TypeId} {a b : Int} (hb : 0 ≤ b) : pureX (binOp .shl t (.int .i64 a) (.int .u64 b)) = some (.int .i64 (IntKind.i64.wrap (a * 2 ^ min b.toNat IntKind.i64.bits))) := by
  refine pureX_of ?_ rfl
  simp only [binOp, Op.shift, if_neg (show ¬ b < 0 by omega)]
  rfl
theorem law11 (m : Nat) (z : Int) (xs : List Int) (hxs : xs.length < 2 ^ 63) (zi : Int) (x : Value) (h : Hp) (hx : Rds h x (xs.map I)) : ∃ H, Ev 100000 (m + 10) 11 [I z, x, I zi] h = some (.bool true, H) := by
  refine yesT ?_
  obtain ⟨N, hN1, hN8, hZ⟩ := r_size z
  obtain ⟨K, hK2, hK5, hZK⟩ := m_size zi
  obtain ⟨xa, xc, hxe⟩ := hx.shape
  rw [List.length_map] at hxe
  subst hxe
  have h2N : 2 ^ N ≤ 256 := Nat.pow_le_pow_right (by decide) hN8
  obtain ⟨v1, g1, e1, f, q1, hcn, hv1, W1⟩ := tame2_of 100000 (m + 8) (by decide) N 40 (by omega) (by decide) xs hxs _ h hx
  have R1 := lst_rd W1
  subst hv1
  have hwf1 : WfS (oslV q1 (lst f (2 ^ N)).length) := by
    cases (lst f (2 ^ N)).length with
    | zero => exact ⟨rfl, rfl⟩
    | succ k => exact .inl ⟨rfl, by omega⟩
  have hri := lst_rise f (2 ^ N)
  have hlm : ∀ y ∈ lst f (2 ^ N), y < 2 ^ N := fun y hy => (lst_mem.1 hy).1
  have eN : J N = I (zR z) := by rw [hZ]
  have eK : J K = I (zM zi) := by rw [hZK]
  obtain ⟨_, g2, e2, X2, hfl⟩ := flw_of 100000 (m + 6 - K) (by decide) N (by omega) K (by omega) hK5 f (by omega) _ g1 R1
  rw [show m + 6 - K + K + 3 = m + 9 by omega] at e2
  have e5 := crossing_of 100000 (m + 7) (by decide) N (by omega) f _ g2 hwf1 (R1.ext X2)
  have hck : ∀ (fl : List Nat) (w : Value), fl.Sublist (lst f (2 ^ N)) → Rds g2 w (fl.map J) → Ev 100000 (m + 8) 57 [J N, w] g2 = some (J 0, g2) := fun fl w hs hr => by
    refine chk_lst 100000 (m + 7) (by decide) N (by omega) (fun j => decide (j ∈ fl)) w g2 ?_
    rw [rise_lst (hri.sublist hs) fun x hx => hlm x (hs.subset hx)]
    exact hr
  have hif : ∀ (fl : List Nat) (w : Value), fl.Sublist (lst f (2 ^ N)) → fl ≠ [] → isF fl = true → WfS w → Rds g2 w (fl.map J) → Ev 100000 (m + 9) 47 [J N, oslV q1 (lst f (2 ^ N)).length, w] g2 = some (.bool true, g2) := fun fl w hs hne hF hwf hr => by
    have := isfl_ok 100000 (m + 5) (by decide) N (by omega) f (oslV q1 (lst f (2 ^ N)).length) fl (by have := hs.length_le; omega) hne (fun x hx => by have := hlm x (hs.subset hx); omega) w g2 (R1.ext X2) hwf hr (hck fl w hs hr)
    rw [hF, decide_eq_true fun x hx => hs.subset hx] at this
    exact this
  have hsz := fun (x : Nat) (hx : x ∈ lst f (2 ^ N)) (g : Hp) => sz_of 100000 (m + 8) (by decide) x (by have := hlm x hx; omega) g
  have hS8 : ∀ x ∈ lst f (2 ^ N), pcF 10 x ≤ 8 := fun x hx => by have := pc_le8 hN8 (hlm x hx); omega
  have hnd : (lst f (2 ^ N)).Nodup := hri.imp fun h => Nat.ne_of_lt h
  have hhalf : crF (lst f (2 ^ N)) = none → (lst f (2 ^ N)).length ≤ 2 ^ (N - 1) := cross_half hN1 hri hlm
  have herd : bnd K (mxS (lst f (2 ^ N)) 0) < (lst f (2 ^ N)).length → srF K (lst f (2 ^ N)) [] ≠ none := erdos hK2 hnd fun x hx => by
    have h1 := hlm x hx
    exact ⟨by omega, by rw [bc_pc (by omega)]; exact (mxS_ge _ 0).2 x hx⟩
  have hN1e : IntKind.i64.wrap (Int.ofNat N - 1) = Int.ofNat (N - 1) := by
    have : Int.ofNat N - 1 = Int.ofNat (N - 1) := by show (N : Int) - 1 = ((N - 1 : Nat) : Int); omega
    rw [this]; exact wrap_nat (by omega)
  have hup : 0 ≤ IntKind.u64.wrap (IntKind.i64.wrap (Int.ofNat N - 1)) := Int.emod_nonneg _ (by decide)
  have hshE : IntKind.i64.wrap (Int.ofNat 1 * 2 ^ min (IntKind.u64.wrap (IntKind.i64.wrap (Int.ofNat N - 1))).toNat IntKind.i64.bits) = Int.ofNat (2 ^ (N - 1)) := by
    rw [hN1e]; exact one_shl (N - 1) (by omega)
  have hMx := mxS_le (b := 8) (lst f (2 ^ N)) 0 (by decide) hS8
  generalize hL : lst f (2 ^ N) = L at *
  obtain ⟨oa, oc, ho⟩ := osl_shape q1 L.length
  rw [ho] at e1 e2 R1 e5 hif
  rw [eN] at e1
  refine ok_go 2 ?_
  refine sy_call 0 (by kernel_rfl) e1 ?_
  refine ok_go 0 ?_
  refine sy_loop 0 100000 g1 (α := Nat) (fun i => [(0, J N), (2, I zi), (7, .slice oa L.length oc), (8, J (mxS (L.take i) 0)), (9, J i)]) (fun i g => i ≤ L.length ∧ g = g1) (fun i _ => L.length - i) 0 (by kernel_rfl) (by kernel_rfl)
    ⟨(by kernel_rfl : _ = I (zR z)).trans (by rw [hZ]), by kernel_rfl, by kernel_rfl, by kernel_rfl, by kernel_rfl, trivial⟩ (show L.length - 0 < 100000 by omega) ⟨Nat.zero_le _, rfl⟩ ?_
  rintro m1 i F1 g ⟨hi, rfl⟩ ih
  have hw : IntKind.wrap .i64 (Int.ofNat (i + 1)) = Int.ofNat (i + 1) := wrap_nat (by omega)
  refine ok_go 2 ?_
  refine sy_test 0 (decide (Int.ofNat i < Int.ofNat L.length)) (by kernel_rfl) ?_ ?_
  · intro hlt
    have hlt : i < L.length := ok_nat hlt
    obtain ⟨p, hp1, hp2⟩ := rdN R1 hlt
    have e4 := hsz L[i] (List.getElem_mem hlt) g
    have hm : mxS (L.take (i + 1)) 0 = max (mxS (L.take i) 0) (pcF 10 L[i]) := by
      rw [List.take_succ_eq_append_getElem hlt, mxS_app]; rfl
    generalize L[i] = y at *
    refine ok_go 0 ?_
    refine sy_load 0 (r := indexAddrOp Tryz.prog 28 (.slice oa L.length oc) (J i)) (h' := g) (by kernel_rfl) hp1 ?_
    refine ok_go 0 ?_
    refine sy_load 0 (r := loadT Tryz.prog g 3 p) (h' := g) (by kernel_rfl) hp2 ?_
    refine ok_go 0 ?_
    refine sy_call 0 (by kernel_rfl) e4 ?_
    have hmx : (if Int.ofNat (pcF 10 y) > Int.ofNat (mxS (L.take i) 0) then Int.ofNat (pcF 10 y) else Int.ofNat (mxS (L.take i) 0)) = Int.ofNat (mxS (L.take (i + 1)) 0) := by
      rw [hm]
      by_cases hc : Int.ofNat (pcF 10 y) > Int.ofNat (mxS (L.take i) 0)
      · rw [if_pos hc, Nat.max_eq_right (by have hc : ((mxS (L.take i) 0 : Nat) : Int) < ((pcF 10 y : Nat) : Int) := hc; omega)]
      · rw [if_neg hc, Nat.max_eq_left (by have hc : ¬ ((mxS (L.take i) 0 : Nat) : Int) < ((pcF 10 y : Nat) : Int) := hc; omega)]
    refine ok_go 2 ?_
    exact sy_next 0 _ g (by kernel_rfl) (by kernel_rfl) (ih (i + 1) _ g ⟨hlt, rfl⟩ (show L.length - (i + 1) < L.length - i by omega) ⟨by kernel_rfl, by kernel_rfl, by kernel_rfl, (by kernel_rfl : _ = I (if Int.ofNat (pcF 10 y) > Int.ofNat (mxS (L.take i) 0) then Int.ofNat (pcF 10 y) else Int.ofNat (mxS (L.take i) 0))).trans (by rw [hmx]), (by kernel_rfl : _ = I (IntKind.wrap .i64 (Int.ofNat (i + 1)))).trans (by rw [hw]), trivial⟩)
  · intro hlt
    have hlt : i = L.length := Nat.le_antisymm hi (no_nat hlt)
    subst hlt
    clear ih
    refine ok_go 2 ?_
    refine sy_loop 0 100000 g (α := Nat) (fun j => [(0, J N), (7, .slice oa L.length oc), (8, J (mxS L 0)), (10, J K), (11, J (bnd K j)), (12, J (j + 1))]) (fun j g' => j ≤ mxS L 0 ∧ g' = g) (fun j _ => mxS L 0 - j) 0 (by kernel_rfl) (by kernel_rfl)
      ⟨by kernel_rfl, by kernel_rfl, (by kernel_rfl : _ = J (mxS (L.take L.length) 0)).trans (by rw [List.take_length]), (by kernel_rfl : _ = I (zM zi)).trans (by rw [hZK]), by kernel_rfl, by kernel_rfl, trivial⟩ (show mxS L 0 - 0 < 100000 by omega) ⟨Nat.zero_le _, rfl⟩ ?_
    generalize mxS L 0 = S at *
    rintro m2 j F2 g ⟨hj, rfl⟩ ih
    have hwj : IntKind.wrap .i64 (Int.ofNat (j + 1 + 1)) = Int.ofNat (j + 1 + 1) := wrap_nat (by omega)
    refine ok_go 1 ?_
    by_cases hjl : j < S
    · refine sy_yes 0 (b := decide (Int.ofNat (j + 1) ≤ Int.ofNat S)) (by kernel_rfl) (decide_eq_true (by show ((j + 1 : Nat) : Int) ≤ (S : Int); omega)) ?_
      have b1 := bnd_le hK5 (show j + 1 ≤ 8 by omega)
      have hbs : bnd K (j + 1) = bnd K j * (j + 1) * (K - 1) := rfl
      have b2 : bnd K j * (j + 1) ≤ bnd K j * (j + 1) * (K - 1) := Nat.le_mul_of_pos_right _ (by omega)
      have hk1 : IntKind.i64.wrap (Int.ofNat K - 1) = Int.ofNat (K - 1) := by
        have : Int.ofNat K - 1 = Int.ofNat (K - 1) := by show (K : Int) - 1 = ((K - 1 : Nat) : Int); omega
        rw [this]; exact wrap_nat (by omega)
      have hE : IntKind.i64.wrap (IntKind.i64.wrap (Int.ofNat (bnd K j) * Int.ofNat (j + 1)) * IntKind.i64.wrap (Int.ofNat K - 1)) = Int.ofNat (bnd K (j + 1)) := by
        rw [hk1, show IntKind.i64.wrap (Int.ofNat (bnd K j) * Int.ofNat (j + 1)) = Int.ofNat (bnd K j * (j + 1)) from wrap_nat (n := bnd K j * (j + 1)) (by omega)]
        exact wrap_nat (n := bnd K j * (j + 1) * (K - 1)) (by omega)
      refine ok_go 4 ?_
      exact sy_next 0 _ g (by kernel_rfl) (by kernel_rfl) (ih (j + 1) _ g ⟨hjl, rfl⟩ (show S - (j + 1) < S - j by omega) ⟨by kernel_rfl, by kernel_rfl, by kernel_rfl, by kernel_rfl, (by kernel_rfl : _ = I (IntKind.i64.wrap (IntKind.i64.wrap (Int.ofNat (bnd K j) * Int.ofNat (j + 1)) * IntKind.i64.wrap (Int.ofNat K - 1)))).trans (by rw [hE]), (by kernel_rfl : _ = I (IntKind.wrap .i64 (Int.ofNat (j + 1 + 1)))).trans (by rw [hwj]), trivial⟩)
    · obtain rfl : j = S := by omega
      refine sy_no 0 (b := decide (Int.ofNat (j + 1) ≤ Int.ofNat j)) (by kernel_rfl) (decide_eq_false (by show ¬ ((j + 1 : Nat) : Int) ≤ (j : Int); omega)) ?_
      clear ih
      have hbl := bnd_le hK5 hMx
      generalize bnd K j = BB at *
      refine ok_go 0 ?_
      rcases hfl with ⟨hn, rfl⟩ | ⟨fl, w, hs, rfl, hr, hwf⟩
      · have hlb : L.length ≤ BB := Nat.le_of_not_lt fun h => herd h hn
        refine sy_call 0 (by kernel_rfl) e2 ?_
        refine ok_go 14 ?_
        refine sy_no 0 (b := !(false == (Int.ofNat 0 == Int.ofNat K))) (by kernel_rfl) (by rw [show (Int.ofNat 0 == Int.ofNat K) = false from beq_eq_false_iff_ne.2 fun h => by have := Int.ofNat.inj h; omega]; rfl) ?_
        refine ok_go 13 ?_
        by_cases h1 : 1 ≤ j
        · refine sy_yes 0 (b := decide (Int.ofNat j ≥ 1)) (by kernel_rfl) (decide_eq_true (by show (1 : Int) ≤ (j : Int); omega)) ?_
          refine ok_go 8 ?_
          refine sy_no 0 (b := decide (Int.ofNat L.length > Int.ofNat BB)) (by kernel_rfl) (decide_eq_false (by show ¬ (BB : Int) < (L.length : Int); omega)) ?_
          refine ok_go 5 ?_
          refine sy_call 0 (by kernel_rfl) e5 ?_
          cases hcr : crF L with
          | some pr =>
            refine ok_go 22 ?_
            exact sy_done 0 (v := .bool true) (h := g2) (by kernel_rfl) rfl
          | none =>
            have hh := hhalf hcr
            refine ok_go 18 ?_
            refine sy_load 0 (r := pureX (binOp .shl 3 (.int .i64 (Int.ofNat 1)) (.int .u64 (IntKind.u64.wrap (IntKind.i64.wrap (Int.ofNat N - 1)))))) (h' := g2) (by kernel_rfl) (x_shlE hup) ?_
            refine ok_go 5 ?_
            refine sy_yes 0 (b := decide (Int.ofNat L.length ≤ IntKind.i64.wrap (Int.ofNat 1 * 2 ^ min (IntKind.u64.wrap (IntKind.i64.wrap (Int.ofNat N - 1))).toNat IntKind.i64.bits))) (by kernel_rfl) (by rw [hshE]; exact decide_eq_true (by show (L.length : Int) ≤ ((2 ^ (N - 1) : Nat) : Int); omega)) ?_
            refine ok_go 2 ?_
            exact sy_done 0 (v := .bool true) (h := g2) (by kernel_rfl) rfl
        · refine sy_no 0 (b := decide (Int.ofNat j ≥ 1)) (by kernel_rfl) (decide_eq_false (by show ¬ (1 : Int) ≤ (j : Int); omega)) ?_
          refine ok_go 12 ?_
          refine sy_call 0 (by kernel_rfl) e5 ?_
          cases hcr : crF L with
          | some pr =>
            refine ok_go 22 ?_
            exact sy_done 0 (v := .bool true) (h := g2) (by kernel_rfl) rfl
          | none =>
            have hh := hhalf hcr
            refine ok_go 18 ?_
            refine sy_load 0 (r := pureX (binOp .shl 3 (.int .i64 (Int.ofNat 1)) (.int .u64 (IntKind.u64.wrap (IntKind.i64.wrap (Int.ofNat N - 1)))))) (h' := g2) (by kernel_rfl) (x_shlE hup) ?_
            refine ok_go 5 ?_
            refine sy_yes 0 (b := decide (Int.ofNat L.length ≤ IntKind.i64.wrap (Int.ofNat 1 * 2 ^ min (IntKind.u64.wrap (IntKind.i64.wrap (Int.ofNat N - 1))).toNat IntKind.i64.bits))) (by kernel_rfl) (by rw [hshE]; exact decide_eq_true (by show (L.length : Int) ≤ ((2 ^ (N - 1) : Nat) : Int); omega)) ?_
            refine ok_go 2 ?_
            exact sy_done 0 (v := .bool true) (h := g2) (by kernel_rfl) rfl
      · obtain ⟨f1, f2, t, f3, f4⟩ := srF_some hs rfl
        rw [List.nil_append] at f4
        subst f4
        have e3 := hif _ w f3 (by intro h; rw [h] at f1; simp at f1; omega) f2 hwf hr
        obtain ⟨wa, wc, hw⟩ := hr.shape
        rw [List.length_map, f1] at hw
        subst hw
        refine sy_call 0 (by kernel_rfl) e2 ?_
        refine ok_go 14 ?_
        refine sy_no 0 (b := !(true == (Int.ofNat K == Int.ofNat K))) (by kernel_rfl) (by rw [beq_self_eq_true]; rfl) ?_
        refine ok_go 5 ?_
        refine sy_call 0 (by kernel_rfl) e3 ?_
        refine ok_go 9 ?_
        by_cases h1 : 1 ≤ j
        · refine sy_yes 0 (b := decide (Int.ofNat j ≥ 1)) (by kernel_rfl) (decide_eq_true (by show (1 : Int) ≤ (j : Int); omega)) ?_
          refine ok_go 8 ?_
          by_cases h2 : BB < L.length
          · refine sy_yes 0 (b := decide (Int.ofNat L.length > Int.ofNat BB)) (by kernel_rfl) (decide_eq_true (by show (BB : Int) < (L.length : Int); omega)) ?_
            refine ok_go 6 ?_
            refine sy_call 0 (by kernel_rfl) e5 ?_
            cases hcr : crF L with
            | some pr =>
              refine ok_go 22 ?_
              exact sy_done 0 (v := .bool true) (h := g2) (by kernel_rfl) rfl
            | none =>
              have hh := hhalf hcr
              refine ok_go 18 ?_
              refine sy_load 0 (r := pureX (binOp .shl 3 (.int .i64 (Int.ofNat 1)) (.int .u64 (IntKind.u64.wrap (IntKind.i64.wrap (Int.ofNat N - 1)))))) (h' := g2) (by kernel_rfl) (x_shlE hup) ?_
              refine ok_go 5 ?_
              refine sy_yes 0 (b := decide (Int.ofNat L.length ≤ IntKind.i64.wrap (Int.ofNat 1 * 2 ^ min (IntKind.u64.wrap (IntKind.i64.wrap (Int.ofNat N - 1))).toNat IntKind.i64.bits))) (by kernel_rfl) (by rw [hshE]; exact decide_eq_true (by show (L.length : Int) ≤ ((2 ^ (N - 1) : Nat) : Int); omega)) ?_
              refine ok_go 2 ?_
              exact sy_done 0 (v := .bool true) (h := g2) (by kernel_rfl) rfl
          · refine sy_no 0 (b := decide (Int.ofNat L.length > Int.ofNat BB)) (by kernel_rfl) (decide_eq_false (by show ¬ (BB : Int) < (L.length : Int); omega)) ?_
            refine ok_go 5 ?_
            refine sy_call 0 (by kernel_rfl) e5 ?_
            cases hcr : crF L with
            | some pr =>
              refine ok_go 22 ?_
              exact sy_done 0 (v := .bool true) (h := g2) (by kernel_rfl) rfl
            | none =>
              have hh := hhalf hcr
              refine ok_go 18 ?_
              refine sy_load 0 (r := pureX (binOp .shl 3 (.int .i64 (Int.ofNat 1)) (.int .u64 (IntKind.u64.wrap (IntKind.i64.wrap (Int.ofNat N - 1)))))) (h' := g2) (by kernel_rfl) (x_shlE hup) ?_
              refine ok_go 5 ?_
              refine sy_yes 0 (b := decide (Int.ofNat L.length ≤ IntKind.i64.wrap (Int.ofNat 1 * 2 ^ min (IntKind.u64.wrap (IntKind.i64.wrap (Int.ofNat N - 1))).toNat IntKind.i64.bits))) (by kernel_rfl) (by rw [hshE]; exact decide_eq_true (by show (L.length : Int) ≤ ((2 ^ (N - 1) : Nat) : Int); omega)) ?_
              refine ok_go 2 ?_
              exact sy_done 0 (v := .bool true) (h := g2) (by kernel_rfl) rfl
        · refine sy_no 0 (b := decide (Int.ofNat j ≥ 1)) (by kernel_rfl) (decide_eq_false (by show ¬ (1 : Int) ≤ (j : Int); omega)) ?_
          refine ok_go 12 ?_
          refine sy_call 0 (by kernel_rfl) e5 ?_
          cases hcr : crF L with
          | some pr =>
            refine ok_go 22 ?_
            exact sy_done 0 (v := .bool true) (h := g2) (by kernel_rfl) rfl
          | none =>
            have hh := hhalf hcr
            refine ok_go 18 ?_
            refine sy_load 0 (r := pureX (binOp .shl 3 (.int .i64 (Int.ofNat 1)) (.int .u64 (IntKind.u64.wrap (IntKind.i64.wrap (Int.ofNat N - 1)))))) (h' := g2) (by kernel_rfl) (x_shlE hup) ?_
            refine ok_go 5 ?_
            refine sy_yes 0 (b := decide (Int.ofNat L.length ≤ IntKind.i64.wrap (Int.ofNat 1 * 2 ^ min (IntKind.u64.wrap (IntKind.i64.wrap (Int.ofNat N - 1))).toNat IntKind.i64.bits))) (by kernel_rfl) (by rw [hshE]; exact decide_eq_true (by show (L.length : Int) ≤ ((2 ^ (N - 1) : Nat) : Int); omega)) ?_
            refine ok_go 2 ?_
            exact sy_done 0 (v := .bool true) (h := g2) (by kernel_rfl) rfl
theorem said11 (z : Int) (zs : List Int) (hz : zs.length < 2 ^ 63) (xa : Option Addr) (xc : Nat) (zi : Int) (h : Hp) (hx : Rds h (.slice xa zs.length xc) (zs.map I)) (_ : WfS (.slice xa zs.length xc)) : ∃ H, evInv Tryz.prog orc 100000 1000 (.fn 11 [.int .i64 z, .slice xa zs.length xc, .int .i64 zi]) h = some (.bool true, H) :=
  law11 990 z zs hz zi _ h hx
end Go.Proofs.YtkfbfgcflnkllaaGreatDoor
