/- Families: what Check says, and the reference's. -/
import Derived.Test.YtkfbfgcflnkllaaGreatDoorProg
import Derived.KernelRfl
import Derived.Test.YtkfbfgcflnkllaaGreatDoorSyF
import Derived.Test.YtkfbfgcflnkllaaGreatDoorSxC
import Derived.Test.YtkfbfgcflnkllaaGreatDoorSyD
import Derived.ChangeSlices
import Derived.ChangeArms
namespace Go.Proofs.YtkfbfgcflnkllaaGreatDoor
open Go Go.Eng Nim
set_option maxRecDepth 100000
set_option maxHeartbeats 8000000
theorem rdI {h : Hp} {rv : Value} {zs : List Int} (hr : Rds h rv (zs.map I)) {k : Nat} (hk : k < zs.length) : ∃ p, indexAddrOp Tryz.prog 28 rv (J k) = some p ∧ loadT Tryz.prog h 3 p = some (I zs[k]) :=
  hr.read (e := 3) (by kernel_rfl) (by kernel_rfl) (by kernel_rfl) (by rw [List.getElem?_map, List.getElem?_eq_getElem hk]; rfl)
theorem rdN {h : Hp} {rv : Value} {r : List Nat} (hr : Rds h rv (r.map J)) {k : Nat} (hk : k < r.length) : ∃ p, indexAddrOp Tryz.prog 28 rv (J k) = some p ∧ loadT Tryz.prog h 3 p = some (J r[k]) :=
  hr.read (e := 3) (by kernel_rfl) (by kernel_rfl) (by kernel_rfl) (by rw [List.getElem?_map, List.getElem?_eq_getElem hk]; rfl)
/-- The number ahead of number i. -/
def lastI (zs : List Int) (i : Nat) : Int := if i = 0 then -1 else zs.getD (i - 1) 0
def badAt (n : Nat) (zs : List Int) (i : Nat) : Prop := zs.getD i 0 ≤ lastI zs i ∨ zs.getD i 0 ≥ 2 ^ n
def GoodTo (n : Nat) (zs : List Int) (k : Nat) : Prop := ∀ i, i < k → ¬ badAt n zs i
/-- What Check says: the first bad place, or none. -/
def FamR (n : Int) (zs : List Int) (e : Nat) : Prop := ((n < 0 ∨ 10 < n) ∧ e = 1) ∨ ∃ N : Nat, n = Int.ofNat N ∧ N ≤ 10 ∧ ((e = 80 ∧ ∃ i, i < zs.length ∧ GoodTo N zs i ∧ badAt N zs i) ∨ (e = 0 ∧ GoodTo N zs zs.length))
theorem FamR.uniq {n : Int} {zs : List Int} {e f : Nat} (h1 : FamR n zs e) (h2 : FamR n zs f) : e = f := by
  rcases h1 with ⟨a, rfl⟩ | ⟨N, rfl, hN, h1⟩ <;> rcases h2 with ⟨b, rfl⟩ | ⟨M, hM, hM2, h2⟩
  · rfl
  · subst hM
    have : ¬ ((Int.ofNat M) < 0 ∨ 10 < Int.ofNat M) := by rintro (h | h) <;> simp at h <;> omega
    exact absurd a this
  · have : ¬ ((Int.ofNat N) < 0 ∨ 10 < Int.ofNat N) := by rintro (h | h) <;> simp at h <;> omega
    exact absurd b this
  · cases hM
    rcases h1 with ⟨rfl, i, hi, _, hb⟩ | ⟨rfl, hg⟩ <;> rcases h2 with ⟨rfl, j, hj, _, hb2⟩ | ⟨rfl, hg2⟩
    · rfl
    · exact absurd hb (hg2 i hi)
    · exact absurd hb2 (hg j hj)
    · rfl
theorem chk_of (lf m : Nat) (n : Int) (zs : List Int) (hz : zs.length < 100000) (hlf : zs.length < lf) (x : Value) (h : Hp) (hx : Rds h x (zs.map I)) :
    ∃ e, FamR n zs e ∧ Ev lf (m + 1) 57 [I n, x] h = some (J e, h) := by
  suffices ∃ v h', Ev lf (m + 1) 57 [I n, x] h = some (v, h') ∧ ∃ e, FamR n zs e ∧ v = J e ∧ h' = h by
    obtain ⟨v, h', e1, e, e2, rfl, rfl⟩ := this
    exact ⟨e, e2, e1⟩
  refine fnS_ok (Q := fun v h' => ∃ e, FamR n zs e ∧ v = J e ∧ h' = h) ?_
  obtain ⟨xa, xc, hxs⟩ := hx.shape
  rw [List.length_map] at hxs
  subst hxs
  have W := Sto.start h
  by_cases h0 : n < 0
  · refine ok_go 1 ?_
    refine sy_yes 0 (b := decide (n < 0)) (by kernel_rfl) (decide_eq_true h0) ?_
    refine ok_go 3 ?_
    exact sy_done 0 (v := J 1) (h := h) (by kernel_rfl) ⟨1, .inl ⟨.inl h0, rfl⟩, rfl, rfl⟩
  refine ok_go 1 ?_
  refine sy_no 0 (b := decide (n < 0)) (by kernel_rfl) (decide_eq_false h0) ?_
  refine ok_go 3 ?_
  by_cases h10 : n > 10
  · refine sy_yes 0 (b := decide (n > 10)) (by kernel_rfl) (decide_eq_true h10) ?_
    refine ok_go 0 ?_
    exact sy_done 0 (v := J 1) (h := h) (by kernel_rfl) ⟨1, .inl ⟨.inr h10, rfl⟩, rfl, rfl⟩
  refine sy_no 0 (b := decide (n > 10)) (by kernel_rfl) (decide_eq_false h10) ?_
  obtain ⟨N, rfl⟩ := Int.eq_ofNat_of_zero_le (show 0 ≤ n by omega)
  have hN : N ≤ 10 := by have : ¬ (10 : Int) < (N : Int) := h10; omega
  have hsh := one_shl N (by omega)
  have hpw : Int.ofNat (2 ^ N) = (2 : Int) ^ N := by simp
  refine ok_go 1 ?_
  refine sy_loop 0 lf h (α := Nat) (fun i => [(0, J N), (5, I (lastI zs i)), (14, .slice xa zs.length xc), (15, J zs.length), (16, J i)]) (fun i g => i ≤ zs.length ∧ GoodTo N zs i ∧ g = h) (fun i _ => zs.length - i) 0 (by kernel_rfl) (by kernel_rfl)
    ⟨by kernel_rfl, by kernel_rfl, by kernel_rfl, by kernel_rfl, by kernel_rfl, trivial⟩ (show zs.length - 0 < lf by omega) ⟨Nat.zero_le _, fun i hi => absurd hi (Nat.not_lt_zero i), rfl⟩ ?_
  rintro m1 i F1 g ⟨hi, hG, rfl⟩ ih
  have hw : IntKind.wrap .i64 (Int.ofNat (i + 1)) = Int.ofNat (i + 1) := wrap_nat (by omega)
  refine ok_go 1 ?_
  refine sy_test 0 (decide (Int.ofNat i < Int.ofNat zs.length)) (by kernel_rfl) ?_ ?_
  · intro hlt
    have hlt : i < zs.length := ok_nat hlt
    obtain ⟨p, hp1, hp2⟩ := rdI hx hlt
    have hgd : zs.getD i 0 = zs[i] := by rw [List.getD_eq_getElem?_getD, List.getElem?_eq_getElem hlt]; rfl
    have hla : lastI zs (i + 1) = zs[i] := by unfold lastI; rw [if_neg (by omega), Nat.add_sub_cancel, hgd]
    refine ok_go 0 ?_
    refine sy_load 0 (r := indexAddrOp Tryz.prog 28 (.slice xa zs.length xc) (J i)) (h' := g) (by kernel_rfl) hp1 ?_
    refine ok_go 0 ?_
    refine sy_load 0 (r := loadT Tryz.prog g 3 p) (h' := g) (by kernel_rfl) hp2 ?_
    refine ok_go 1 ?_
    by_cases hb1 : zs[i] ≤ lastI zs i
    · refine sy_yes 0 (b := decide (zs[i] ≤ lastI zs i)) (by kernel_rfl) (decide_eq_true hb1) ?_
      refine ok_go 6 ?_
      exact sy_done 0 (v := J 80) (h := g) (by kernel_rfl) ⟨80, .inr ⟨N, rfl, hN, .inl ⟨rfl, i, hlt, hG, .inl (by rw [hgd]; exact hb1)⟩⟩, rfl, rfl⟩
    · refine sy_no 0 (b := decide (zs[i] ≤ lastI zs i)) (by kernel_rfl) (decide_eq_false hb1) ?_
      refine ok_go 8 ?_
      by_cases hb2 : zs[i] ≥ Int.ofNat (2 ^ N)
      · refine sy_yes 0 (b := decide (zs[i] ≥ IntKind.i64.wrap (1 * 2 ^ min (IntKind.u64.wrap (Int.ofNat N)).toNat IntKind.i64.bits))) (by kernel_rfl) (by rw [hsh]; exact decide_eq_true hb2) ?_
        refine ok_go 0 ?_
        exact sy_done 0 (v := J 80) (h := g) (by kernel_rfl) ⟨80, .inr ⟨N, rfl, hN, .inl ⟨rfl, i, hlt, hG, .inr (by rw [hgd, ← hpw]; exact hb2)⟩⟩, rfl, rfl⟩
      · refine sy_no 0 (b := decide (zs[i] ≥ IntKind.i64.wrap (1 * 2 ^ min (IntKind.u64.wrap (Int.ofNat N)).toNat IntKind.i64.bits))) (by kernel_rfl) (by rw [hsh]; exact decide_eq_false hb2) ?_
        refine ok_go 1 ?_
        refine sy_next 0 _ g (by kernel_rfl) (by kernel_rfl) (ih (i + 1) _ g ⟨hlt, fun j hj => ?_, rfl⟩ (show zs.length - (i + 1) < zs.length - i by omega) ⟨by kernel_rfl, (by kernel_rfl : _ = I zs[i]).trans (by rw [hla]), by kernel_rfl, by kernel_rfl, (by kernel_rfl : _ = Value.int .i64 (IntKind.wrap .i64 (Int.ofNat (i + 1)))).trans (by rw [hw]), trivial⟩)
        rcases Nat.lt_succ_iff_lt_or_eq.1 hj with h | rfl
        · exact hG j h
        · rintro (h | h)
          · rw [hgd] at h; exact hb1 h
          · rw [hgd, ← hpw] at h
            exact hb2 h
  · intro hlt
    have hlt : i = zs.length := Nat.le_antisymm hi (no_nat hlt)
    subst hlt
    refine ok_go 0 ?_
    exact sy_done 0 (v := J 0) (h := g) (by kernel_rfl) ⟨0, .inr ⟨N, rfl, hN, .inr ⟨rfl, hG⟩⟩, rfl, rfl⟩
end Go.Proofs.YtkfbfgcflnkllaaGreatDoor
namespace Go.Proofs.YtkfbfgcflnkllaaGreatDoor
open Go Go.Eng Nim
set_option maxRecDepth 100000
set_option maxHeartbeats 8000000
end Go.Proofs.YtkfbfgcflnkllaaGreatDoor
namespace Go.Proofs.YtkfbfgcflnkllaaGreatDoor
open Go Go.Eng Nim
set_option maxRecDepth 100000
set_option maxHeartbeats 8000000
theorem same_of (lf m : Nat) (xs ys : List Int) (hlf : xs.length < lf) (hx1 : xs.length < 2 ^ 62) (x y : Value) (g : Hp) (hx : Rds g x (xs.map I)) (hy : Rds g y (ys.map I)) : Ev lf (m + 1) 16 [x, y] g = some (.bool (decide (xs = ys)), g) := by
  refine fn_eq ?_
  obtain ⟨xa, xc, hxs⟩ := hx.shape
  obtain ⟨ya, yc, hys⟩ := hy.shape
  rw [List.length_map] at hxs hys
  subst hxs hys
  have W := Sto.start g
  refine ok_go 3 ?_
  by_cases hne : xs.length = ys.length
  · refine sy_no 0 (b := Int.ofNat xs.length != Int.ofNat ys.length) (by kernel_rfl) (by rw [hne]; exact bne_self_eq_false _) ?_
    refine ok_go 0 ?_
    refine sy_loop 0 lf g (α := Nat) (fun i => [(0, .slice xa xs.length xc), (1, .slice ya ys.length yc), (5, J i)]) (fun i g' => i ≤ xs.length ∧ xs.take i = ys.take i ∧ g' = g) (fun i _ => xs.length - i) 0 (by kernel_rfl) (by kernel_rfl)
      ⟨by kernel_rfl, by kernel_rfl, by kernel_rfl, trivial⟩ (show xs.length - 0 < lf by omega) ⟨Nat.zero_le _, rfl, rfl⟩ ?_
    rintro m1 i F1 g ⟨hi, hpre, rfl⟩ ih
    have hw : IntKind.wrap .i64 (Int.ofNat (i + 1)) = Int.ofNat (i + 1) := wrap_nat (by omega)
    refine ok_go 2 ?_
    refine sy_test 0 (decide (Int.ofNat i < Int.ofNat xs.length)) (by kernel_rfl) ?_ ?_
    · intro hlt
      have hlt : i < xs.length := ok_nat hlt
      obtain ⟨p, hp1, hp2⟩ := rdI hx hlt
      obtain ⟨q, hq1, hq2⟩ := rdI hy (show i < ys.length by omega)
      refine ok_go 0 ?_
      refine sy_load 0 (r := indexAddrOp Tryz.prog 28 (.slice xa xs.length xc) (J i)) (h' := g) (by kernel_rfl) hp1 ?_
      refine ok_go 0 ?_
      refine sy_load 0 (r := loadT Tryz.prog g 3 p) (h' := g) (by kernel_rfl) hp2 ?_
      refine ok_go 0 ?_
      refine sy_load 0 (r := indexAddrOp Tryz.prog 28 (.slice ya ys.length yc) (J i)) (h' := g) (by kernel_rfl) hq1 ?_
      refine ok_go 0 ?_
      refine sy_load 0 (r := loadT Tryz.prog g 3 q) (h' := g) (by kernel_rfl) hq2 ?_
      refine ok_go 1 ?_
      by_cases he : xs[i] = ys[i]
      · refine sy_no 0 (b := xs[i] != ys[i]) (by kernel_rfl) (by rw [he]; exact bne_self_eq_false _) ?_
        refine ok_go 1 ?_
        exact sy_next 0 _ g (by kernel_rfl) (by kernel_rfl) (ih (i + 1) _ g ⟨hlt, by rw [List.take_succ_eq_append_getElem hlt, List.take_succ_eq_append_getElem (by omega), hpre, he], rfl⟩ (show xs.length - (i + 1) < xs.length - i by omega) ⟨by kernel_rfl, by kernel_rfl, (by kernel_rfl : _ = Value.int .i64 (IntKind.wrap .i64 (Int.ofNat (i + 1)))).trans (by rw [hw]), trivial⟩)
      · refine sy_yes 0 (b := xs[i] != ys[i]) (by kernel_rfl) (bne_iff_ne.2 he) ?_
        refine ok_go 0 ?_
        refine sy_done 0 (v := .bool false) (h := g) (by kernel_rfl) ⟨?_, rfl⟩
        rw [decide_eq_false fun h => he (by subst h; rfl)]
    · intro hlt
      have hlt : i = xs.length := Nat.le_antisymm hi (no_nat hlt)
      subst hlt
      refine ok_go 0 ?_
      refine sy_done 0 (v := .bool true) (h := g) (by kernel_rfl) ⟨?_, rfl⟩
      rw [List.take_length, hne, List.take_length] at hpre
      rw [decide_eq_true hpre]
  · refine sy_yes 0 (b := Int.ofNat xs.length != Int.ofNat ys.length) (by kernel_rfl) (bne_iff_ne.2 fun h => hne (Int.ofNat.inj h)) ?_
    refine ok_go 0 ?_
    refine sy_done 0 (v := .bool false) (h := g) (by kernel_rfl) ⟨?_, rfl⟩
    rw [decide_eq_false fun h => hne (by rw [h])]
theorem x_rem {k : IntKind} {t : TypeId} {a b : Int} (hb : b ≠ 0) : pureX (binOp .rem t (.int k a) (.int k b)) = some (.int k (a.tmod b)) := by
  refine pureX_of ?_ rfl
  simp only [binOp, ne_eq, not_true_eq_false, if_false, Op.intDiv, hb]
  rfl
theorem size_of (lf m : Nat) (z : Int) (k : Nat) (hk : k < 1000000) : ∃ r : Nat, r ≤ k ∧ ∀ h, Ev lf (m + 1) 17 [I z, J k] h = some (J r, h) := by
  obtain ⟨u, hu⟩ : ∃ u : Nat, IntKind.wrap .u64 z = Int.ofNat u := Int.eq_ofNat_of_zero_le (by
    show 0 ≤ z % 2 ^ 64
    exact Int.emod_nonneg _ (by decide))
  have hk1 : IntKind.wrap .i64 (Int.ofNat k + 1) = Int.ofNat (k + 1) := wrap_add (a := k) (b := 1) (by omega)
  have hk2 : IntKind.wrap .u64 (Int.ofNat (k + 1)) = Int.ofNat (k + 1) := Int.emod_eq_of_lt (Int.natCast_nonneg _) (show ((k + 1 : Nat) : Int) < 18446744073709551616 by omega)
  have hr : u % (k + 1) ≤ k := Nat.le_of_lt_succ (Nat.mod_lt _ (Nat.succ_pos k))
  refine ⟨u % (k + 1), hr, fun h => fn_eq ?_⟩
  have hv : IntKind.wrap .i64 ((IntKind.wrap .u64 z).tmod (IntKind.wrap .u64 (IntKind.wrap .i64 (Int.ofNat k + 1)))) = Int.ofNat (u % (k + 1)) := by
    rw [hk1, hk2, hu]
    exact wrap_nat (n := u % (k + 1)) (by omega)
  refine ok_go 3 ?_
  refine sy_load 0 (r := pureX (binOp .rem 36 (.int .u64 (IntKind.wrap .u64 z)) (.int .u64 (IntKind.wrap .u64 (IntKind.wrap .i64 (Int.ofNat k + 1)))))) (h' := h) (by kernel_rfl) (x_rem (by rw [hk1, hk2]; exact fun h => absurd (Int.ofNat.inj h) (Nat.succ_ne_zero k))) ?_
  refine ok_go 1 ?_
  refine sy_done 0 (v := I (IntKind.wrap .i64 ((IntKind.wrap .u64 z).tmod (IntKind.wrap .u64 (IntKind.wrap .i64 (Int.ofNat k + 1)))))) (h := h) (by kernel_rfl) ⟨by rw [hv], rfl⟩
end Go.Proofs.YtkfbfgcflnkllaaGreatDoor
namespace Go.Proofs.YtkfbfgcflnkllaaGreatDoor
open Go Go.Eng Nim Ch
set_option maxRecDepth 100000
set_option maxHeartbeats 8000000
theorem make_sl {t e : TypeId} {z : Value} {inf : TypeInfo} (hu : Tryz.prog.underlying t = some (.slice e)) (hz : zeroOf Tryz.prog e = some z) (hi : Tryz.prog.info? e = some inf) (hb : Nat.ble inf.bytes 4096 = true) (hc : z.cells.toList = [z]) (hs : Nat.beq z.cells.size inf.size = true) (hsc : scalar z = true) (n : Nat) (hn : n ≤ most) (h : Hp) :
    makeSliceOp Tryz.prog h t (J n) (J n) = some (.slice (some ⟨h.next, 0, none⟩) n (2 * n), h.new (.cells (List.replicate n z) e false)) := by
  have hzz : ∀ k, zeros [z] k = List.replicate k z := fun k => by
    induction k with
    | zero => rfl
    | succ k ih => rw [zeros, ih]; rfl
  have hnn : natOf (J n) = some n := rfl
  simp only [makeSliceOp, hu, hnn, hz, hi, Nat.ble_eq_true_of_le (Nat.le_refl n), Nat.ble_eq_true_of_le hn, hb, hs, hc, List.all_cons, hsc, List.all_nil, Bool.and_true, hzz]
theorem mk37 (n : Nat) (hn : n ≤ most) (h : Hp) : makeSliceOp Tryz.prog h 37 (J n) (J n) = some (.slice (some ⟨h.next, 0, none⟩) n (2 * n), h.new (.cells (List.replicate n (.bool false)) 4 false)) :=
  make_sl (by kernel_rfl) (by kernel_rfl) rfl (by kernel_rfl) rfl (by kernel_rfl) rfl n hn h
end Go.Proofs.YtkfbfgcflnkllaaGreatDoor
namespace Go.Proofs.YtkfbfgcflnkllaaGreatDoor
open Go Go.Eng Nim
set_option maxRecDepth 100000
set_option maxHeartbeats 8000000
/-- The array of marks. -/
def mk97 (f : Nat → Bool) : List Value := cellsF 1024 fun i => .bool (f i)
theorem u97 : Tryz.prog.underlying 97 = some (.array 1024 4) := by kernel_rfl
theorem idxM {i x : Nat} (hx : x < 1024) : indexAddrOp Tryz.prog 97 (ptr i 0) (J x) = some (ptr i x) := by
  have hs : sizeT Tryz.prog 4 = some 1 := by kernel_rfl
  have hb : Nat.blt x 1024 = true := Nat.ble_eq_true_of_le hx
  simp only [indexAddrOp, natOf, ptr, u97, hs, addTo]
  rw [show Nat.blt x 1024 = true from hb]
  simp
theorem mk97_set {f : Nat → Bool} {k : Nat} {b : Bool} : updF (fun i => Value.bool (f i)) k (.bool b) = fun i => .bool (if i = k then b else f i) := by
  funext i
  unfold updF
  split <;> simp_all
theorem mk97_take (f : Nat → Bool) : takeN 1024 (mk97 f) = some (mk97 f) := by
  have := takeN_all (mk97 f)
  rwa [show (mk97 f).length = 1024 from cellsF_len ..] at this
theorem mk97_sc (f : Nat → Bool) : (mk97 f).all scalar = true := List.all_eq_true.2 fun v hv => by
  obtain ⟨n, _, rfl⟩ := List.mem_map.1 hv
  rfl
theorem marked_of (lf m : Nat) (hlf : 2000 ≤ lf) (l : List Nat) (hl : l.length < 2000) (hb : ∀ x ∈ l, x < 1024) (v : Value) (h : Hp) (hv : Rds h v (l.map J)) :
    ∃ v' h', Ev lf (m + 1) 62 [v] h = some (v', h') ∧ v' = .agg (mk97 fun i => decide (i ∈ l)).toArray ∧ h.Ext h' := by
  refine fnS_ok (Q := fun v' h' => v' = .agg (mk97 fun i => decide (i ∈ l)).toArray ∧ h.Ext h') ?_
  obtain ⟨va, vc, hvs⟩ := hv.shape
  rw [List.length_map] at hvs
  subst hvs
  have W := Sto.start h
  refine ok_go 0 ?_
  refine ow_new 0 W (.cells (mk97 fun _ => false) 97 false) (fun i => ptr i 0) (by kernel_rfl) fun g1 ng1 W => ?_
  refine ok_go 0 ?_
  refine ow_new 0 W (.cells (mk97 fun _ => false) 97 false) (fun i => ptr i 0) (by kernel_rfl) fun g2 ng2 W => ?_
  refine ok_go 1 ?_
  refine sy_loop 0 lf g2 (α := Nat) (fun i => [(2, ptr h.next 0), (3, ptr g1.next 0), (6, .slice va l.length vc), (7, J l.length), (8, J i)]) (fun i g => i ≤ l.length ∧ Sto h g [(g1.next, .cells (mk97 fun k => decide (k ∈ l.take i)) 97 false), (h.next, .cells (mk97 fun _ => false) 97 false)]) (fun i _ => l.length - i) 0 (by kernel_rfl) (by kernel_rfl)
    ⟨by kernel_rfl, by kernel_rfl, by kernel_rfl, by kernel_rfl, by kernel_rfl, trivial⟩ (show l.length - 0 < lf by omega) ⟨Nat.zero_le _, by
      simpa using W⟩ ?_
  clear W
  rintro m1 i F1 g ⟨hi, W⟩ ih
  have hw : IntKind.wrap .i64 (Int.ofNat (i + 1)) = Int.ofNat (i + 1) := wrap_nat (by omega)
  refine ok_go 1 ?_
  refine sy_test 0 (decide (Int.ofNat i < Int.ofNat l.length)) (by kernel_rfl) ?_ ?_
  · intro hlt
    have hlt : i < l.length := ok_nat hlt
    have hx : l[i]? = some l[i] := List.getElem?_eq_getElem hlt
    have hxb := hb _ (List.mem_of_getElem? hx)
    obtain ⟨p, hp1, hp2⟩ := rdN (hv.ext W.ext) hlt
    generalize hxe : l[i] = x at *
    refine ok_go 0 ?_
    refine sy_load 0 (r := indexAddrOp Tryz.prog 28 (.slice va l.length vc) (J i)) (h' := g) (by kernel_rfl) hp1 ?_
    refine ok_go 0 ?_
    refine sy_load 0 (r := loadT Tryz.prog g 3 p) (h' := g) (by kernel_rfl) hp2 ?_
    refine ok_go 0 ?_
    refine sy_load 0 (r := indexAddrOp Tryz.prog 97 (ptr g1.next 0) (J x)) (h' := g) (by kernel_rfl) (idxM hxb) ?_
    refine ok_go 0 ?_
    refine ow_storeF (P := Tryz.prog) (T := 4) (v := .bool true) 0 0 W rfl hxb zB rfl (by kernel_rfl) fun g2 ng2 W => ?_
    rw [mk97_set] at W
    have W : Sto h g2 [(g1.next, .cells (mk97 fun k => decide (k ∈ l.take (i + 1))) 97 false), (h.next, .cells (mk97 fun _ => false) 97 false)] := by
      rw [show (fun k => decide (k ∈ l.take (i + 1))) = fun k => if k = x then true else decide (k ∈ l.take i) from by
        funext k
        rw [List.take_succ_eq_append_getElem hlt, hxe]
        by_cases hk : k = x
        · simp [hk]
        · simp [hk]]
      exact W
    refine ok_go 1 ?_
    exact sy_next 0 _ g2 (by kernel_rfl) (by kernel_rfl) (ih (i + 1) _ g2 ⟨hlt, W⟩ (show l.length - (i + 1) < l.length - i by omega) ⟨by kernel_rfl, by kernel_rfl, by kernel_rfl, by kernel_rfl, (by kernel_rfl : _ = Value.int .i64 (IntKind.wrap .i64 (Int.ofNat (i + 1)))).trans (by rw [hw]), trivial⟩)
  · intro hlt
    have hlt : i = l.length := Nat.le_antisymm hi (no_nat hlt)
    subst hlt
    rw [List.take_length] at W
    generalize hM : (mk97 fun k => decide (k ∈ l)) = M at *
    have hMl : M.length = 1024 := by rw [← hM]; exact cellsF_len ..
    have hMt : takeN 1024 M = some M := by rw [← hM]; exact mk97_take _
    have hMs : M.all scalar = true := by rw [← hM]; exact mk97_sc _
    refine ok_go 0 ?_
    refine ow_loadA (P := Tryz.prog) (T := 97) 0 0 W rfl (by kernel_rfl) (by kernel_rfl) hMt (by kernel_rfl) ?_
    refine ok_go 0 ?_
    refine ow_storeA (P := Tryz.prog) (T := 97) (v := .agg M.toArray) 0 1 W M rfl rfl (by rw [hMl]; exact (cellsF_len ..).symm) (by rw [hMl]; kernel_rfl) hMs (by kernel_rfl) fun g2 ng2 W => ?_
    refine ok_go 0 ?_
    refine ow_loadA (P := Tryz.prog) (T := 97) 0 1 W rfl (by kernel_rfl) (by kernel_rfl) hMt (by kernel_rfl) ?_
    refine ok_go 0 ?_
    exact sy_done 0 (v := .agg M.toArray) (h := g2) (by kernel_rfl) ⟨rfl, W.ext⟩
end Go.Proofs.YtkfbfgcflnkllaaGreatDoor
namespace Go.Proofs.YtkfbfgcflnkllaaGreatDoor
open Go Go.Eng Nim
set_option maxRecDepth 100000
set_option maxHeartbeats 8000000
/-- What is marked below n, in order. -/
def lst (f : Nat → Bool) (n : Nat) : List Nat := (List.range n).filter f
theorem lst_succ (f : Nat → Bool) (n : Nat) : lst f (n + 1) = if f n then lst f n ++ [n] else lst f n := by
  unfold lst
  rw [List.range_succ, List.filter_append]
  cases h : f n <;> simp [h]
theorem lst_len (f : Nat → Bool) (n : Nat) : (lst f n).length ≤ n := by
  unfold lst
  exact Nat.le_trans (List.length_filter_le ..) (by rw [List.length_range]; exact Nat.le_refl _)
theorem list_of (lf m : Nat) (hlf : 2000 ≤ lf) (f : Nat → Bool) (b : Nat) (opn : Bool) (h : Hp) (hb : h.get b = some (.cells (mk97 f) 97 opn)) (hbn : b < h.next) :
    ∃ v h', Ev lf (m + 1) 63 [ptr b 0] h = some (v, h') ∧ (∃ q, v = oslV q (lst f 1024).length ∧ Sto h h' (oent q 3 ((lst f 1024).map J))) := by
  refine fnS_ok (Q := fun v h' => ∃ q, v = oslV q (lst f 1024).length ∧ Sto h h' (oent q 3 ((lst f 1024).map J))) ?_
  have W := Sto.start h
  refine ok_go 0 ?_
  refine sy_loop 0 lf h (α := Nat × Nat × Option Addr × Nat) (fun x => [(6, ptr b 0), (3, .slice x.2.2.1 (lst f x.1).length x.2.2.2), (7, J x.1)]) (fun x g => x.1 ≤ 1024 ∧ .slice x.2.2.1 (lst f x.1).length x.2.2.2 = oslV x.2.1 (lst f x.1).length ∧ Sto h g (oent x.2.1 3 ((lst f x.1).map J))) (fun x _ => 1024 - x.1) (0, 0, none, 0) (by kernel_rfl) (by kernel_rfl)
    ⟨by kernel_rfl, by kernel_rfl, by kernel_rfl, trivial⟩ (show 1024 - 0 < lf by omega) ⟨Nat.zero_le _, rfl, W⟩ ?_
  clear W
  rintro m1 ⟨i, q, oa, oc⟩ F1 g ⟨hi, hos, W⟩ ih
  dsimp only at hi hos W
  have hw : IntKind.wrap .i64 (Int.ofNat (i + 1)) = Int.ofNat (i + 1) := wrap_nat (by omega)
  have hll := lst_len f i
  have hls := lst_succ f i
  refine ok_go 1 ?_
  refine sy_test 0 (decide (Int.ofNat i < 1024)) (by kernel_rfl) ?_ ?_
  · intro hlt
    have hlt : i < 1024 := ok_nat (b := 1024) hlt
    have hbg := (W.ext.get b hbn).trans hb
    refine ok_go 1 ?_
    refine sy_load 0 (r := indexAddrOp Tryz.prog 97 (ptr b 0) (J i)) (h' := g) (by kernel_rfl) (idxM hlt) ?_
    refine ok_go 0 ?_
    refine sy_load 0 (r := loadT Tryz.prog g 4 (ptr b i)) (h' := g) (v := .bool (f i)) (by kernel_rfl) (load1 agB hbg (cellsF_get hlt)) ?_
    refine ok_go 0 ?_
    cases hf : f i with
    | true =>
      rw [hf, if_pos rfl] at hls
      generalize lst f i = L at *
      refine ow_new 1 W (AObj.cells [Value.int IntKind.i64 (Int.ofNat (Prod.fst (i, q, oa, oc)))] 3 false) (fun q => Value.slice (some { block := q, off := 0 }) 1 2) (by kernel_rfl) fun k1 nk1 Wk1 => ?_
      have W := Wk1
      have W : Sto h k1 ((g.next, .cells [J i] 3 false) :: ([] ++ oent q 3 (L.map J))) := W
      refine ow_app (P := Tryz.prog) (t := 28) (e := 3) (z := 1) (c := L.length) (i := q) 0 W slz28 (by rw [List.length_map, Nat.mul_one]) rfl rfl (by omega) (by rw [← hos]; kernel_rfl) fun k2 sl nk2 hsl hsc W => ?_
      obtain ⟨oa2, oc2, ho2⟩ := osl_shape k1.next (L.length + 1)
      rw [ho2] at hsl
      subst hsl
      have W : Sto h k2 (oent k1.next 3 ((L ++ [i]).map J)) := by rw [List.map_append]; exact W
      refine ok_go 1 ?_
      exact sy_next 0 _ k2 (by kernel_rfl) (by kernel_rfl) (ih (i + 1, k1.next, oa2, oc2) _ k2 ⟨hlt, by dsimp only; rw [hls, List.length_append]; exact ho2.symm, by dsimp only; rw [hls]; exact W⟩ (show 1024 - (i + 1) < 1024 - i by omega) ⟨by kernel_rfl, (by kernel_rfl : _ = Value.slice oa2 (L.length + 1) oc2).trans (by dsimp only; rw [hls, List.length_append]; rfl), (by kernel_rfl : _ = Value.int .i64 (IntKind.wrap .i64 (Int.ofNat (i + 1)))).trans (by rw [hw]), trivial⟩)
    | false =>
      rw [hf, if_neg Bool.false_ne_true] at hls
      generalize lst f i = L at *
      refine ok_go 2 ?_
      exact sy_next 0 _ g (by kernel_rfl) (by kernel_rfl) (ih (i + 1, q, oa, oc) _ g ⟨hlt, by dsimp only; rw [hls]; exact hos, by dsimp only; rw [hls]; exact W⟩ (show 1024 - (i + 1) < 1024 - i by omega) ⟨by kernel_rfl, (by kernel_rfl : _ = Value.slice oa L.length oc).trans (by dsimp only; rw [hls]), (by kernel_rfl : _ = Value.int .i64 (IntKind.wrap .i64 (Int.ofNat (i + 1)))).trans (by rw [hw]), trivial⟩)
  · intro hlt
    have hlt : i = 1024 := Nat.le_antisymm hi (no_nat (b := 1024) hlt)
    subst hlt
    refine ok_go 0 ?_
    exact sy_done 0 (v := .slice oa (lst f 1024).length oc) (h := g) (by kernel_rfl) ⟨q, hos, W⟩
theorem lst_rd {h g : Hp} {f : Nat → Bool} {n q : Nat} (W : Sto h g (oent q 3 ((lst f n).map J))) : Rds g (oslV q (lst f n).length) ((lst f n).map J) := by
  have := osl_rd (H := g) (e := 3) (i := q) (zs := (lst f n).map J) fun p hp => (W.all p hp).2
  rwa [List.length_map] at this
end Go.Proofs.YtkfbfgcflnkllaaGreatDoor
namespace Go.Proofs.YtkfbfgcflnkllaaGreatDoor
open Go Go.Eng Nim
set_option maxRecDepth 100000
set_option maxHeartbeats 8000000
theorem rep_cells (n : Nat) (v : Value) : List.replicate n v = cellsF n fun _ => v := by
  unfold cellsF
  rw [List.map_const', List.length_range]
theorem mkB (n : Nat) (hn : n ≤ 1024) (h : Hp) : makeSliceOp Tryz.prog h 37 (J n) (J n) = some (.slice (some ⟨h.next, 0, none⟩) n (2 * n), h.new (.cells (cellsF n fun _ => .bool false) 4 false)) := by
  rw [← rep_cells]
  exact mk37 n (by unfold Eng.most; omega) h
theorem rem_u (x : Int) (N : Nat) (hN : 0 < N) (hN2 : N < 2 ^ 62) : ∃ k, k < N ∧ (IntKind.wrap .u64 x).tmod (IntKind.wrap .u64 (Int.ofNat N)) = Int.ofNat k := by
  obtain ⟨u, hu⟩ : ∃ u : Nat, IntKind.wrap .u64 x = Int.ofNat u := Int.eq_ofNat_of_zero_le (by
    show 0 ≤ x % 2 ^ 64
    exact Int.emod_nonneg _ (by decide))
  have h2 : IntKind.wrap .u64 (Int.ofNat N) = Int.ofNat N := Int.emod_eq_of_lt (Int.natCast_nonneg _) (show ((N : Nat) : Int) < 18446744073709551616 by omega)
  exact ⟨u % N, Nat.mod_lt _ hN, by rw [hu, h2]; rfl⟩
theorem wrap_ne (N : Nat) (hN : 0 < N) (hN2 : N < 2 ^ 62) : IntKind.wrap .u64 (Int.ofNat N) ≠ 0 := by
  have h2 : IntKind.wrap .u64 (Int.ofNat N) = Int.ofNat N := Int.emod_eq_of_lt (Int.natCast_nonneg _) (show ((N : Nat) : Int) < 18446744073709551616 by omega)
  rw [h2]
  exact fun h => by have : N = 0 := Int.ofNat.inj h; omega
theorem tame_of (lf m : Nat) (hlf : 2000 ≤ lf) (n most : Nat) (hn : n ≤ 10) (hm : most ≤ 1000) (zs : List Int) (hzs : zs.length < 2 ^ 63) (v : Value) (h : Hp) (hv : Rds h v (zs.map I)) :
    ∃ v' h', Ev lf (m + 1) 20 [J n, v, J most] h = some (v', h') ∧ ∃ f q, v' = oslV q (lst f (2 ^ n)).length ∧ Sto h h' (oent q 3 ((lst f (2 ^ n)).map J)) := by
  refine fnS_ok (Q := fun v' h' => ∃ f q, v' = oslV q (lst f (2 ^ n)).length ∧ Sto h h' (oent q 3 ((lst f (2 ^ n)).map J))) ?_
  have hsh := one_shl n (by omega)
  have h2n : 2 ^ n ≤ 1024 := Nat.pow_le_pow_right (by decide) hn
  have hpos := Nat.two_pow_pos n
  obtain ⟨va, vc, hvs⟩ := hv.shape
  rw [List.length_map] at hvs
  subst hvs
  have W := Sto.start h
  refine ok_go 2 ?_
  refine sy_call 0 (r := makeSliceOp Tryz.prog h 37 (I (IntKind.i64.wrap (1 * 2 ^ min (IntKind.u64.wrap (Int.ofNat n)).toNat IntKind.i64.bits))) (I (IntKind.i64.wrap (1 * 2 ^ min (IntKind.u64.wrap (Int.ofNat n)).toNat IntKind.i64.bits)))) (by kernel_rfl) (by rw [hsh]; exact mkB (2 ^ n) h2n h) ?_
  have W := W.new (.cells (cellsF (2 ^ n) fun _ => .bool false) 4 false)
  generalize h.new (.cells (cellsF (2 ^ n) fun _ => .bool false) 4 false) = h1 at *
  refine ok_go 0 ?_
  refine sy_loop 0 lf h1 (α := Nat × (Nat → Bool)) (fun x => [(1, .slice va zs.length vc), (2, J most), (7, .slice (some ⟨h.next, 0, none⟩) (2 ^ n) (2 * 2 ^ n)), (8, J x.1)]) (fun x g => x.1 ≤ most ∧ Sto h g [(h.next, .cells (cellsF (2 ^ n) fun k => .bool (x.2 k)) 4 false)]) (fun x _ => most - x.1) (0, fun _ => false) (by kernel_rfl) (by kernel_rfl)
    ⟨by kernel_rfl, by kernel_rfl, by kernel_rfl, by kernel_rfl, trivial⟩ (show most - 0 < lf by omega) ⟨Nat.zero_le _, W⟩ ?_
  clear W
  rintro m1 ⟨i, f⟩ F1 g ⟨hi, W⟩ ih
  dsimp only at hi W
  have hw : IntKind.wrap .i64 (Int.ofNat (i + 1)) = Int.ofNat (i + 1) := wrap_nat (by omega)
  refine ok_go 2 ?_
  by_cases h1 : i < zs.length
  · refine sy_yes 0 (b := decide (Int.ofNat i < Int.ofNat zs.length)) (by kernel_rfl) (decide_eq_true (by show (i : Int) < (zs.length : Int); omega)) ?_
    refine ok_go 4 ?_
    by_cases h2 : i < most
    · refine sy_yes 0 (b := decide (Int.ofNat i < Int.ofNat most)) (by kernel_rfl) (decide_eq_true (by show (i : Int) < (most : Int); omega)) ?_
      obtain ⟨p, hp1, hp2⟩ := rdI (hv.ext W.ext) h1
      generalize zs[i] = x at *
      obtain ⟨k, hk, hrem⟩ := rem_u x (2 ^ n) hpos (by omega)
      refine ok_go 0 ?_
      refine sy_load 0 (r := indexAddrOp Tryz.prog 28 (.slice va zs.length vc) (J i)) (h' := g) (by kernel_rfl) hp1 ?_
      refine ok_go 0 ?_
      refine sy_load 0 (r := loadT Tryz.prog g 3 p) (h' := g) (by kernel_rfl) hp2 ?_
      refine ok_go 3 ?_
      refine sy_load 0 (r := pureX (binOp .rem 36 (.int .u64 (IntKind.wrap .u64 x)) (.int .u64 (IntKind.wrap .u64 (Int.ofNat (2 ^ n)))))) (h' := g) (by kernel_rfl) (x_rem (wrap_ne (2 ^ n) hpos (by omega))) ?_
      refine ok_go 0 ?_
      refine sy_load 0 (r := indexAddrOp Tryz.prog 37 (.slice (some ⟨h.next, 0, none⟩) (2 ^ n) (2 * 2 ^ n)) (.int .u64 ((IntKind.wrap .u64 x).tmod (IntKind.wrap .u64 (Int.ofNat (2 ^ n)))))) (h' := g) (v := ptr h.next k) (by kernel_rfl) (by rw [hrem]; exact idxS0 (e := 4) (by kernel_rfl) zB hk) ?_
      refine ok_go 0 ?_
      refine ow_storeF (P := Tryz.prog) (T := 4) (v := .bool true) 0 0 W rfl hk zB rfl (by kernel_rfl) fun g2 ng2 W => ?_
      rw [mk97_set] at W
      refine ok_go 1 ?_
      exact sy_next 0 _ g2 (by kernel_rfl) (by kernel_rfl) (ih (i + 1, fun j => if j = k then true else f j) _ g2 ⟨h2, W⟩ (show most - (i + 1) < most - i by omega) ⟨by kernel_rfl, by kernel_rfl, by kernel_rfl, (by kernel_rfl : _ = Value.int .i64 (IntKind.wrap .i64 (Int.ofNat (i + 1)))).trans (by rw [hw]), trivial⟩)
    · refine sy_no 0 (b := decide (Int.ofNat i < Int.ofNat most)) (by kernel_rfl) (decide_eq_false (by show ¬ (i : Int) < (most : Int); omega)) ?_
      refine ok_go 0 ?_
      refine sy_loop 0 lf g (α := Nat × Nat × Option Addr × Nat) (fun x => [(7, .slice (some ⟨h.next, 0, none⟩) (2 ^ n) (2 * 2 ^ n)), (9, .slice x.2.2.1 (lst f x.1).length x.2.2.2), (10, J x.1)]) (fun x g => x.1 ≤ 2 ^ n ∧ .slice x.2.2.1 (lst f x.1).length x.2.2.2 = oslV x.2.1 (lst f x.1).length ∧ Sto h g ((h.next, .cells (cellsF (2 ^ n) fun k => .bool (f k)) 4 false) :: oent x.2.1 3 ((lst f x.1).map J))) (fun x _ => 2 ^ n - x.1) (0, 0, none, 0) (by kernel_rfl) (by kernel_rfl)
        ⟨by kernel_rfl, by kernel_rfl, by kernel_rfl, trivial⟩ (show 2 ^ n - 0 < lf by omega) ⟨Nat.zero_le _, rfl, W⟩ ?_
      clear W
      rintro m2 ⟨k, q, oa, oc⟩ F2 g2 ⟨hk, hos, W⟩ ih2
      dsimp only at hk hos W
      have hw2 : IntKind.wrap .i64 (Int.ofNat (k + 1)) = Int.ofNat (k + 1) := wrap_nat (by omega)
      have hll := lst_len f k
      have hls := lst_succ f k
      refine ok_go 2 ?_
      refine sy_test 0 (decide (Int.ofNat k < Int.ofNat (2 ^ n))) (by kernel_rfl) ?_ ?_
      · intro hlt
        have hlt : k < 2 ^ n := ok_nat hlt
        refine ok_go 0 ?_
        refine sy_load 0 (r := indexAddrOp Tryz.prog 37 (.slice (some ⟨h.next, 0, none⟩) (2 ^ n) (2 * 2 ^ n)) (J k)) (h' := g2) (v := ptr h.next k) (by kernel_rfl) (idxS0 (e := 4) (by kernel_rfl) zB hlt) ?_
        refine ok_go 0 ?_
        refine ow_loadF (P := Tryz.prog) (T := 4) 0 0 W rfl hlt agB (by kernel_rfl) ?_
        refine ok_go 0 ?_
        cases hf : f k with
        | true =>
          rw [hf, if_pos rfl] at hls
          generalize lst f k = L at *
          refine ow_new 1 W (AObj.cells [Value.int IntKind.i64 (Int.ofNat (Prod.fst (k, q, oa, oc)))] 3 false) (fun q => Value.slice (some { block := q, off := 0 }) 1 2) (by kernel_rfl) fun k1 nk1 Wk1 => ?_
          have W := Wk1
          have W : Sto h k1 ((g2.next, .cells [J k] 3 false) :: ([(h.next, .cells (cellsF (2 ^ n) fun k => .bool (f k)) 4 false)] ++ oent q 3 (L.map J))) := W
          refine ow_app (P := Tryz.prog) (t := 28) (e := 3) (z := 1) (c := L.length) (i := q) 0 W slz28 (by rw [List.length_map, Nat.mul_one]) rfl rfl (by omega) (by rw [← hos]; kernel_rfl) fun k2 sl nk2 hsl hsc W => ?_
          obtain ⟨oa2, oc2, ho2⟩ := osl_shape k1.next (L.length + 1)
          rw [ho2] at hsl
          subst hsl
          have W : Sto h k2 ((h.next, .cells (cellsF (2 ^ n) fun k => .bool (f k)) 4 false) :: oent k1.next 3 ((L ++ [k]).map J)) := by rw [List.map_append]; exact W
          refine ok_go 1 ?_
          exact sy_next 0 _ k2 (by kernel_rfl) (by kernel_rfl) (ih2 (k + 1, k1.next, oa2, oc2) _ k2 ⟨hlt, by dsimp only; rw [hls, List.length_append]; exact ho2.symm, by dsimp only; rw [hls]; exact W⟩ (show 2 ^ n - (k + 1) < 2 ^ n - k by omega) ⟨by kernel_rfl, (by kernel_rfl : _ = Value.slice oa2 (L.length + 1) oc2).trans (by dsimp only; rw [hls, List.length_append]; rfl), (by kernel_rfl : _ = Value.int .i64 (IntKind.wrap .i64 (Int.ofNat (k + 1)))).trans (by rw [hw2]), trivial⟩)
        | false =>
          rw [hf, if_neg Bool.false_ne_true] at hls
          generalize lst f k = L at *
          refine ok_go 2 ?_
          exact sy_next 0 _ g2 (by kernel_rfl) (by kernel_rfl) (ih2 (k + 1, q, oa, oc) _ g2 ⟨hlt, by dsimp only; rw [hls]; exact hos, by dsimp only; rw [hls]; exact W⟩ (show 2 ^ n - (k + 1) < 2 ^ n - k by omega) ⟨by kernel_rfl, (by kernel_rfl : _ = Value.slice oa L.length oc).trans (by dsimp only; rw [hls]), (by kernel_rfl : _ = Value.int .i64 (IntKind.wrap .i64 (Int.ofNat (k + 1)))).trans (by rw [hw2]), trivial⟩)
      · intro hlt
        have hlt : k = 2 ^ n := Nat.le_antisymm hk (no_nat hlt)
        subst hlt
        refine ok_go 0 ?_
        exact sy_done 0 (v := .slice oa (lst f (2 ^ n)).length oc) (h := g2) (by kernel_rfl) ⟨f, q, hos, W.drop 1⟩
  · refine sy_no 0 (b := decide (Int.ofNat i < Int.ofNat zs.length)) (by kernel_rfl) (decide_eq_false (by show ¬ (i : Int) < (zs.length : Int); omega)) ?_
    refine ok_go 4 ?_
    refine sy_loop 0 lf g (α := Nat × Nat × Option Addr × Nat) (fun x => [(7, .slice (some ⟨h.next, 0, none⟩) (2 ^ n) (2 * 2 ^ n)), (9, .slice x.2.2.1 (lst f x.1).length x.2.2.2), (10, J x.1)]) (fun x g => x.1 ≤ 2 ^ n ∧ .slice x.2.2.1 (lst f x.1).length x.2.2.2 = oslV x.2.1 (lst f x.1).length ∧ Sto h g ((h.next, .cells (cellsF (2 ^ n) fun k => .bool (f k)) 4 false) :: oent x.2.1 3 ((lst f x.1).map J))) (fun x _ => 2 ^ n - x.1) (0, 0, none, 0) (by kernel_rfl) (by kernel_rfl)
      ⟨by kernel_rfl, by kernel_rfl, by kernel_rfl, trivial⟩ (show 2 ^ n - 0 < lf by omega) ⟨Nat.zero_le _, rfl, W⟩ ?_
    clear W
    rintro m2 ⟨k, q, oa, oc⟩ F2 g2 ⟨hk, hos, W⟩ ih2
    dsimp only at hk hos W
    have hw2 : IntKind.wrap .i64 (Int.ofNat (k + 1)) = Int.ofNat (k + 1) := wrap_nat (by omega)
    have hll := lst_len f k
    have hls := lst_succ f k
    refine ok_go 2 ?_
    refine sy_test 0 (decide (Int.ofNat k < Int.ofNat (2 ^ n))) (by kernel_rfl) ?_ ?_
    · intro hlt
      have hlt : k < 2 ^ n := ok_nat hlt
      refine ok_go 0 ?_
      refine sy_load 0 (r := indexAddrOp Tryz.prog 37 (.slice (some ⟨h.next, 0, none⟩) (2 ^ n) (2 * 2 ^ n)) (J k)) (h' := g2) (v := ptr h.next k) (by kernel_rfl) (idxS0 (e := 4) (by kernel_rfl) zB hlt) ?_
      refine ok_go 0 ?_
      refine ow_loadF (P := Tryz.prog) (T := 4) 0 0 W rfl hlt agB (by kernel_rfl) ?_
      refine ok_go 0 ?_
      cases hf : f k with
      | true =>
        rw [hf, if_pos rfl] at hls
        generalize lst f k = L at *
        refine ow_new 1 W (AObj.cells [Value.int IntKind.i64 (Int.ofNat (Prod.fst (k, q, oa, oc)))] 3 false) (fun q => Value.slice (some { block := q, off := 0 }) 1 2) (by kernel_rfl) fun k1 nk1 Wk1 => ?_
        have W := Wk1
        have W : Sto h k1 ((g2.next, .cells [J k] 3 false) :: ([(h.next, .cells (cellsF (2 ^ n) fun k => .bool (f k)) 4 false)] ++ oent q 3 (L.map J))) := W
        refine ow_app (P := Tryz.prog) (t := 28) (e := 3) (z := 1) (c := L.length) (i := q) 0 W slz28 (by rw [List.length_map, Nat.mul_one]) rfl rfl (by omega) (by rw [← hos]; kernel_rfl) fun k2 sl nk2 hsl hsc W => ?_
        obtain ⟨oa2, oc2, ho2⟩ := osl_shape k1.next (L.length + 1)
        rw [ho2] at hsl
        subst hsl
        have W : Sto h k2 ((h.next, .cells (cellsF (2 ^ n) fun k => .bool (f k)) 4 false) :: oent k1.next 3 ((L ++ [k]).map J)) := by rw [List.map_append]; exact W
        refine ok_go 1 ?_
        exact sy_next 0 _ k2 (by kernel_rfl) (by kernel_rfl) (ih2 (k + 1, k1.next, oa2, oc2) _ k2 ⟨hlt, by dsimp only; rw [hls, List.length_append]; exact ho2.symm, by dsimp only; rw [hls]; exact W⟩ (show 2 ^ n - (k + 1) < 2 ^ n - k by omega) ⟨by kernel_rfl, (by kernel_rfl : _ = Value.slice oa2 (L.length + 1) oc2).trans (by dsimp only; rw [hls, List.length_append]; rfl), (by kernel_rfl : _ = Value.int .i64 (IntKind.wrap .i64 (Int.ofNat (k + 1)))).trans (by rw [hw2]), trivial⟩)
      | false =>
        rw [hf, if_neg Bool.false_ne_true] at hls
        generalize lst f k = L at *
        refine ok_go 2 ?_
        exact sy_next 0 _ g2 (by kernel_rfl) (by kernel_rfl) (ih2 (k + 1, q, oa, oc) _ g2 ⟨hlt, by dsimp only; rw [hls]; exact hos, by dsimp only; rw [hls]; exact W⟩ (show 2 ^ n - (k + 1) < 2 ^ n - k by omega) ⟨by kernel_rfl, (by kernel_rfl : _ = Value.slice oa L.length oc).trans (by dsimp only; rw [hls]), (by kernel_rfl : _ = Value.int .i64 (IntKind.wrap .i64 (Int.ofNat (k + 1)))).trans (by rw [hw2]), trivial⟩)
    · intro hlt
      have hlt : k = 2 ^ n := Nat.le_antisymm hk (no_nat hlt)
      subst hlt
      refine ok_go 0 ?_
      exact sy_done 0 (v := .slice oa (lst f (2 ^ n)).length oc) (h := g2) (by kernel_rfl) ⟨f, q, hos, W.drop 1⟩
end Go.Proofs.YtkfbfgcflnkllaaGreatDoor
namespace Go.Proofs.YtkfbfgcflnkllaaGreatDoor
open Go Go.Eng Nim
set_option maxRecDepth 100000
set_option maxHeartbeats 8000000
def stS (up : Bool) (B s : Nat) (f : Nat → Bool) : Nat → Bool := if s &&& B = 0 then (if up then fun j => if j = s ||| B then (f (s ||| B) || f s) else f j else fun j => if j = s then (f s || f (s ||| B)) else f j) else f
def innS (up : Bool) (B : Nat) (f : Nat → Bool) : Nat → Nat → Bool
  | 0 => f
  | s + 1 => stS up B s (innS up B f s)
def cloS (up : Bool) (N : Nat) (f : Nat → Bool) : Nat → Nat → Bool
  | 0 => f
  | i + 1 => innS up (2 ^ i) (cloS up N f i) N
theorem lst_mem {f : Nat → Bool} {n x : Nat} : x ∈ lst f n ↔ x < n ∧ f x = true := by
  unfold lst
  rw [List.mem_filter, List.mem_range]
theorem lst_rise (f : Nat → Bool) (n : Nat) : (lst f n).Pairwise (· < ·) := by
  unfold lst
  exact List.Pairwise.filter _ List.pairwise_lt_range
theorem chk_lst (lf m : Nat) (hlf : 2000 ≤ lf) (n : Nat) (hn : n ≤ 10) (f : Nat → Bool) (v : Value) (h : Hp) (hv : Rds h v ((lst f (2 ^ n)).map J)) : Ev lf (m + 1) 57 [J n, v] h = some (J 0, h) := by
  have h2n : 2 ^ n ≤ 1024 := Nat.pow_le_pow_right (by decide) hn
  have hll := lst_len f (2 ^ n)
  obtain ⟨e, he, e1⟩ := chk_of lf m (Int.ofNat n) ((lst f (2 ^ n)).map Int.ofNat) (by rw [List.length_map]; omega) (by rw [List.length_map]; omega) v h (by rw [List.map_map]; exact hv)
  have h0 : FamR (Int.ofNat n) ((lst f (2 ^ n)).map Int.ofNat) 0 := by
    refine .inr ⟨n, rfl, hn, .inr ⟨rfl, ?_⟩⟩
    intro i hi hbad
    rw [List.length_map] at hi
    have hget : ∀ k (hk : k < (lst f (2 ^ n)).length), ((lst f (2 ^ n)).map Int.ofNat).getD k 0 = Int.ofNat (lst f (2 ^ n))[k] := fun k hk => by
      rw [List.getD_eq_getElem?_getD, List.getElem?_map, List.getElem?_eq_getElem hk]
      rfl
    have hlt := (lst_mem.1 (List.getElem_mem hi)).1
    have hp2 : (2 : Int) ^ n = Int.ofNat (2 ^ n) := by simp
    rcases hbad with hb | hb
    · rw [hget i hi] at hb
      unfold lastI at hb
      split at hb
      · have : Int.ofNat (lst f (2 ^ n))[i] ≥ 0 := Int.natCast_nonneg _
        omega
      · have hr := List.pairwise_iff_getElem.1 (lst_rise f (2 ^ n)) (i - 1) i (by omega) hi (by omega)
        rw [hget (i - 1) (by omega)] at hb
        have : (lst f (2 ^ n))[i] ≤ (lst f (2 ^ n))[i - 1] := Int.ofNat_le.1 hb
        omega
    · rw [hget i hi, hp2] at hb
      have : 2 ^ n ≤ (lst f (2 ^ n))[i] := Int.ofNat_le.1 hb
      omega
  rw [he.uniq h0] at e1
  exact e1
theorem clos_of (lf m : Nat) (hlf : 2000 ≤ lf) (n : Nat) (hn : n ≤ 10) (up : Bool) (f : Nat → Bool) (v : Value) (h : Hp) (hv : Rds h v ((lst f (2 ^ n)).map J)) :
    ∃ v' h', Ev lf (m + 2) 19 [J n, v, .bool up] h = some (v', h') ∧ ∃ q, v' = .tuple #[oslV q (lst (cloS up (2 ^ n) (fun k => decide (k ∈ lst f (2 ^ n))) n) 1024).length, J 0] ∧ Sto h h' (oent q 3 ((lst (cloS up (2 ^ n) (fun k => decide (k ∈ lst f (2 ^ n))) n) 1024).map J)) := by
  refine fnS_ok (Q := fun v' h' => ∃ q, v' = .tuple #[oslV q (lst (cloS up (2 ^ n) (fun k => decide (k ∈ lst f (2 ^ n))) n) 1024).length, J 0] ∧ Sto h h' (oent q 3 ((lst (cloS up (2 ^ n) (fun k => decide (k ∈ lst f (2 ^ n))) n) 1024).map J))) ?_
  have hsh := one_shl n (by omega)
  have h2n : 2 ^ n ≤ 1024 := Nat.pow_le_pow_right (by decide) hn
  have hll := lst_len f (2 ^ n)
  have e1 := chk_lst lf m hlf n hn f v h hv
  obtain ⟨_, h1, e2, rfl, X1⟩ := marked_of lf m hlf (lst f (2 ^ n)) (by omega) (fun x hx => by have := (lst_mem.1 hx).1; omega) v h hv
  obtain ⟨va, vc, hvs⟩ := hv.shape
  rw [List.length_map] at hvs
  subst hvs
  have W := (Sto.start h).call X1
  generalize hL : lst f (2 ^ n) = L at *
  generalize hF : (fun i => decide (i ∈ L)) = f at *
  have hMl : (mk97 f).length = 1024 := cellsF_len ..
  refine ok_go 0 ?_
  refine sy_call 0 (by kernel_rfl) e1 ?_
  refine ok_go 2 ?_
  generalize hMM : mk97 f = MM at *
  refine sy_call 0 (by kernel_rfl) e2 ?_
  refine ok_go 0 ?_
  refine ow_new 0 W (.cells (mk97 fun _ => false) 97 false) (fun i => ptr i 0) (by kernel_rfl) fun h2 nh2 W => ?_
  generalize h1.next = b at *
  refine ok_go 0 ?_
  refine ow_storeA (P := Tryz.prog) (T := 97) (v := .agg MM.toArray) 0 0 W MM rfl rfl (by rw [hMl]; exact (cellsF_len ..).symm) (by rw [hMl]; kernel_rfl) (by rw [← hMM]; exact mk97_sc _) (by kernel_rfl) fun h3 nh3 W => ?_
  rw [← hMM] at W
  have W : Sto h h3 [(b, .cells (mk97 (cloS up (2 ^ n) f 0)) 97 false)] := W
  refine ok_go 0 ?_
  refine sy_loop 0 lf h3 (α := Nat) (fun i => [(0, J n), (2, .bool up), (9, ptr b 0), (21, J n), (22, J i)]) (fun i g => i ≤ n ∧ Sto h g [(b, .cells (mk97 (cloS up (2 ^ n) f i)) 97 false)]) (fun i _ => n - i) 0 (by kernel_rfl) (by kernel_rfl)
    ⟨by kernel_rfl, by kernel_rfl, by kernel_rfl, by kernel_rfl, by kernel_rfl, trivial⟩ (show n - 0 < lf by omega) ⟨Nat.zero_le _, W⟩ ?_
  clear W e1 e2 nh2 nh3 X1 hMM
  rintro m1 i F1 g ⟨hi, W⟩ ih
  have hw : IntKind.wrap .i64 (Int.ofNat (i + 1)) = Int.ofNat (i + 1) := wrap_nat (by omega)
  refine ok_go 1 ?_
  refine sy_test 0 (decide (Int.ofNat i < Int.ofNat n)) (by kernel_rfl) ?_ ?_
  · intro hlt
    have hlt : i < n := ok_nat hlt
    have hshi := one_shl i (by omega)
    have h2i : 2 ^ i < 2 ^ n := Nat.pow_lt_pow_right (by decide) hlt
    refine ok_go 4 ?_
    refine sy_loop 0 lf g (α := Nat) (fun s => [(0, J n), (2, .bool up), (9, ptr b 0), (21, J n), (22, J i), (11, J (2 ^ i)), (30, I (IntKind.i64.wrap (1 * 2 ^ min (IntKind.u64.wrap (Int.ofNat n)).toNat IntKind.i64.bits))), (31, J s)]) (fun s g => s ≤ 2 ^ n ∧ Sto h g [(b, .cells (mk97 (innS up (2 ^ i) (cloS up (2 ^ n) f i) s)) 97 false)]) (fun s _ => 2 ^ n - s) 0 (by kernel_rfl) (by kernel_rfl)
      ⟨by kernel_rfl, by kernel_rfl, by kernel_rfl, by kernel_rfl, by kernel_rfl, (by kernel_rfl : _ = Value.int .i64 (IntKind.i64.wrap (1 * 2 ^ min (IntKind.u64.wrap (Int.ofNat i)).toNat IntKind.i64.bits))).trans (by rw [hshi]), by kernel_rfl, by kernel_rfl, trivial⟩ (show 2 ^ n - 0 < lf by omega) ⟨Nat.zero_le _, W⟩ ?_
    clear W
    rintro m2 s F2 g2 ⟨hs, W⟩ ihs
    have hws : IntKind.wrap .i64 (Int.ofNat (s + 1)) = Int.ofNat (s + 1) := wrap_nat (by omega)
    refine ok_go 1 ?_
    refine sy_test 0 (decide (Int.ofNat s < IntKind.i64.wrap (1 * 2 ^ min (IntKind.u64.wrap (Int.ofNat n)).toNat IntKind.i64.bits))) (by kernel_rfl) ?_ ?_
    · intro hlt2
      rw [hsh] at hlt2
      have hlt2 : s < 2 ^ n := ok_nat hlt2
      have han : andI (Int.ofNat s) (Int.ofNat (2 ^ i)) = Int.ofNat (s &&& 2 ^ i) := and_nat (by omega)
      have hor : orI (Int.ofNat s) (Int.ofNat (2 ^ i)) = Int.ofNat (s ||| 2 ^ i) := or_nat (by omega) (by omega)
      have ho10 : s ||| 2 ^ i < 1024 := Nat.lt_of_lt_of_le (Nat.or_lt_two_pow hlt2 h2i) h2n
      have hs10 : s < 1024 := by omega
      refine ok_go 2 ?_
      by_cases hz : s &&& 2 ^ i = 0
      · refine sy_yes 0 (b := decide (andI (Int.ofNat s) (Int.ofNat (2 ^ i)) = 0)) (by kernel_rfl) (decide_eq_true (by rw [han, hz]; rfl)) ?_
        cases up with
        | true =>
          generalize hM : innS true (2 ^ i) (cloS true (2 ^ n) f i) s = M at *
          have hst : innS true (2 ^ i) (cloS true (2 ^ n) f i) (s + 1) = fun j => if j = (s ||| 2 ^ i) then (M (s ||| 2 ^ i) || M s) else M j := by
            rw [← hM]
            show stS true (2 ^ i) s _ = _
            unfold stS
            rw [if_pos hz]
            rfl
          refine ok_go 4 ?_
          refine sy_load 0 (r := indexAddrOp Tryz.prog 97 (ptr b 0) (I (orI (Int.ofNat s) (Int.ofNat (2 ^ i))))) (h' := g2) (v := ptr b (s ||| 2 ^ i)) (by kernel_rfl) (by rw [hor]; exact idxM ho10) ?_
          refine ok_go 0 ?_
          refine ow_loadF (P := Tryz.prog) (T := 4) 0 0 W rfl ho10 agB (by kernel_rfl) ?_
          refine ok_go 0 ?_
          cases hfa : M (s ||| 2 ^ i) with
          | true =>
            rw [hfa, Bool.true_or] at hst
            refine ok_go 4 ?_
            refine sy_load 0 (r := indexAddrOp Tryz.prog 97 (ptr b 0) (I (orI (Int.ofNat s) (Int.ofNat (2 ^ i))))) (h' := g2) (v := ptr b (s ||| 2 ^ i)) (by kernel_rfl) (by rw [hor]; exact idxM ho10) ?_
            refine ok_go 0 ?_
            refine ow_storeF (P := Tryz.prog) (T := 4) (v := .bool true) 0 0 W rfl ho10 zB rfl (by kernel_rfl) fun g3 ng3 W => ?_
            rw [mk97_set] at W
            have W : Sto h g3 [(b, .cells (mk97 (innS true (2 ^ i) (cloS true (2 ^ n) f i) (s + 1))) 97 false)] := by
              rw [hst]
              exact W
            refine ok_go 1 ?_
            exact sy_next 0 _ g3 (by kernel_rfl) (by kernel_rfl) (ihs (s + 1) _ g3 ⟨hlt2, W⟩ (show 2 ^ n - (s + 1) < 2 ^ n - s by omega) ⟨by kernel_rfl, by kernel_rfl, by kernel_rfl, by kernel_rfl, by kernel_rfl, by kernel_rfl, by kernel_rfl, (by kernel_rfl : _ = Value.int .i64 (IntKind.wrap .i64 (Int.ofNat (s + 1)))).trans (by rw [hws]), trivial⟩)
          | false =>
            rw [hfa, Bool.false_or] at hst
            refine ok_go 2 ?_
            refine sy_load 0 (r := indexAddrOp Tryz.prog 97 (ptr b 0) (J s)) (h' := g2) (v := ptr b s) (by kernel_rfl) (idxM hs10) ?_
            refine ok_go 1 ?_
            refine ow_loadF (P := Tryz.prog) (T := 4) 0 0 W rfl hs10 agB (by kernel_rfl) ?_
            refine ok_go 1 ?_
            refine sy_load 0 (r := indexAddrOp Tryz.prog 97 (ptr b 0) (I (orI (Int.ofNat s) (Int.ofNat (2 ^ i))))) (h' := g2) (v := ptr b (s ||| 2 ^ i)) (by kernel_rfl) (by rw [hor]; exact idxM ho10) ?_
            refine ok_go 0 ?_
            refine ow_storeF (P := Tryz.prog) (T := 4) (v := .bool (M s)) 0 0 W rfl ho10 zB rfl (by kernel_rfl) fun g3 ng3 W => ?_
            rw [mk97_set] at W
            have W : Sto h g3 [(b, .cells (mk97 (innS true (2 ^ i) (cloS true (2 ^ n) f i) (s + 1))) 97 false)] := by
              rw [hst]
              exact W
            refine ok_go 1 ?_
            exact sy_next 0 _ g3 (by kernel_rfl) (by kernel_rfl) (ihs (s + 1) _ g3 ⟨hlt2, W⟩ (show 2 ^ n - (s + 1) < 2 ^ n - s by omega) ⟨by kernel_rfl, by kernel_rfl, by kernel_rfl, by kernel_rfl, by kernel_rfl, by kernel_rfl, by kernel_rfl, (by kernel_rfl : _ = Value.int .i64 (IntKind.wrap .i64 (Int.ofNat (s + 1)))).trans (by rw [hws]), trivial⟩)
        | false =>
          generalize hM : innS false (2 ^ i) (cloS false (2 ^ n) f i) s = M at *
          refine ok_go 4 ?_
          refine sy_yes 0 (b := decide (andI (Int.ofNat s) (Int.ofNat (2 ^ i)) = 0)) (by kernel_rfl) (decide_eq_true (by rw [han, hz]; rfl)) ?_
          have hst : innS false (2 ^ i) (cloS false (2 ^ n) f i) (s + 1) = fun j => if j = s then (M s || M (s ||| 2 ^ i)) else M j := by
            rw [← hM]
            show stS false (2 ^ i) s _ = _
            unfold stS
            rw [if_pos hz]
            rfl
          refine ok_go 0 ?_
          refine sy_load 0 (r := indexAddrOp Tryz.prog 97 (ptr b 0) (J s)) (h' := g2) (v := ptr b s) (by kernel_rfl) (idxM hs10) ?_
          refine ok_go 0 ?_
          refine ow_loadF (P := Tryz.prog) (T := 4) 0 0 W rfl hs10 agB (by kernel_rfl) ?_
          refine ok_go 0 ?_
          cases hfa : M s with
          | true =>
            rw [hfa, Bool.true_or] at hst
            refine ok_go 6 ?_
            refine sy_load 0 (r := indexAddrOp Tryz.prog 97 (ptr b 0) (J s)) (h' := g2) (v := ptr b s) (by kernel_rfl) (idxM hs10) ?_
            refine ok_go 0 ?_
            refine ow_storeF (P := Tryz.prog) (T := 4) (v := .bool true) 0 0 W rfl hs10 zB rfl (by kernel_rfl) fun g3 ng3 W => ?_
            rw [mk97_set] at W
            have W : Sto h g3 [(b, .cells (mk97 (innS false (2 ^ i) (cloS false (2 ^ n) f i) (s + 1))) 97 false)] := by
              rw [hst]
              exact W
            refine ok_go 1 ?_
            exact sy_next 0 _ g3 (by kernel_rfl) (by kernel_rfl) (ihs (s + 1) _ g3 ⟨hlt2, W⟩ (show 2 ^ n - (s + 1) < 2 ^ n - s by omega) ⟨by kernel_rfl, by kernel_rfl, by kernel_rfl, by kernel_rfl, by kernel_rfl, by kernel_rfl, by kernel_rfl, (by kernel_rfl : _ = Value.int .i64 (IntKind.wrap .i64 (Int.ofNat (s + 1)))).trans (by rw [hws]), trivial⟩)
          | false =>
            rw [hfa, Bool.false_or] at hst
            refine ok_go 5 ?_
            refine sy_load 0 (r := indexAddrOp Tryz.prog 97 (ptr b 0) (I (orI (Int.ofNat s) (Int.ofNat (2 ^ i))))) (h' := g2) (v := ptr b (s ||| 2 ^ i)) (by kernel_rfl) (by rw [hor]; exact idxM ho10) ?_
            refine ok_go 1 ?_
            refine ow_loadF (P := Tryz.prog) (T := 4) 0 0 W rfl ho10 agB (by kernel_rfl) ?_
            refine ok_go 1 ?_
            refine sy_load 0 (r := indexAddrOp Tryz.prog 97 (ptr b 0) (J s)) (h' := g2) (v := ptr b s) (by kernel_rfl) (idxM hs10) ?_
            refine ok_go 0 ?_
            refine ow_storeF (P := Tryz.prog) (T := 4) (v := .bool (M (s ||| 2 ^ i))) 0 0 W rfl hs10 zB rfl (by kernel_rfl) fun g3 ng3 W => ?_
            rw [mk97_set] at W
            have W : Sto h g3 [(b, .cells (mk97 (innS false (2 ^ i) (cloS false (2 ^ n) f i) (s + 1))) 97 false)] := by
              rw [hst]
              exact W
            refine ok_go 1 ?_
            exact sy_next 0 _ g3 (by kernel_rfl) (by kernel_rfl) (ihs (s + 1) _ g3 ⟨hlt2, W⟩ (show 2 ^ n - (s + 1) < 2 ^ n - s by omega) ⟨by kernel_rfl, by kernel_rfl, by kernel_rfl, by kernel_rfl, by kernel_rfl, by kernel_rfl, by kernel_rfl, (by kernel_rfl : _ = Value.int .i64 (IntKind.wrap .i64 (Int.ofNat (s + 1)))).trans (by rw [hws]), trivial⟩)
      · have hzI : ¬ andI (Int.ofNat s) (Int.ofNat (2 ^ i)) = 0 := by rw [han]; exact fun h => hz (Int.ofNat.inj h)
        refine sy_no 0 (b := decide (andI (Int.ofNat s) (Int.ofNat (2 ^ i)) = 0)) (by kernel_rfl) (decide_eq_false hzI) ?_
        refine ok_go 4 ?_
        refine sy_no 0 (b := decide (andI (Int.ofNat s) (Int.ofNat (2 ^ i)) = 0)) (by kernel_rfl) (decide_eq_false hzI) ?_
        have W : Sto h g2 [(b, .cells (mk97 (innS up (2 ^ i) (cloS up (2 ^ n) f i) (s + 1))) 97 false)] := by
          show Sto h g2 [(b, .cells (mk97 (stS up (2 ^ i) s _)) 97 false)]
          unfold stS
          rw [if_neg hz]
          exact W
        refine ok_go 1 ?_
        exact sy_next 0 _ g2 (by kernel_rfl) (by kernel_rfl) (ihs (s + 1) _ g2 ⟨hlt2, W⟩ (show 2 ^ n - (s + 1) < 2 ^ n - s by omega) ⟨by kernel_rfl, by kernel_rfl, by kernel_rfl, by kernel_rfl, by kernel_rfl, by kernel_rfl, by kernel_rfl, (by kernel_rfl : _ = Value.int .i64 (IntKind.wrap .i64 (Int.ofNat (s + 1)))).trans (by rw [hws]), trivial⟩)
    · intro hlt2
      rw [hsh] at hlt2
      have hlt2 : s = 2 ^ n := Nat.le_antisymm hs (no_nat hlt2)
      subst hlt2
      refine ok_go 1 ?_
      exact sy_next 0 _ g2 (by kernel_rfl) (by kernel_rfl) (ih (i + 1) _ g2 ⟨hlt, W⟩ (show n - (i + 1) < n - i by omega) ⟨by kernel_rfl, by kernel_rfl, by kernel_rfl, by kernel_rfl, (by kernel_rfl : _ = Value.int .i64 (IntKind.wrap .i64 (Int.ofNat (i + 1)))).trans (by rw [hw]), trivial⟩)
  · intro hlt
    have hlt : i = n := Nat.le_antisymm hi (no_nat hlt)
    subst hlt
    obtain ⟨v4, h4, e4, q, rfl, W4⟩ := list_of lf m hlf (cloS up (2 ^ i) f i) b false g (W.get 0 rfl) (W.all _ List.mem_cons_self).2.1
    obtain ⟨oa, oc, ho⟩ := osl_shape q (lst (cloS up (2 ^ i) f i) 1024).length
    rw [ho] at e4
    refine ok_go 0 ?_
    refine sy_call 0 (by kernel_rfl) e4 ?_
    refine ok_go 0 ?_
    exact sy_done 0 (v := .tuple #[.slice oa (lst (cloS up (2 ^ i) f i) 1024).length oc, J 0]) (h := h4) (by kernel_rfl) ⟨q, by rw [ho], (W.over W4).sub (List.sublist_append_left ..)⟩
end Go.Proofs.YtkfbfgcflnkllaaGreatDoor
namespace Go.Proofs.YtkfbfgcflnkllaaGreatDoor
open Go Go.Eng Nim Oct
def dnC (n : Nat) (A : Nat → Bool) : Prop := ∀ k, k < n → ∀ s, s < 2 ^ n → s.testBit k = false → A (s ^^^ 2 ^ k) = true → A s = true
theorem tb_x (s i k : Nat) : (s ^^^ 2 ^ i).testBit k = (s.testBit k ^^ decide (i = k)) := by
  rw [Nat.testBit_xor, Nat.testBit_two_pow]
theorem tb_xs (s i : Nat) : (s ^^^ 2 ^ i).testBit i = !s.testBit i := by
  rw [tb_x, decide_eq_true rfl, Bool.xor_true]
theorem tb_xn {s i k : Nat} (h : i ≠ k) : (s ^^^ 2 ^ i).testBit k = s.testBit k := by
  rw [tb_x, decide_eq_false h, Bool.xor_false]
theorem x_x (s b : Nat) : s ^^^ b ^^^ b = s := by rw [Nat.xor_assoc, Nat.xor_self, Nat.xor_zero]
theorem x_lt {s k n : Nat} (hs : s < 2 ^ n) (hk : k < n) : s ^^^ 2 ^ k < 2 ^ n := Nat.xor_lt_two_pow hs (Nat.pow_lt_pow_right (by decide) hk)
theorem inn_dn (i : Nat) (f : Nat → Bool) : ∀ s j, innS false (2 ^ i) f s j = (f j || (!j.testBit i && decide (j < s) && f (j ^^^ 2 ^ i)))
  | 0, j => by simp [innS]
  | s + 1, j => by
    show stS false (2 ^ i) s (innS false (2 ^ i) f s) j = _
    unfold stS
    by_cases hz : s &&& 2 ^ i = 0
    · have hb := (and_bit s i).1 hz
      rw [if_pos hz, if_neg Bool.false_ne_true]
      by_cases hj : j = s
      · subst hj
        rw [if_pos rfl, inn_dn i f j j, or_bit hb, inn_dn i f j (j ^^^ 2 ^ i), tb_xs, hb]
        simp
      · rw [if_neg hj, inn_dn i f s j, show decide (j < s + 1) = decide (j < s) from decide_eq_decide.2 (by omega)]
    · have hb : s.testBit i = true := by
        cases h : s.testBit i with
        | true => rfl
        | false => exact absurd ((and_bit s i).2 h) hz
      rw [if_neg hz, inn_dn i f s j]
      by_cases hj : j = s
      · subst hj
        rw [hb]
        simp
      · rw [show decide (j < s + 1) = decide (j < s) from decide_eq_decide.2 (by omega)]
theorem x_comm (s a b : Nat) : s ^^^ a ^^^ b = s ^^^ b ^^^ a := by rw [Nat.xor_assoc, Nat.xor_comm a b, ← Nat.xor_assoc]
theorem clo_dn (n : Nat) (f : Nat → Bool) (hf : ∀ j, f j = true → j < 2 ^ n) : ∀ i, i ≤ n → (∀ j, cloS false (2 ^ n) f i j = true → j < 2 ^ n) ∧ ∀ k, k < i → ∀ s, s < 2 ^ n → s.testBit k = false → cloS false (2 ^ n) f i (s ^^^ 2 ^ k) = true → cloS false (2 ^ n) f i s = true
  | 0, _ => ⟨hf, fun k hk => by omega⟩
  | i + 1, hi => by
    obtain ⟨h1, h2⟩ := clo_dn n f hf i (by omega)
    have hM : ∀ j, cloS false (2 ^ n) f (i + 1) j = (cloS false (2 ^ n) f i j || (!j.testBit i && decide (j < 2 ^ n) && cloS false (2 ^ n) f i (j ^^^ 2 ^ i))) := inn_dn i (cloS false (2 ^ n) f i) (2 ^ n)
    generalize cloS false (2 ^ n) f i = g at *
    generalize cloS false (2 ^ n) f (i + 1) = M at *
    refine ⟨fun j hj => ?_, fun k hk s hs hb hA => ?_⟩
    · rw [hM, Bool.or_eq_true, Bool.and_eq_true, Bool.and_eq_true, decide_eq_true_eq] at hj
      rcases hj with h | ⟨⟨_, h⟩, _⟩
      · exact h1 j h
      · exact h
    · rw [hM, Bool.or_eq_true, Bool.and_eq_true, Bool.and_eq_true, decide_eq_true_eq] at hA ⊢
      by_cases hki : k = i
      · subst hki
        rcases hA with h | ⟨⟨h, _⟩, _⟩
        · exact .inr ⟨⟨by rw [hb]; rfl, hs⟩, h⟩
        · rw [tb_xs, hb] at h; cases h
      · rcases hA with h | ⟨⟨h3, h4⟩, h5⟩
        · exact .inl (h2 k (by omega) s hs hb h)
        · rw [tb_xn hki] at h3
          refine .inr ⟨⟨h3, hs⟩, ?_⟩
          rw [x_comm] at h5
          exact h2 k (by omega) _ (x_lt hs (by omega)) (by rw [tb_xn (fun e => hki e.symm)]; exact hb) h5
/-! Kleitman. -/
def cnt (f : Nat → Bool) : Nat → Nat
  | 0 => 0
  | n + 1 => cnt f n + if f n then 1 else 0
theorem cnt_lst (f : Nat → Bool) : ∀ n, (lst f n).length = cnt f n
  | 0 => rfl
  | n + 1 => by
    rw [lst_succ, cnt, ← cnt_lst f n]
    split <;> simp
theorem cnt_add (f : Nat → Bool) (a : Nat) : ∀ b, cnt f (a + b) = cnt f a + cnt (fun s => f (a + s)) b
  | 0 => rfl
  | b + 1 => by
    rw [← Nat.add_assoc, cnt, cnt_add f a b, cnt, Nat.add_assoc]
theorem cnt_le {f g : Nat → Bool} : ∀ {n}, (∀ s, s < n → f s = true → g s = true) → cnt f n ≤ cnt g n
  | 0, _ => Nat.le_refl _
  | n + 1, h => by
    have h1 := cnt_le (n := n) fun s hs => h s (by omega)
    have h2 := h n (by omega)
    rw [cnt, cnt]
    cases hf : f n with
    | false => simp; omega
    | true => rw [h2 hf]; simp; omega
theorem cnt_congr {f g : Nat → Bool} {n : Nat} (h : ∀ s, s < n → f s = g s) : cnt f n = cnt g n :=
  Nat.le_antisymm (cnt_le fun s hs e => by rw [← h s hs]; exact e) (cnt_le fun s hs e => by rw [h s hs]; exact e)
theorem top_x {s n : Nat} (hs : s < 2 ^ n) : 2 ^ n + s = s ^^^ 2 ^ n := by
  have := Nat.two_pow_add_eq_or_of_lt hs 1
  rw [Nat.mul_one] at this
  rw [this, Nat.or_comm, or_bit (Nat.testBit_lt_two_pow hs)]
end Go.Proofs.YtkfbfgcflnkllaaGreatDoor
namespace Go.Proofs.YtkfbfgcflnkllaaGreatDoor
open Go Go.Eng Nim
set_option maxRecDepth 100000
set_option maxHeartbeats 8000000
end Go.Proofs.YtkfbfgcflnkllaaGreatDoor
namespace Go.Proofs.YtkfbfgcflnkllaaGreatDoor
open Go Go.Eng Nim
set_option maxRecDepth 100000
set_option maxHeartbeats 8000000
def pcF : Nat → Nat → Nat
  | 0, _ => 0
  | k + 1, x => x % 2 + pcF k (x / 2)
end Go.Proofs.YtkfbfgcflnkllaaGreatDoor
namespace Go.Proofs.YtkfbfgcflnkllaaGreatDoor
open Go Go.Eng Nim Go.ChangeShapes
set_option maxRecDepth 100000
section
variable {HH : Type} {enc : TypeId × Value → HH} {B : Prot} {w0 w : World}
theorem cell_block {w : World} {a : Addr} {v : Value} (h : w.cell? a = some v) : ∃ arr e fz, w.heap[a.block]? = some (.cells arr e fz) ∧ a.spot = none ∧ arr[a.off]? = some v := by
  unfold World.cell? at h
  split at h
  · rename_i c e fz hb
    split at h
    · cases h
    · rename_i hs
      refine ⟨c, e, fz, hb, ?_, h⟩
      cases hq : a.spot with
      | none => rfl
      | some q => rw [hq] at hs; simp at hs
  · cases h
theorem add_spot {a : Addr} (h : a.spot = none) (i : Nat) : a.add i = ⟨a.block, a.off + i, none⟩ := by
  obtain ⟨b, o, s⟩ := a
  simp only at h
  subst h
  unfold Addr.add
  split
  · rename_i h0; subst h0; rfl
  · rfl
/-- A slice in memory, as the evaluator sees it: the cells one by one. -/
theorem openCells {E : Env} {h : Hp} (H : HpOK Tryz.prog B w0 E h w) (hB : ∀ k, k < w.heap.size → B.ro k) {a : Addr} {len cap : Nat} (cs : List Value) (hl : cs.length = len) (hc0 : 0 < cap → a.spot = none)
    (hlc : len ≤ cap) (hcell : ∀ i v, cs[i]? = some v → w.cell? (a.add i) = some (con E v)) (hs : scL h.next cs = true) (h1 : ∀ v ∈ cs, scalar v = true) :
    ∃ E' h' v, HpOK Tryz.prog B w0 E' h' w ∧ Agree h.next E E' ∧ h.Ext h' ∧ con E' v = .slice (some a) len cap ∧ sc h'.next v = true ∧ Rds h' v cs ∧ scalar v = true ∧ WfS v := by
  subst hl
  cases cs with
  | nil =>
    refine ⟨E.ext h.next a.block 0, ⟨h.objs, h.next + 1⟩, .slice (some ⟨h.next, a.off, a.spot⟩) 0 (2 * cap), H.bump a.block, Env.ext_agree _ _ _ _, ⟨Nat.le_succ _, fun j _ => rfl⟩, ?_, by simp [sc], ?_, rfl, ?_⟩
    · obtain ⟨b, o, s⟩ := a
      cases s with
      | none => simp [con, conCap]
      | some q =>
        have hc : cap = 0 := Nat.eq_zero_of_not_pos fun hp => by have := hc0 hp; simp at this
        subst hc
        simp [con, conCap, conOff, conSpot]
    · cases hsp : a.spot with
      | none => exact .inr ⟨h.next, a.off, _, rfl, fun hn => absurd rfl hn⟩
      | some q =>
        have hc : cap = 0 := Nat.eq_zero_of_not_pos fun hp => by have := hc0 hp; rw [hsp] at this; cases this
        subst hc
        exact .inl ⟨⟨_, rfl⟩, rfl⟩
    · cases hsp : a.spot with
      | none => exact .inl ⟨rfl, Nat.zero_le _⟩
      | some q =>
        have hc : cap = 0 := Nat.eq_zero_of_not_pos fun hp => by have := hc0 hp; rw [hsp] at this; cases this
        subst hc
        exact .inr ⟨rfl, rfl⟩
  | cons v r =>
    have h0 := hcell 0 v rfl
    have hsp : a.spot = none := hc0 (by simp at hlc; omega)
    obtain ⟨arr, e, fz, hb, _, ha⟩ := cell_block h0
    rw [add_spot hsp] at ha hb
    have ha0 : a.off + 0 < arr.size := (Array.getElem?_eq_some_iff.1 ha).1
    have hR := H.newRo (m := a.block) (off := a.off) (cs := v :: r) (hB _ (Array.getElem?_eq_some_iff.1 hb).1) hb (by omega) (fun i u hu => by
      have hi := hcell i u hu
      obtain ⟨arr', e', fz', hb', _, ha'⟩ := cell_block hi
      rw [add_spot hsp] at hb' ha'
      rw [hb] at hb'
      cases hb'
      exact ha') hs h1
    refine ⟨_, _, .slice (some ⟨h.next, a.off, none⟩) (r.length + 1) (2 * cap), hR, Env.ext_agree _ _ _ _, Hp.Ext.new _ _, ?_, by simp [sc, Hp.new], .inr ⟨h.next, a.off, _, rfl, fun _ => ⟨Nat.lt_succ_self _, ?_⟩⟩, rfl, .inl ⟨rfl, by simp at hlc; omega⟩⟩
    · obtain ⟨b, o, s⟩ := a
      simp only at hsp
      subst hsp
      simp [con, conCap]
    · unfold loadN
      rw [get_new]
      have hble : Nat.ble a.off a.off = true := Nat.ble_eq_true_of_le (Nat.le_refl _)
      simp only [hble, Nat.sub_self, List.drop_zero]
      exact takeN_all (v :: r)
theorem openInts {E : Env} {h : Hp} (H : HpOK Tryz.prog B w0 E h w) (hB : ∀ k, k < w.heap.size → B.ro k) {fuel : Nat} {c : Value} {x : DataW HH × List MemPlace}
    (ht : DataW.trod enc Tryz.prog w 0 (fun _ => true) true fuel 28 [c] = some x) :
    ∃ (E' : Env) (h' : Hp) (v : Value) (r : List Int), HpOK Tryz.prog B w0 E' h' w ∧ Agree h.next E E' ∧ h.Ext h' ∧ con E' v = c ∧ sc h'.next v = true ∧ Rds h' v (r.map I) ∧ scalar v = true ∧ r.length < 2 ^ 63 ∧ WfS v := by
  rcases open_ints (k := .i64) u28 (by kernel_rfl) (by kernel_rfl) ht with ⟨hc, _⟩ | ⟨a, len, cap, zs, hc, _, hlc, hcm, hzl, _, hcell, hwf⟩
  · simp only [List.cons.injEq, and_true] at hc
    subst hc
    exact ⟨E, h, .slice none 0 0, [], H, Agree.refl _ _, Hp.Ext.refl _, by simp [con], rfl, .inl ⟨⟨none, rfl⟩, rfl⟩, rfl, by decide, ⟨rfl, rfl⟩⟩
  · simp only [List.cons.injEq, and_true] at hc
    subst hc
    simp only [if_true] at hzl
    obtain ⟨E', h', v, k1, k2, k3, k4, k5, k6, k7, k8⟩ := openCells H hB (a := a) (len := len) (cap := cap) ((zs.take len).map I) (by simp; omega) (fun hp => by
        have := hcell 0 (by omega)
        obtain ⟨_, _, _, _, h2, _⟩ := cell_block this
        unfold Addr.add at h2
        simpa using h2) hlc (fun i v hv => by
        have hil : i < len ∧ i < zs.length := by
          have := (List.getElem?_eq_some_iff.1 hv).1
          simp at this
          exact ⟨by omega, by omega⟩
        have := hcell i hil.2
        rw [this]
        rw [List.getElem?_map, List.getElem?_take, if_pos hil.1, List.getElem?_eq_getElem hil.2] at hv
        simp only [Option.map_some, Option.some.injEq] at hv
        subst hv
        rw [List.getD_eq_getElem?_getD, List.getElem?_eq_getElem hil.2]
        simp [con]) (by rw [scL_iff]; intro v hv; obtain ⟨z, _, rfl⟩ := List.mem_map.1 hv; rfl) (fun v hv => by obtain ⟨z, _, rfl⟩ := List.mem_map.1 hv; rfl)
    refine ⟨E', h', v, zs.take len, k1, k2, k3, k4, k5, k6, k7, ?_, k8⟩
    have : maxLen = 2 ^ 63 - 1 := rfl
    rw [List.length_take]
    omega
theorem openIntsArg {E : Env} {h : Hp} (H : HpOK Tryz.prog B w0 E h w) (hB : ∀ k, k < w.heap.size → B.ro k) {v0 : Value} {base : Nat} {d : DataW HH} {p : List MemPlace} (hval : Value.okWide Tryz.prog w .any base 28 v0)
    (ht : DataW.Trod enc Tryz.prog w 0 (fun _ => true) true 28 v0 d p) :
    ∃ (E' : Env) (h' : Hp) (xa : Option Addr) (xc : Nat) (zs : List Int), HpOK Tryz.prog B w0 E' h' w ∧ con E' (.slice xa zs.length xc) = v0 ∧ sc h'.next (.slice xa zs.length xc) = true ∧ Rds h' (.slice xa zs.length xc) (zs.map I) ∧ WfS (.slice xa zs.length xc) ∧ zs.length < 2 ^ 63 := by
  obtain ⟨fuel, ht⟩ := ht
  have hsl : ∃ a l c, v0 = .slice a l c := by
    unfold Value.okWide at hval
    rw [u28] at hval
    simp only [Cell.okWide, u28, Cell.ok] at hval
    cases v0 <;> first | exact ⟨_, _, _, rfl⟩ | simp at hval
  obtain ⟨a0, l0, c0, rfl⟩ := hsl
  have hcells : (Value.slice a0 l0 c0).cells.toList = [.slice a0 l0 c0] := rfl
  rw [hcells] at ht
  obtain ⟨E', h', v, r, j1, j2, j3, j4, j5, j6, j7, j8, j9⟩ := openInts H hB ht
  obtain ⟨xa, xc, hs⟩ := j6.shape
  rw [List.length_map] at hs
  subst hs
  exact ⟨E', h', xa, xc, r, j1, j4, j5, j6, j9, j8⟩
end
end Go.Proofs.YtkfbfgcflnkllaaGreatDoor
namespace Go.Proofs.YtkfbfgcflnkllaaGreatDoor
open Go Go.Eng Nim
set_option maxRecDepth 100000
set_option maxHeartbeats 8000000
/-- A set without one of its bits. -/
def clr (s i : Nat) : Nat := if s.testBit i then s ^^^ 2 ^ i else s
theorem andn_nat {x i : Nat} (hx : x < 2 ^ 62) (hi : i < 62) : (BitVec.ofInt 64 (Int.ofNat x) &&& ~~~BitVec.ofInt 64 (Int.ofNat (2 ^ i))).toNat = clr x i := by
  have h2 : 2 ^ i < 2 ^ 62 := Nat.pow_lt_pow_right (by decide) hi
  rw [Nim.ofInt_nat, Nim.ofInt_nat, BitVec.toNat_and, BitVec.toNat_not, BitVec.toNat_ofNat, BitVec.toNat_ofNat, Nat.mod_eq_of_lt (show x < 2 ^ 64 by omega), Nat.mod_eq_of_lt (show 2 ^ i < 2 ^ 64 by omega)]
  apply Nat.eq_of_testBit_eq
  intro j
  rw [Nat.testBit_and, show 2 ^ 64 - 1 - 2 ^ i = 2 ^ 64 - (2 ^ i + 1) by omega, Nat.testBit_two_pow_sub_succ (by omega), Nat.testBit_two_pow]
  have hj : j < 64 ∨ x.testBit j = false := by
    by_cases h : j < 64
    · exact .inl h
    · exact .inr (Nat.testBit_lt_two_pow (Nat.lt_of_lt_of_le (show x < 2 ^ 62 from hx) (Nat.pow_le_pow_right (by decide) (by omega))))
  unfold clr
  by_cases hij : i = j
  · subst hij
    cases ht : x.testBit i with
    | true => simp [Nat.testBit_xor, Nat.testBit_two_pow, ht]
    | false => simp [ht]
  · rcases hj with hj | hj
    · cases ht : x.testBit i <;> simp [Nat.testBit_xor, Nat.testBit_two_pow, hij, hj]
    · cases ht : x.testBit i <;> simp [Nat.testBit_xor, Nat.testBit_two_pow, hij, hj]
theorem clr_lt {s i n : Nat} (hs : s < 2 ^ n) (hi : i < n) : clr s i < 2 ^ n := by
  unfold clr
  split
  · exact Nat.xor_lt_two_pow hs (Nat.pow_lt_pow_right (by decide) hi)
  · exact hs
def anI (x i : Nat) : Int := IntKind.i64.wrap (Int.ofNat (BitVec.ofInt IntKind.i64.bits (Int.ofNat x) &&& ~~~BitVec.ofInt IntKind.i64.bits (IntKind.i64.wrap (1 * 2 ^ min (IntKind.u64.wrap (Int.ofNat i)).toNat IntKind.i64.bits))).toNat)
theorem an_of {x i n : Nat} (hn : n ≤ 10) (hx : x < 2 ^ n) (hi : i < n) : anI x i = Int.ofNat (clr x i) := by
  have h2n : 2 ^ n ≤ 1024 := Nat.pow_le_pow_right (by decide) hn
  unfold anI
  rw [one_shl i (by omega)]
  have h := andn_nat (x := x) (i := i) (by omega) (by omega)
  have h3 := clr_lt hx hi
  show IntKind.i64.wrap (Int.ofNat (BitVec.ofInt 64 (Int.ofNat x) &&& ~~~BitVec.ofInt 64 (Int.ofNat (2 ^ i))).toNat) = _
  rw [h]
  exact wrap_nat (by omega)
end Go.Proofs.YtkfbfgcflnkllaaGreatDoor
namespace Go.Proofs.YtkfbfgcflnkllaaGreatDoor
open Go Go.Eng Nim
set_option maxRecDepth 100000
set_option maxHeartbeats 8000000
def pst (i s : Nat) (M : Nat → Bool) : Nat → Bool := if s.testBit i = true ∧ M s = true ∧ M (clr s i) = false then fun j => if j = clr s i then true else if j = s then false else M j else M
def prn (i : Nat) (f : Nat → Bool) : Nat → Nat → Bool
  | 0 => f
  | s + 1 => pst i s (prn i f s)
theorem press_of (lf m : Nat) (hlf : 2000 ≤ lf) (n : Nat) (hn : n ≤ 10) (f : Nat → Bool) (i : Nat) (hi : i < n) (b : Nat) (l : List (Nat × AObj)) (h0 h : Hp) (W : Sto h0 h ((b, .cells (mk97 f) 97 false) :: l)) :
    ∃ v' h', Ev lf (m + 1) 80 [ptr b 0, J n, J i] h = some (v', h') ∧ (∃ c, v' = .bool c) ∧ Sto h0 h' ((b, .cells (mk97 (prn i f (2 ^ n))) 97 false) :: l) := by
  refine fnS_ok (Q := fun v' h' => (∃ c, v' = .bool c) ∧ Sto h0 h' ((b, .cells (mk97 (prn i f (2 ^ n))) 97 false) :: l)) ?_
  have hsh := one_shl n (by omega)
  have hshi := one_shl i (by omega)
  have h2n : 2 ^ n ≤ 1024 := Nat.pow_le_pow_right (by decide) hn
  have h2i : 2 ^ i < 2 ^ n := Nat.pow_lt_pow_right (by decide) hi
  refine ok_go 4 ?_
  refine sy_loop 0 lf h (α := Nat × Bool) (fun x => [(0, ptr b 0), (7, .bool x.2), (8, I (IntKind.i64.wrap (1 * 2 ^ min (IntKind.u64.wrap (Int.ofNat i)).toNat IntKind.i64.bits))), (15, I (IntKind.i64.wrap (1 * 2 ^ min (IntKind.u64.wrap (Int.ofNat n)).toNat IntKind.i64.bits))), (16, J x.1)]) (fun x g => x.1 ≤ 2 ^ n ∧ Sto h0 g ((b, .cells (mk97 (prn i f x.1)) 97 false) :: l)) (fun x _ => 2 ^ n - x.1) (0, false) (by kernel_rfl) (by kernel_rfl)
    ⟨by kernel_rfl, by kernel_rfl, by kernel_rfl, by kernel_rfl, by kernel_rfl, trivial⟩ (show 2 ^ n - 0 < lf by omega) ⟨Nat.zero_le _, W⟩ ?_
  clear W
  rintro m1 ⟨s, ch⟩ F1 g ⟨hs, W⟩ ih
  dsimp only at hs W
  have hw : IntKind.wrap .i64 (Int.ofNat (s + 1)) = Int.ofNat (s + 1) := wrap_nat (by omega)
  refine ok_go 1 ?_
  refine sy_test 0 (decide (Int.ofNat s < IntKind.i64.wrap (1 * 2 ^ min (IntKind.u64.wrap (Int.ofNat n)).toNat IntKind.i64.bits))) (by kernel_rfl) ?_ ?_
  · intro hlt
    rw [hsh] at hlt
    have hlt : s < 2 ^ n := ok_nat hlt
    have han : andI (Int.ofNat s) (IntKind.i64.wrap (1 * 2 ^ min (IntKind.u64.wrap (Int.ofNat i)).toNat IntKind.i64.bits)) = Int.ofNat (s &&& 2 ^ i) := by rw [hshi]; exact and_nat (by omega)
    have hX := an_of hn hlt hi
    have hcb := clr_lt hlt hi
    have hs10 : s < 1024 := by omega
    have hc10 : clr s i < 1024 := by omega
    have hst : prn i f (s + 1) = pst i s (prn i f s) := rfl
    generalize prn i f s = M at *
    have hno : ¬ (s.testBit i = true ∧ M s = true ∧ M (clr s i) = false) → Sto h0 g ((b, .cells (mk97 (prn i f (s + 1))) 97 false) :: l) := fun hc => by
      rw [hst]
      unfold pst
      rw [if_neg hc]
      exact W
    refine ok_go 2 ?_
    by_cases hz : s &&& 2 ^ i = 0
    · have hb := (and_bit s i).1 hz
      refine sy_no 0 (b := andI (Int.ofNat s) (IntKind.i64.wrap (1 * 2 ^ min (IntKind.u64.wrap (Int.ofNat i)).toNat IntKind.i64.bits)) != 0) (by kernel_rfl) (by rw [han, hz]; rfl) ?_
      have W := hno fun h => by rw [hb] at h; cases h.1
      refine ok_go 16 ?_
      exact sy_next 0 _ g (by kernel_rfl) (by kernel_rfl) (ih (s + 1, ch) _ g ⟨hlt, W⟩ (show 2 ^ n - (s + 1) < 2 ^ n - s by omega) ⟨by kernel_rfl, by kernel_rfl, by kernel_rfl, by kernel_rfl, (by kernel_rfl : _ = Value.int .i64 (IntKind.wrap .i64 (Int.ofNat (s + 1)))).trans (by rw [hw]), trivial⟩)
    · have hb : s.testBit i = true := by
        cases h : s.testBit i with
        | true => rfl
        | false => exact absurd ((and_bit s i).2 h) hz
      refine sy_yes 0 (b := andI (Int.ofNat s) (IntKind.i64.wrap (1 * 2 ^ min (IntKind.u64.wrap (Int.ofNat i)).toNat IntKind.i64.bits)) != 0) (by kernel_rfl) (by rw [han]; exact bne_iff_ne.2 fun h => hz (Int.ofNat.inj h)) ?_
      refine ok_go 4 ?_
      refine sy_load 0 (r := indexAddrOp Tryz.prog 97 (ptr b 0) (J s)) (h' := g) (v := ptr b s) (by kernel_rfl) (idxM hs10) ?_
      refine ok_go 1 ?_
      refine ow_loadF (P := Tryz.prog) (T := 4) 0 0 W rfl hs10 agB (by kernel_rfl) ?_
      refine ok_go 1 ?_
      cases hf : M s with
      | false =>
        have W := hno fun h => by rw [hf] at h; cases h.2.1
        refine ok_go 11 ?_
        exact sy_next 0 _ g (by kernel_rfl) (by kernel_rfl) (ih (s + 1, ch) _ g ⟨hlt, W⟩ (show 2 ^ n - (s + 1) < 2 ^ n - s by omega) ⟨by kernel_rfl, by kernel_rfl, by kernel_rfl, by kernel_rfl, (by kernel_rfl : _ = Value.int .i64 (IntKind.wrap .i64 (Int.ofNat (s + 1)))).trans (by rw [hw]), trivial⟩)
      | true =>
        refine ok_go 8 ?_
        refine sy_load 0 (r := indexAddrOp Tryz.prog 97 (ptr b 0) (I (anI s i))) (h' := g) (v := ptr b (clr s i)) (by kernel_rfl) (by rw [hX]; exact idxM hc10) ?_
        refine ok_go 1 ?_
        refine ow_loadF (P := Tryz.prog) (T := 4) 0 0 W rfl hc10 agB (by kernel_rfl) ?_
        refine ok_go 3 ?_
        cases hg : M (clr s i) with
        | true =>
          have W := hno fun h => by rw [hg] at h; cases h.2.2
          refine ok_go 2 ?_
          exact sy_next 0 _ g (by kernel_rfl) (by kernel_rfl) (ih (s + 1, ch) _ g ⟨hlt, W⟩ (show 2 ^ n - (s + 1) < 2 ^ n - s by omega) ⟨by kernel_rfl, by kernel_rfl, by kernel_rfl, by kernel_rfl, (by kernel_rfl : _ = Value.int .i64 (IntKind.wrap .i64 (Int.ofNat (s + 1)))).trans (by rw [hw]), trivial⟩)
        | false =>
          refine ok_go 3 ?_
          refine sy_load 0 (r := indexAddrOp Tryz.prog 97 (ptr b 0) (J s)) (h' := g) (v := ptr b s) (by kernel_rfl) (idxM hs10) ?_
          refine ok_go 0 ?_
          refine ow_storeF (P := Tryz.prog) (T := 4) (v := .bool false) 0 0 W rfl hs10 zB rfl (by kernel_rfl) fun g2 ng2 W => ?_
          rw [mk97_set] at W
          refine ok_go 1 ?_
          refine sy_load 0 (r := indexAddrOp Tryz.prog 97 (ptr b 0) (I (anI s i))) (h' := g2) (v := ptr b (clr s i)) (by kernel_rfl) (by rw [hX]; exact idxM hc10) ?_
          refine ok_go 0 ?_
          refine ow_storeF (P := Tryz.prog) (T := 4) (v := .bool true) 0 0 W rfl hc10 zB rfl (by kernel_rfl) fun g3 ng3 W => ?_
          rw [mk97_set] at W
          have W : Sto h0 g3 ((b, .cells (mk97 (prn i f (s + 1))) 97 false) :: l) := by
            rw [hst]
            unfold pst
            rw [if_pos ⟨hb, hf, hg⟩]
            exact W
          refine ok_go 1 ?_
          exact sy_next 0 _ g3 (by kernel_rfl) (by kernel_rfl) (ih (s + 1, true) _ g3 ⟨hlt, W⟩ (show 2 ^ n - (s + 1) < 2 ^ n - s by omega) ⟨by kernel_rfl, by kernel_rfl, by kernel_rfl, by kernel_rfl, (by kernel_rfl : _ = Value.int .i64 (IntKind.wrap .i64 (Int.ofNat (s + 1)))).trans (by rw [hw]), trivial⟩)
  · intro hlt
    rw [hsh] at hlt
    have hse : s = 2 ^ n := Nat.le_antisymm hs (no_nat hlt)
    subst hse
    refine ok_go 0 ?_
    exact sy_done 0 (v := .bool ch) (h := g) (by kernel_rfl) ⟨⟨ch, rfl⟩, W⟩
end Go.Proofs.YtkfbfgcflnkllaaGreatDoor
namespace Go.Proofs.YtkfbfgcflnkllaaGreatDoor
open Go Go.Eng Nim
set_option maxRecDepth 100000
set_option maxHeartbeats 8000000
theorem press_ok (lf m : Nat) (hlf : 2000 ≤ lf) (n : Nat) (hn : n ≤ 10) (i : Nat) (hi : i < n) (f : Nat → Bool) (v : Value) (h : Hp) (hv : Rds h v ((lst f (2 ^ n)).map J)) :
    ∃ v' h', Ev lf (m + 2) 38 [J n, v, J i] h = some (v', h') ∧ ∃ q, v' = .tuple #[oslV q (lst (prn i (fun k => decide (k ∈ lst f (2 ^ n))) (2 ^ n)) 1024).length, J 0] ∧ Sto h h' (oent q 3 ((lst (prn i (fun k => decide (k ∈ lst f (2 ^ n))) (2 ^ n)) 1024).map J)) := by
  refine fnS_ok (Q := fun v' h' => ∃ q, v' = .tuple #[oslV q (lst (prn i (fun k => decide (k ∈ lst f (2 ^ n))) (2 ^ n)) 1024).length, J 0] ∧ Sto h h' (oent q 3 ((lst (prn i (fun k => decide (k ∈ lst f (2 ^ n))) (2 ^ n)) 1024).map J))) ?_
  have h2n : 2 ^ n ≤ 1024 := Nat.pow_le_pow_right (by decide) hn
  have hll := lst_len f (2 ^ n)
  have e1 := chk_lst lf m hlf n hn f v h hv
  obtain ⟨_, h1, e2, rfl, X1⟩ := marked_of lf m hlf (lst f (2 ^ n)) (by omega) (fun x hx => by have := (lst_mem.1 hx).1; omega) v h hv
  obtain ⟨va, vc, hvs⟩ := hv.shape
  rw [List.length_map] at hvs
  subst hvs
  have W := (Sto.start h).call X1
  generalize hL : lst f (2 ^ n) = L at *
  generalize hF : (fun i => decide (i ∈ L)) = f at *
  have hMl : (mk97 f).length = 1024 := cellsF_len ..
  refine ok_go 0 ?_
  refine sy_call 0 (by kernel_rfl) e1 ?_
  refine ok_go 8 ?_
  refine sy_no 0 (b := decide (Int.ofNat i ≥ Int.ofNat n)) (by kernel_rfl) (decide_eq_false (by show ¬ (n : Int) ≤ (i : Int); omega)) ?_
  refine ok_go 0 ?_
  generalize hMM : mk97 f = MM at *
  refine sy_call 0 (by kernel_rfl) e2 ?_
  refine ok_go 0 ?_
  refine ow_new 0 W (.cells (mk97 fun _ => false) 97 false) (fun i => ptr i 0) (by kernel_rfl) fun h2 nh2 W => ?_
  generalize h1.next = b at *
  refine ok_go 0 ?_
  refine ow_storeA (P := Tryz.prog) (T := 97) (v := .agg MM.toArray) 0 0 W MM rfl rfl (by rw [hMl]; exact (cellsF_len ..).symm) (by rw [hMl]; kernel_rfl) (by rw [← hMM]; exact mk97_sc _) (by kernel_rfl) fun h3 nh3 W => ?_
  rw [← hMM] at W
  obtain ⟨_, h4, e3, ⟨c, rfl⟩, W⟩ := press_of lf m hlf n hn f i hi b [] h h3 W
  refine ok_go 0 ?_
  refine sy_call 0 (by kernel_rfl) e3 ?_
  obtain ⟨v4, h5, e4, q, rfl, W4⟩ := list_of lf m hlf (prn i f (2 ^ n)) b false h4 (W.get 0 rfl) (W.all _ List.mem_cons_self).2.1
  obtain ⟨oa, oc, ho⟩ := osl_shape q (lst (prn i f (2 ^ n)) 1024).length
  rw [ho] at e4
  refine ok_go 0 ?_
  refine sy_call 0 (by kernel_rfl) e4 ?_
  refine ok_go 0 ?_
  exact sy_done 0 (v := .tuple #[.slice oa (lst (prn i f (2 ^ n)) 1024).length oc, J 0]) (h := h5) (by kernel_rfl) ⟨q, by rw [ho], (W.over W4).sub (List.sublist_append_left ..)⟩
/-! Plain. -/
def prS (i : Nat) (f : Nat → Bool) (j : Nat) : Bool := if j.testBit i then f j && f (j ^^^ 2 ^ i) else f j || f (j ^^^ 2 ^ i)
theorem prn_at (i : Nat) (f : Nat → Bool) : ∀ s j, prn i f s j = if j.testBit i then f j && (f (j ^^^ 2 ^ i) || !decide (j < s)) else f j || (f (j ^^^ 2 ^ i) && decide (j ^^^ 2 ^ i < s))
  | 0, j => by
    show f j = _
    split <;> simp
  | s + 1, j => by
    show pst i s (prn i f s) j = _
    have ih := prn_at i f s
    unfold pst
    by_cases hb : s.testBit i = true
    · have hc : clr s i = s ^^^ 2 ^ i := by unfold clr; rw [if_pos hb]
      have hcb : (s ^^^ 2 ^ i).testBit i = false := by rw [tb_xs, hb]; rfl
      have hM : prn i f s s = f s := by rw [ih, if_pos hb]; simp
      have hM2 : prn i f s (s ^^^ 2 ^ i) = f (s ^^^ 2 ^ i) := by rw [ih, if_neg (by rw [hcb]; exact Bool.false_ne_true), x_x]; simp
      have hne : s ^^^ 2 ^ i ≠ s := fun e => by rw [e, hb] at hcb; cases hcb
      rw [hc, hM, hM2]
      by_cases hj : j = s
      · subst hj
        rw [if_pos hb]
        by_cases hcc : j.testBit i = true ∧ f j = true ∧ f (j ^^^ 2 ^ i) = false
        · rw [if_pos hcc, if_neg (Ne.symm hne), if_pos rfl, hcc.2.2]; simp
        · rw [if_neg hcc, hM]
          cases hf : f j with
          | false => rfl
          | true =>
            cases hf2 : f (j ^^^ 2 ^ i) with
            | true => rfl
            | false => exact absurd ⟨hb, hf, hf2⟩ hcc
      · by_cases hj2 : j = s ^^^ 2 ^ i
        · have hjb : j.testBit i = false := by rw [hj2]; exact hcb
          have hjx : j ^^^ 2 ^ i = s := by rw [hj2, x_x]
          rw [← hj2]
          simp only [hjb, hjx, Bool.false_eq_true, if_false]
          by_cases hcc : s.testBit i = true ∧ f s = true ∧ f j = false
          · rw [if_pos hcc, if_pos rfl, hcc.2.1]; simp
          · rw [if_neg hcc, ih, if_neg (by rw [hjb]; exact Bool.false_ne_true), hjx]
            cases hf : f s with
            | false => simp
            | true =>
              cases hf2 : f j with
              | true => simp
              | false => exact absurd ⟨hb, hf, hf2⟩ hcc
        · have hR : (if s.testBit i = true ∧ f s = true ∧ f (s ^^^ 2 ^ i) = false then fun j => if j = s ^^^ 2 ^ i then true else if j = s then false else prn i f s j else prn i f s) j = prn i f s j := by
            split
            · show (if j = s ^^^ 2 ^ i then true else if j = s then false else prn i f s j) = _
              rw [if_neg hj2, if_neg hj]
            · rfl
          rw [hR, ih, show decide (j < s + 1) = decide (j < s) from decide_eq_decide.2 (by omega), show decide (j ^^^ 2 ^ i < s + 1) = decide (j ^^^ 2 ^ i < s) from decide_eq_decide.2 (by
            have : j ^^^ 2 ^ i ≠ s := fun e => hj2 (by rw [← e, x_x])
            omega)]
    · rw [if_neg fun h => hb h.1, ih]
      by_cases hjb : j.testBit i = true
      · rw [if_pos hjb, if_pos hjb, show decide (j < s + 1) = decide (j < s) from decide_eq_decide.2 (by
          have : j ≠ s := fun e => hb (e ▸ hjb)
          omega)]
      · rw [if_neg hjb, if_neg hjb, show decide (j ^^^ 2 ^ i < s + 1) = decide (j ^^^ 2 ^ i < s) from decide_eq_decide.2 (by
          have : j ^^^ 2 ^ i ≠ s := fun e => by
            have h2 := tb_xs j i
            rw [e] at h2
            cases h3 : j.testBit i with
            | true => exact hjb h3
            | false => rw [h3] at h2; exact hb h2
          omega)]
end Go.Proofs.YtkfbfgcflnkllaaGreatDoor
namespace Go.Proofs.YtkfbfgcflnkllaaGreatDoor
open Go Go.Eng Nim
set_option maxRecDepth 100000
theorem run_equal_bool {P : Program} {d : Nat} {t : TypeId} {a b : Bool} (hu : P.underlying t = some .bool) : pureRun P (Op.equalIn (d + 1) t (.bool a) (.bool b)) = some (a == b) := by
  unfold Op.equalIn
  simp only [underlying, program, bind, Sem.bind, pureRun, hu, pure]
theorem arr_loop {d : Nat} {xs ys : Array Value} (f g : Nat → Bool) : ∀ (n j : Nat), (∀ i, i < n → xs[j + i]? = some (.bool (f (j + i)))) → (∀ i, i < n → ys[j + i]? = some (.bool (g (j + i)))) →
    pureRun Tryz.prog (forIn (List.range' j n) ((none : Option Bool), ()) fun i __s =>
          (part 4 xs (i * 1)).bind fun __do_lift =>
            (part 4 ys (i * 1)).bind fun __do_lift_1 =>
              (Op.equalIn (d + 1) 4 __do_lift __do_lift_1).bind fun __do_lift =>
                if (!__do_lift) = true then Sem.pure (ForInStep.done (some false, ()))
                else Sem.pure (ForInStep.yield (none, ()))) = some (if ∀ i, i < n → f (j + i) = g (j + i) then (none, ()) else (some false, ()))
  | 0, j, _, _ => by
    rw [if_pos fun i hi => by omega]
    rfl
  | n + 1, j, hx, hy => by
    have hv : xs[j * 1]? = some (.bool (f j)) := by rw [Nat.mul_one]; exact hx 0 (by omega)
    have hw : ys[j * 1]? = some (.bool (g j)) := by rw [Nat.mul_one]; exact hy 0 (by omega)
    rw [List.range'_succ, List.forIn_cons]
    simp only [bind]
    simp only [pureRun_bnd, run_part agB hv, run_part agB hw, run_equal_bool (show Tryz.prog.underlying 4 = some .bool by kernel_rfl), Option.bind_some]
    by_cases hac : f j = g j
    · rw [hac]
      simp only [beq_self_eq_true, Bool.not_true, Bool.false_eq_true, if_false, pureRun, Option.bind_some]
      rw [arr_loop f g n (j + 1) (fun i hi => by have := hx (i + 1) (by omega); rwa [show j + (i + 1) = j + 1 + i by omega] at this) (fun i hi => by have := hy (i + 1) (by omega); rwa [show j + (i + 1) = j + 1 + i by omega] at this)]
      congr 1
      by_cases hall : ∀ i, i < n → f (j + 1 + i) = g (j + 1 + i)
      · rw [if_pos hall, if_pos fun i hi => by
          cases i with
          | zero => exact hac
          | succ i => have := hall i (by omega); rwa [show j + 1 + i = j + (i + 1) by omega] at this]
      · rw [if_neg hall, if_neg fun h => hall fun i hi => by have := h (i + 1) (by omega); rwa [show j + (i + 1) = j + 1 + i by omega] at this]
    · have hb : (f j == g j) = false := beq_eq_false_iff_ne.2 hac
      rw [hb]
      simp only [Bool.not_false, if_true, pureRun, Option.bind_some]
      rw [if_neg fun h => hac (h 0 (by omega))]
      rfl
theorem run_equal_arr (f g : Nat → Bool) (N : Nat) (hN : N = 1024) : pureRun Tryz.prog (Op.equal 97 (.agg (mk97 f).toArray) (.agg (mk97 g).toArray)) = some (if ∀ i, i < N → f i = g i then true else false) := by
  unfold Op.equal
  change pureRun Tryz.prog (Op.equalIn (9998 + 1 + 1) 97 (.agg (mk97 f).toArray) (.agg (mk97 g).toArray)) = _
  unfold Op.equalIn
  simp only [underlying, program, bind, Sem.bind, pureRun, u97, pure]
  have hs : pureRun Tryz.prog (sizeOf 4) = some 1 := by kernel_rfl
  rw [pureRun_bnd, hs]
  simp only [Option.bind_some]
  rw [pureRun_bnd, Std.Legacy.Range.forIn_eq_forIn_range']
  have := arr_loop (d := 9998) (xs := (mk97 f).toArray) (ys := (mk97 g).toArray) f g 1024 0 (fun i hi => by rw [Nat.zero_add, List.getElem?_toArray]; exact cellsF_get hi) (fun i hi => by rw [Nat.zero_add, List.getElem?_toArray]; exact cellsF_get hi)
  simp only [Nat.zero_add] at this
  refine (congrArg (fun o => Option.bind o _) this).trans ?_
  subst hN
  split <;> rfl
def eqB (f g : Nat → Bool) (N : Nat) : Bool := if ∀ i, i < N → f i = g i then true else false
theorem eqB_true {f g : Nat → Bool} {N : Nat} (h : ∀ i, i < N → f i = g i) : eqB f g N = true := if_pos h
theorem eqB_false {f g : Nat → Bool} {N : Nat} (h : ¬ ∀ i, i < N → f i = g i) : eqB f g N = false := if_neg h
theorem neq_arr (f g : Nat → Bool) (N : Nat) (hN : N = 1024) : pureX (binOp .neq 97 (.agg (mk97 f).toArray) (.agg (mk97 g).toArray)) = some (.bool (!eqB f g N)) := by
  refine pureX_of ?_ rfl
  have := run_equal_arr f g N hN
  show pureRun Tryz.prog (do pure (Value.bool (!(← Op.equal 97 (.agg (mk97 f).toArray) (.agg (mk97 g).toArray))))) = _
  rw [pureRun_bind]
  rw [this]
  rfl
end Go.Proofs.YtkfbfgcflnkllaaGreatDoor
namespace Go.Proofs.YtkfbfgcflnkllaaGreatDoor
open Go Go.Eng Nim
set_option maxRecDepth 100000
set_option maxHeartbeats 8000000
def prT (f : Nat → Bool) : Nat → Nat → Bool
  | 0 => f
  | i + 1 => prS i (prT f i)
theorem prn_prS {n i : Nat} (hi : i < n) {f : Nat → Bool} (hf : ∀ j, f j = true → j < 2 ^ n) : prn i f (2 ^ n) = prS i f := by
  funext j
  rw [prn_at]
  unfold prS
  by_cases hj : j < 2 ^ n
  · have := x_lt hj hi
    simp [hj, this]
  · have h1 : f j = false := by
      cases h : f j with
      | false => rfl
      | true => exact absurd (hf j h) hj
    have h2 : f (j ^^^ 2 ^ i) = false := by
      cases h : f (j ^^^ 2 ^ i) with
      | false => rfl
      | true =>
        have := x_lt (hf _ h) hi
        rw [x_x] at this
        exact absurd this hj
    simp [h1, h2]
theorem prS_sup {n i : Nat} (hi : i < n) {f : Nat → Bool} (hf : ∀ j, f j = true → j < 2 ^ n) : ∀ j, prS i f j = true → j < 2 ^ n := fun j hj => by
  unfold prS at hj
  split at hj
  · rw [Bool.and_eq_true] at hj; exact hf j hj.1
  · rw [Bool.or_eq_true] at hj
    rcases hj with h | h
    · exact hf j h
    · have := x_lt (hf _ h) hi
      rwa [x_x] at this
theorem prT_sup {n : Nat} {f : Nat → Bool} (hf : ∀ j, f j = true → j < 2 ^ n) : ∀ i, i ≤ n → ∀ j, prT f i j = true → j < 2 ^ n
  | 0, _ => hf
  | i + 1, hi => prS_sup (by omega) (prT_sup hf i (by omega))
/-- The weight of a family: the sum of its sets as numbers. -/
def wt (f : Nat → Bool) : Nat → Nat
  | 0 => 0
  | n + 1 => wt f n + if f n then n else 0
theorem wt_upd (M : Nat → Bool) (s : Nat) (b : Bool) : ∀ n, s < n → wt (fun j => if j = s then b else M j) n + (if M s then s else 0) = wt M n + if b then s else 0
  | 0, h => by omega
  | n + 1, h => by
    have hc : s = n ∨ s < n := by omega
    rw [wt, wt]
    rcases hc with rfl | hc
    · have : ∀ k, k ≤ s → wt (fun j => if j = s then b else M j) k = wt M k := fun k => by
        induction k with
        | zero => intro _; rfl
        | succ k ih => intro hk; rw [wt, wt, ih (by omega), if_neg (show ¬ k = s by omega)]
      rw [this s (Nat.le_refl _), if_pos rfl]
      omega
    · have ih := wt_upd M s b n hc
      rw [if_neg (show ¬ n = s by omega)]
      omega
theorem wt_le (f : Nat → Bool) : ∀ n, wt f n ≤ n * n
  | 0 => Nat.le_refl _
  | n + 1 => by
    have := wt_le f n
    rw [wt]
    have h2 : (n + 1) * (n + 1) = n * n + n + n + 1 := by rw [Nat.add_mul, Nat.mul_add]; omega
    split <;> omega
theorem clr_less {s i : Nat} (h : s.testBit i = true) : clr s i < s := by
  have hc : clr s i = s ^^^ 2 ^ i := by unfold clr; rw [if_pos h]
  have h1 : (s ^^^ 2 ^ i).testBit i = false := by rw [tb_xs, h]; rfl
  have h2 : s = (s ^^^ 2 ^ i) ||| 2 ^ i := by rw [or_bit h1, x_x]
  have h3 : s ≠ s ^^^ 2 ^ i := fun e => by rw [← e, h] at h1; cases h1
  have h4 : s ^^^ 2 ^ i ≤ (s ^^^ 2 ^ i) ||| 2 ^ i := Nat.left_le_or
  rw [← h2] at h4
  omega
theorem wt_pst {i s n : Nat} (hs : s < n) (M : Nat → Bool) : wt (pst i s M) n < wt M n ∨ pst i s M = M := by
  unfold pst
  split
  · rename_i h
    obtain ⟨h1, h2, h3⟩ := h
    have hlt := clr_less h1
    have e1 := wt_upd M s false n hs
    have e2 := wt_upd (fun j => if j = s then false else M j) (clr s i) true n (Nat.lt_trans hlt hs)
    simp only [h2, if_true, Bool.false_eq_true, if_false, show ¬ clr s i = s from Nat.ne_of_lt hlt, h3] at e1 e2
    left
    omega
  · exact .inr rfl
theorem wt_prn {i n : Nat} (f : Nat → Bool) : ∀ s, s ≤ n → wt (prn i f s) n < wt f n ∨ prn i f s = f
  | 0, _ => .inr rfl
  | s + 1, hs => by
    rcases wt_prn (i := i) f s (Nat.le_of_succ_le hs) with h | h
    · rcases wt_pst (i := i) (show s < n by omega) (prn i f s) with h2 | h2
      · exact .inl (Nat.lt_trans h2 h)
      · left; show wt (pst i s (prn i f s)) n < _; rw [h2]; exact h
    · rcases wt_pst (i := i) (show s < n by omega) (prn i f s) with h2 | h2
      · left; rw [h] at h2; show wt (pst i s (prn i f s)) n < _; rw [h]; exact h2
      · right; show pst i s (prn i f s) = f; rw [h2, h]
theorem wt_prT {n : Nat} {f : Nat → Bool} (hf : ∀ j, f j = true → j < 2 ^ n) : ∀ i, i ≤ n → wt (prT f i) (2 ^ n) < wt f (2 ^ n) ∨ prT f i = f
  | 0, _ => .inr rfl
  | i + 1, hi => by
    have hs := prT_sup hf i (by omega)
    have hp := prn_prS (show i < n by omega) hs
    have h2 := wt_prn (i := i) (prT f i) (2 ^ n) (Nat.le_refl _)
    rw [hp] at h2
    show wt (prS i (prT f i)) _ < _ ∨ prS i (prT f i) = f
    rcases wt_prT hf i (by omega) with h | h
    · rcases h2 with h2 | h2
      · exact .inl (Nat.lt_trans h2 h)
      · rw [h2]; exact .inl h
    · rw [h] at h2 ⊢
      exact h2
end Go.Proofs.YtkfbfgcflnkllaaGreatDoor
namespace Go.Proofs.YtkfbfgcflnkllaaGreatDoor
open Go Go.Eng Nim
set_option maxRecDepth 100000
set_option maxHeartbeats 8000000
def itT (n : Nat) (f : Nat → Bool) : Nat → Nat → Bool
  | 0 => f
  | k + 1 => prT (itT n f k) n
theorem down_of (m : Nat) (n : Nat) (hn : n ≤ 8) (f : Nat → Bool) (v : Value) (h : Hp) (hv : Rds h v ((lst f (2 ^ n)).map J)) :
    ∃ v' h', Ev 100000 (m + 2) 40 [J n, v] h = some (v', h') ∧ ∃ F k q, F = itT n (fun j => decide (j ∈ lst f (2 ^ n))) k ∧ prT F n = F ∧ v' = .tuple #[oslV q (lst F 1024).length, J 0] ∧ Sto h h' (oent q 3 ((lst F 1024).map J)) := by
  refine fnS_ok (Q := fun v' h' => ∃ F k q, F = itT n (fun j => decide (j ∈ lst f (2 ^ n))) k ∧ prT F n = F ∧ v' = .tuple #[oslV q (lst F 1024).length, J 0] ∧ Sto h h' (oent q 3 ((lst F 1024).map J))) ?_
  have h2n : 2 ^ n ≤ 256 := Nat.pow_le_pow_right (by decide) hn
  have hNN : 2 ^ n * 2 ^ n ≤ 256 * 256 := Nat.mul_le_mul h2n h2n
  have hll := lst_len f (2 ^ n)
  have hsup : ∀ j, decide (j ∈ lst f (2 ^ n)) = true → j < 2 ^ n := fun j hj => (lst_mem.1 (of_decide_eq_true hj)).1
  have e1 := chk_lst 100000 m (by decide) n (by omega) f v h hv
  obtain ⟨_, h1, e2, rfl, X1⟩ := marked_of 100000 m (by decide) (lst f (2 ^ n)) (by omega) (fun x hx => by have := (lst_mem.1 hx).1; omega) v h hv
  obtain ⟨va, vc, hvs⟩ := hv.shape
  rw [List.length_map] at hvs
  subst hvs
  have W := (Sto.start h).call X1
  generalize hL : lst f (2 ^ n) = L at *
  generalize hF : (fun i => decide (i ∈ L)) = f at *
  have hMl : (mk97 f).length = 1024 := cellsF_len ..
  have hsup : ∀ j, f j = true → j < 2 ^ n := fun j hj => hsup j (by rw [← hF] at hj; exact hj)
  refine ok_go 0 ?_
  refine sy_call 0 (by kernel_rfl) e1 ?_
  refine ok_go 2 ?_
  obtain ⟨MM, hMM⟩ : ∃ MM, mk97 f = MM := ⟨_, rfl⟩
  rw [hMM] at e2
  refine sy_call 0 (by kernel_rfl) e2 ?_
  refine ok_go 0 ?_
  refine ow_new 0 W (.cells (mk97 fun _ => false) 97 false) (fun i => ptr i 0) (by kernel_rfl) fun h2 nh2 W => ?_
  generalize h1.next = b7 at *
  refine ok_go 0 ?_
  refine ow_storeA (P := Tryz.prog) (T := 97) (v := .agg MM.toArray) 0 0 W MM rfl rfl (by rw [← hMM, hMl]; exact (cellsF_len ..).symm) (by rw [← hMM, hMl]; kernel_rfl) (by rw [← hMM]; exact mk97_sc _) (by kernel_rfl) fun h3 nh3 W => ?_
  rw [← hMM] at W
  have W : Sto h h3 [(b7, .cells (mk97 f) 97 false)] := W
  refine ok_go 1 ?_
  refine ow_loadF (P := Tryz.prog) (T := 4) (off := 0) 0 0 W rfl (by decide) agB (by kernel_rfl) ?_
  obtain ⟨b0, hb0⟩ : ∃ b, f 0 = b := ⟨_, rfl⟩
  rw [hb0]
  obtain ⟨G0, hG0⟩ : ∃ G, mk97 (fun j => bif Nat.beq j 0 then !b0 else false) = G := ⟨_, rfl⟩
  refine ok_go 2 ?_
  refine ow_new 0 W (.cells (mk97 fun _ => false) 97 false) (fun i => ptr i 0) (by kernel_rfl) fun h4 nh4 W => ?_
  generalize h3.next = b8 at *
  refine ok_go 0 ?_
  refine ow_storeA (P := Tryz.prog) (T := 97) (v := .agg (mk97 (fun j => bif Nat.beq j 0 then !b0 else false)).toArray) 0 0 W (mk97 (fun j => bif Nat.beq j 0 then !b0 else false)) rfl rfl (by rw [show (mk97 _).length = 1024 from cellsF_len ..]; exact (cellsF_len ..).symm) (by rw [show (mk97 _).length = 1024 from cellsF_len ..]; kernel_rfl) (mk97_sc _) (by kernel_rfl) fun h5 nh5 W => ?_
  have W : Sto h h5 [(b8, .cells (mk97 (fun j => bif Nat.beq j 0 then !b0 else false)) 97 false), (b7, .cells (mk97 f) 97 false)] := W
  refine ok_go 0 ?_
  refine sy_loop 0 100000 h5 (α := Nat × (Nat → Bool) × (Nat → Bool) × Bool) (fun x => [(0, J n), (7, ptr b7 0), (8, ptr x.1 0)]) (fun x g => (∃ k, x.2.2.1 = itT n f k) ∧ (∀ j, x.2.2.1 j = true → j < 2 ^ n) ∧ (x.2.2.2 = true → x.2.1 0 ≠ x.2.2.1 0) ∧ (x.2.2.2 = false → x.2.2.1 = prT x.2.1 n ∧ ∀ j, x.2.1 j = true → j < 2 ^ n) ∧ Sto h g [(x.1, .cells (mk97 x.2.1) 97 false), (b7, .cells (mk97 x.2.2.1) 97 false)]) (fun x _ => if x.2.2.2 then 2 ^ n * 2 ^ n + 1 else wt x.2.1 (2 ^ n)) (b8, (fun j => bif Nat.beq j 0 then !b0 else false), f, true) (by kernel_rfl) (by kernel_rfl)
    ⟨by kernel_rfl, by kernel_rfl, by kernel_rfl, trivial⟩ (show 2 ^ n * 2 ^ n + 1 < 100000 by omega) ⟨⟨0, rfl⟩, hsup, fun _ => by show (!b0) ≠ f 0; rw [hb0]; cases b0 <;> decide, (fun hh => by cases hh), W⟩ ?_
  clear W e1 e2
  rintro m1 ⟨b8, g8, g7, st⟩ F1 g ⟨⟨k, hk⟩, hs7, hst, hsf, W⟩ ih
  dsimp only at hk hs7 hst hsf W
  have hl8 : (mk97 g8).length = 1024 := cellsF_len ..
  have hl7 : (mk97 g7).length = 1024 := cellsF_len ..
  have ht8 := mk97_take g8
  have ht7 := mk97_take g7
  have hs8c := mk97_sc g8
  have hs7c := mk97_sc g7
  have hneq := neq_arr g8 g7 1024 rfl
  refine ok_go 0 ?_
  refine ow_loadA (P := Tryz.prog) (T := 97) 0 0 W rfl (by kernel_rfl) (by kernel_rfl) ht8 (by kernel_rfl) ?_
  refine ok_go 0 ?_
  refine ow_loadA (P := Tryz.prog) (T := 97) 0 1 W rfl (by kernel_rfl) (by kernel_rfl) ht7 (by kernel_rfl) ?_
  refine ok_go 0 ?_
  refine sy_load 0 (r := pureX (binOp .neq 97 (.agg (mk97 g8).toArray) (.agg (mk97 g7).toArray))) (h' := g) (by kernel_rfl) hneq ?_
  by_cases hall : ∀ i, i < 1024 → g8 i = g7 i
  · refine sy_no 0 (b := !eqB g8 g7 1024) (by kernel_rfl) (by rw [eqB_true hall]; rfl) ?_
    have hstf : st = false := by
      cases st with
      | false => rfl
      | true => exact absurd (hall 0 (by decide)) (hst rfl)
    obtain ⟨q1, q2⟩ := hsf hstf
    have h87 : g8 = g7 := funext fun j => by
      by_cases hj : j < 1024
      · exact hall j hj
      · cases h8 : g8 j with
        | true => have := q2 j h8; omega
        | false =>
          cases h7 : g7 j with
          | true => have := hs7 j h7; omega
          | false => rfl
    rw [h87] at q1
    obtain ⟨v4, h4, e4, q, rfl, W4⟩ := list_of 100000 m (by decide) g7 b7 false g (W.get 1 rfl) (W.lt 1 rfl)
    obtain ⟨oa, oc, ho⟩ := osl_shape q (lst g7 1024).length
    rw [ho] at e4
    refine ok_go 0 ?_
    refine sy_call 0 (by kernel_rfl) e4 ?_
    refine ok_go 0 ?_
    exact sy_done 0 (v := .tuple #[.slice oa (lst g7 1024).length oc, J 0]) (h := h4) (by kernel_rfl) ⟨g7, k, q, hk, q1.symm, by rw [ho], (W.over W4).sub (List.sublist_append_left ..)⟩
  · refine sy_yes 0 (b := !eqB g8 g7 1024) (by kernel_rfl) (by rw [eqB_false hall]; rfl) ?_
    have hdec : wt g7 (2 ^ n) < if st then 2 ^ n * 2 ^ n + 1 else wt g8 (2 ^ n) := by
      cases hs : st with
      | true => rw [if_pos rfl]; have := wt_le g7 (2 ^ n); omega
      | false =>
        rw [if_neg Bool.false_ne_true]
        obtain ⟨q1, q2⟩ := hsf hs
        rcases wt_prT q2 n (Nat.le_refl _) with h | h
        · rw [← q1] at h; exact h
        · rw [← q1] at h
          exact absurd (fun i _ => by rw [h]) hall
    refine ok_go 0 ?_
    obtain ⟨M7, hM7⟩ : ∃ M, mk97 g7 = M := ⟨_, rfl⟩
    rw [hM7] at W hl7 ht7 hs7c
    refine ow_loadA (P := Tryz.prog) (T := 97) 0 1 W rfl (by kernel_rfl) (by kernel_rfl) ht7 (by kernel_rfl) ?_
    refine ok_go 0 ?_
    refine ow_storeA (P := Tryz.prog) (T := 97) (v := .agg M7.toArray) 0 0 W M7 rfl rfl (by rw [hl7, hl8]) (by rw [hl7]; kernel_rfl) hs7c (by kernel_rfl) fun k1 nk1 W => ?_
    have W : Sto h k1 [(b7, .cells (mk97 (prT g7 0)) 97 false), (b8, .cells M7 97 false)] := by
      rw [show mk97 (prT g7 0) = M7 from hM7]
      exact W.perm (List.Perm.swap _ _ _)
    refine ok_go 0 ?_
    refine sy_loop 0 100000 k1 (α := Nat) (fun i => [(0, J n), (7, ptr b7 0), (8, ptr b8 0), (26, J n), (27, J i)]) (fun i g => i ≤ n ∧ Sto h g [(b7, .cells (mk97 (prT g7 i)) 97 false), (b8, .cells M7 97 false)]) (fun i _ => n - i) 0 (by kernel_rfl) (by kernel_rfl)
      ⟨by kernel_rfl, by kernel_rfl, by kernel_rfl, by kernel_rfl, by kernel_rfl, trivial⟩ (show n - 0 < 100000 by omega) ⟨Nat.zero_le _, W⟩ ?_
    clear W
    rintro m2 i F2 k2 ⟨hi, W⟩ ihi
    have hwi : IntKind.wrap .i64 (Int.ofNat (i + 1)) = Int.ofNat (i + 1) := wrap_nat (by omega)
    refine ok_go 1 ?_
    refine sy_test 0 (decide (Int.ofNat i < Int.ofNat n)) (by kernel_rfl) ?_ ?_
    · intro hlt
      have hlt : i < n := ok_nat hlt
      obtain ⟨_, k3, e3, ⟨c, rfl⟩, W⟩ := press_of 100000 m (by decide) n (by omega) (prT g7 i) i hlt b7 _ h k2 W
      rw [prn_prS hlt (prT_sup hs7 i (by omega))] at W
      refine ok_go 0 ?_
      refine sy_call 0 (by kernel_rfl) e3 ?_
      refine ok_go 1 ?_
      exact sy_next 0 _ k3 (by kernel_rfl) (by kernel_rfl) (ihi (i + 1) _ k3 ⟨hlt, W⟩ (show n - (i + 1) < n - i by omega) ⟨by kernel_rfl, by kernel_rfl, by kernel_rfl, by kernel_rfl, (by kernel_rfl : _ = Value.int .i64 (IntKind.wrap .i64 (Int.ofNat (i + 1)))).trans (by rw [hwi]), trivial⟩)
    · intro hlt
      have hlt : i = n := Nat.le_antisymm hi (no_nat hlt)
      subst hlt
      refine ok_go 0 ?_
      refine ow_loadA (P := Tryz.prog) (T := 97) 0 1 W rfl (by kernel_rfl) (by kernel_rfl) ht7 (by kernel_rfl) ?_
      refine ok_go 0 ?_
      refine ow_new 0 W (.cells (mk97 fun _ => false) 97 false) (fun i => ptr i 0) (by kernel_rfl) fun k4 nk4 W => ?_
      generalize k2.next = b9 at *
      refine ok_go 0 ?_
      refine ow_storeA (P := Tryz.prog) (T := 97) (v := .agg M7.toArray) 0 0 W M7 rfl rfl (by rw [hl7]; exact (cellsF_len ..).symm) (by rw [hl7]; kernel_rfl) hs7c (by kernel_rfl) fun k5 nk5 W => ?_
      have W : Sto h k5 [(b9, .cells (mk97 g7) 97 false), (b7, .cells (mk97 (prT g7 i)) 97 false)] := by
        rw [hM7]
        exact W.take 2
      refine ok_go 0 ?_
      exact sy_next 0 _ k5 (by kernel_rfl) (by kernel_rfl) (ih (b9, g7, prT g7 i, false) _ k5 ⟨⟨k + 1, by show prT g7 i = prT (itT i f k) i; rw [← hk]⟩, prT_sup hs7 i (Nat.le_refl _), (fun hh => by cases hh), fun _ => ⟨rfl, hs7⟩, W⟩ (by show wt g7 (2 ^ i) < _; exact hdec) ⟨by kernel_rfl, by kernel_rfl, by kernel_rfl, trivial⟩)
end Go.Proofs.YtkfbfgcflnkllaaGreatDoor
namespace Go.Proofs.YtkfbfgcflnkllaaGreatDoor
open Go Go.Eng Nim
set_option maxRecDepth 100000
set_option maxHeartbeats 8000000
end Go.Proofs.YtkfbfgcflnkllaaGreatDoor
namespace Go.Proofs.YtkfbfgcflnkllaaGreatDoor
open Go Go.Eng Nim
set_option maxRecDepth 100000
set_option maxHeartbeats 8000000
end Go.Proofs.YtkfbfgcflnkllaaGreatDoor
namespace Go.Proofs.YtkfbfgcflnkllaaGreatDoor
open Go Go.Eng Nim Oct
theorem clo_spec_dn (n : Nat) (f : Nat → Bool) : ∀ i, i ≤ n → ∀ j, j < 2 ^ n → (cloS false (2 ^ n) f i j = true ↔ ∃ x, f x = true ∧ (∀ k, j.testBit k = true → x.testBit k = true) ∧ ∀ k, i ≤ k → x.testBit k = j.testBit k)
  | 0, _, j, hj => ⟨fun h => ⟨j, h, fun _ h => h, fun _ _ => rfl⟩, fun ⟨x, h1, _, h3⟩ => by
    have : x = j := Nat.eq_of_testBit_eq fun k => h3 k (Nat.zero_le _)
    rw [← this]; exact h1⟩
  | i + 1, hi, j, hj => by
    have ih := clo_spec_dn n f i (by omega)
    have hM : cloS false (2 ^ n) f (i + 1) j = (cloS false (2 ^ n) f i j || (!j.testBit i && decide (j < 2 ^ n) && cloS false (2 ^ n) f i (j ^^^ 2 ^ i))) := inn_dn i (cloS false (2 ^ n) f i) (2 ^ n) j
    have hx := x_lt hj (show i < n by omega)
    rw [hM, decide_eq_true hj, Bool.and_true, Bool.or_eq_true, Bool.and_eq_true, ih j hj, ih _ hx]
    constructor
    · rintro (⟨x, h1, h2, h3⟩ | ⟨hb, x, h1, h2, h3⟩)
      · exact ⟨x, h1, h2, fun k hk => h3 k (by omega)⟩
      · have hb : j.testBit i = false := by simpa using hb
        refine ⟨x, h1, fun k hk => ?_, fun k hk => by rw [h3 k (by omega), tb_xn (by omega)]⟩
        by_cases hki : i = k
        · rw [← hki, hb] at hk; cases hk
        · exact h2 k (by rw [tb_xn hki]; exact hk)
    · rintro ⟨x, h1, h2, h3⟩
      by_cases he : x.testBit i = j.testBit i
      · refine .inl ⟨x, h1, h2, fun k hk => ?_⟩
        by_cases hki : k = i
        · rw [hki]; exact he
        · exact h3 k (by omega)
      · have hji : j.testBit i = false := by
          cases h : j.testBit i with
          | false => rfl
          | true => exact absurd (by rw [h, h2 i h]) he
        have hxi : x.testBit i = true := by
          cases h : x.testBit i with
          | true => rfl
          | false => exact absurd (by rw [h, hji]) he
        refine .inr ⟨by rw [hji]; rfl, x, h1, fun k hk => ?_, fun k hk => ?_⟩
        · by_cases hki : i = k
          · rw [← hki]; exact hxi
          · rw [tb_xn hki] at hk; exact h2 k hk
        · by_cases hki : i = k
          · rw [← hki, hxi, tb_xs, hji]; rfl
          · rw [tb_xn hki]; exact h3 k (by omega)
theorem and_sub_iff (a b : Nat) : a &&& b = b ↔ ∀ k, b.testBit k = true → a.testBit k = true := by
  constructor
  · intro h k hk
    have : (a &&& b).testBit k = b.testBit k := by rw [h]
    rw [Nat.testBit_and, hk, Bool.and_true] at this
    exact this
  · intro h
    refine Nat.eq_of_testBit_eq fun k => ?_
    rw [Nat.testBit_and]
    cases hb : b.testBit k with
    | false => rw [Bool.and_false]
    | true => rw [h k hb]; rfl
theorem itT_sup {n : Nat} {f : Nat → Bool} (hf : ∀ j, f j = true → j < 2 ^ n) : ∀ k, ∀ j, itT n f k j = true → j < 2 ^ n
  | 0 => hf
  | k + 1 => prT_sup (itT_sup hf k) n (Nat.le_refl _)
theorem dec_lst {n : Nat} {f : Nat → Bool} (hf : ∀ j, f j = true → j < 2 ^ n) : (fun j => decide (j ∈ lst f (2 ^ n))) = f := funext fun j => by
  rw [Bool.eq_iff_iff, decide_eq_true_eq, lst_mem]
  exact ⟨fun h => h.2, fun h => ⟨hf j h, h⟩⟩
end Go.Proofs.YtkfbfgcflnkllaaGreatDoor
namespace Go.Proofs.YtkfbfgcflnkllaaGreatDoor
open Go Go.Eng Nim
set_option maxRecDepth 100000
set_option maxHeartbeats 8000000
theorem trace_of (lf m : Nat) (M0 : Nat) (hM0 : M0 < 1024) (hlf : 2000 ≤ lf) (l : List Nat) (hl : l.length < 2000) (hb : ∀ x ∈ l, x < 1024) (v : Value) (h : Hp) (hv : Rds h v (l.map J)) :
    ∃ v' h', Ev lf (m + 1) 76 [v, J M0] h = some (v', h') ∧ v' = .agg (mk97 fun i => decide (i ∈ l.map (· &&& M0))).toArray ∧ h.Ext h' := by
  refine fnS_ok (Q := fun v' h' => v' = .agg (mk97 fun i => decide (i ∈ l.map (· &&& M0))).toArray ∧ h.Ext h') ?_
  obtain ⟨va, vc, hvs⟩ := hv.shape
  rw [List.length_map] at hvs
  subst hvs
  have W := Sto.start h
  refine ok_go 0 ?_
  refine ow_new 0 W (.cells (mk97 fun _ => false) 97 false) (fun i => ptr i 0) (by kernel_rfl) fun g1 ng1 W => ?_
  refine ok_go 0 ?_
  refine ow_new 0 W (.cells (mk97 fun _ => false) 97 false) (fun i => ptr i 0) (by kernel_rfl) fun g2 ng2 W => ?_
  refine ok_go 1 ?_
  refine sy_loop 0 lf g2 (α := Nat) (fun i => [(1, J M0), (4, ptr h.next 0), (5, ptr g1.next 0), (8, .slice va l.length vc), (9, J l.length), (10, J i)]) (fun i g => i ≤ l.length ∧ Sto h g [(g1.next, .cells (mk97 fun k => decide (k ∈ (l.take i).map (· &&& M0))) 97 false), (h.next, .cells (mk97 fun _ => false) 97 false)]) (fun i _ => l.length - i) 0 (by kernel_rfl) (by kernel_rfl)
    ⟨by kernel_rfl, by kernel_rfl, by kernel_rfl, by kernel_rfl, by kernel_rfl, by kernel_rfl, trivial⟩ (show l.length - 0 < lf by omega) ⟨Nat.zero_le _, by
      simpa using W⟩ ?_
  clear W
  rintro m1 i F1 g ⟨hi, W⟩ ih
  have hw : IntKind.wrap .i64 (Int.ofNat (i + 1)) = Int.ofNat (i + 1) := wrap_nat (by omega)
  refine ok_go 1 ?_
  refine sy_test 0 (decide (Int.ofNat i < Int.ofNat l.length)) (by kernel_rfl) ?_ ?_
  · intro hlt
    have hlt : i < l.length := ok_nat hlt
    have hx : l[i]? = some l[i] := List.getElem?_eq_getElem hlt
    have hxb := hb _ (List.mem_of_getElem? hx)
    obtain ⟨p, hp1, hp2⟩ := rdN (hv.ext W.ext) hlt
    generalize hxe : l[i] = x at *
    have hxm : x &&& M0 < 1024 := Nat.lt_of_le_of_lt Nat.and_le_left hxb
    refine ok_go 0 ?_
    refine sy_load 0 (r := indexAddrOp Tryz.prog 28 (.slice va l.length vc) (J i)) (h' := g) (by kernel_rfl) hp1 ?_
    refine ok_go 0 ?_
    refine sy_load 0 (r := loadT Tryz.prog g 3 p) (h' := g) (by kernel_rfl) hp2 ?_
    refine ok_go 1 ?_
    refine sy_load 0 (r := indexAddrOp Tryz.prog 97 (ptr g1.next 0) (I (andI (Int.ofNat x) (Int.ofNat M0)))) (h' := g) (v := ptr g1.next (x &&& M0)) (by kernel_rfl) (by rw [and_nat (by omega)]; exact idxM hxm) ?_
    refine ok_go 0 ?_
    refine ow_storeF (P := Tryz.prog) (T := 4) (v := .bool true) 0 0 W rfl hxm zB rfl (by kernel_rfl) fun g2 ng2 W => ?_
    rw [mk97_set] at W
    have W : Sto h g2 [(g1.next, .cells (mk97 fun k => decide (k ∈ (l.take (i + 1)).map (· &&& M0))) 97 false), (h.next, .cells (mk97 fun _ => false) 97 false)] := by
      rw [show (fun k => decide (k ∈ (l.take (i + 1)).map (· &&& M0))) = fun k => if k = x &&& M0 then true else decide (k ∈ (l.take i).map (· &&& M0)) from by
        funext k
        rw [List.take_succ_eq_append_getElem hlt, hxe]
        by_cases hk : k = x &&& M0
        · simp [hk]
        · simp [hk]]
      exact W
    refine ok_go 1 ?_
    exact sy_next 0 _ g2 (by kernel_rfl) (by kernel_rfl) (ih (i + 1) _ g2 ⟨hlt, W⟩ (show l.length - (i + 1) < l.length - i by omega) ⟨by kernel_rfl, by kernel_rfl, by kernel_rfl, by kernel_rfl, by kernel_rfl, (by kernel_rfl : _ = Value.int .i64 (IntKind.wrap .i64 (Int.ofNat (i + 1)))).trans (by rw [hw]), trivial⟩)
  · intro hlt
    have hlt : i = l.length := Nat.le_antisymm hi (no_nat hlt)
    subst hlt
    rw [List.take_length] at W
    generalize hM : (mk97 fun k => decide (k ∈ l.map (· &&& M0))) = M at *
    have hMl : M.length = 1024 := by rw [← hM]; exact cellsF_len ..
    have hMt : takeN 1024 M = some M := by rw [← hM]; exact mk97_take _
    have hMs : M.all scalar = true := by rw [← hM]; exact mk97_sc _
    refine ok_go 0 ?_
    refine ow_loadA (P := Tryz.prog) (T := 97) 0 0 W rfl (by kernel_rfl) (by kernel_rfl) hMt (by kernel_rfl) ?_
    refine ok_go 0 ?_
    refine ow_storeA (P := Tryz.prog) (T := 97) (v := .agg M.toArray) 0 1 W M rfl rfl (by rw [hMl]; exact (cellsF_len ..).symm) (by rw [hMl]; kernel_rfl) hMs (by kernel_rfl) fun g2 ng2 W => ?_
    refine ok_go 0 ?_
    refine ow_loadA (P := Tryz.prog) (T := 97) 0 1 W rfl (by kernel_rfl) (by kernel_rfl) hMt (by kernel_rfl) ?_
    refine ok_go 0 ?_
    exact sy_done 0 (v := .agg M.toArray) (h := g2) (by kernel_rfl) ⟨rfl, W.ext⟩
end Go.Proofs.YtkfbfgcflnkllaaGreatDoor
namespace Go.Proofs.YtkfbfgcflnkllaaGreatDoor
open Go Go.Eng Nim
set_option maxRecDepth 100000
set_option maxHeartbeats 8000000
end Go.Proofs.YtkfbfgcflnkllaaGreatDoor
namespace Go.Proofs.YtkfbfgcflnkllaaGreatDoor
open Go Go.Eng Nim
set_option maxRecDepth 100000
set_option maxHeartbeats 8000000
end Go.Proofs.YtkfbfgcflnkllaaGreatDoor
namespace Go.Proofs.YtkfbfgcflnkllaaGreatDoor
open Go Go.Eng Nim
set_option maxRecDepth 100000
set_option maxHeartbeats 8000000
end Go.Proofs.YtkfbfgcflnkllaaGreatDoor
namespace Go.Proofs.YtkfbfgcflnkllaaGreatDoor
open Go Go.Eng Nim
set_option maxRecDepth 100000
set_option maxHeartbeats 8000000
def trF (l : List Nat) (s : Nat) (k : Nat) : Bool := decide (k ∈ l.map (· &&& s))
end Go.Proofs.YtkfbfgcflnkllaaGreatDoor
namespace Go.Proofs.YtkfbfgcflnkllaaGreatDoor
open Go Go.Eng Nim
set_option maxRecDepth 100000
set_option maxHeartbeats 8000000
/-- The largest size so far, and the first set that has it. -/
def dimS : List Nat → Int × Nat → Int × Nat
  | [], p => p
  | x :: r, p => dimS r (if Int.ofNat (pcF 10 x) > p.1 then (Int.ofNat (pcF 10 x), x) else p)
theorem dimS_app (a b : List Nat) : ∀ p, dimS (a ++ b) p = dimS b (dimS a p) := by
  induction a with
  | nil => intro p; rfl
  | cons x r ih => intro p; exact ih _
end Go.Proofs.YtkfbfgcflnkllaaGreatDoor
namespace Go.Proofs.YtkfbfgcflnkllaaGreatDoor
open Go Go.Eng Nim
set_option maxRecDepth 100000
set_option maxHeartbeats 8000000
/-- The next set within s. -/
def nxt (s k : Nat) : Nat := s - (s &&& (s - k - 1))
def inB (k s : Nat) : Bool := Nat.beq (k &&& s) k
def subOK (s k : Nat) : Bool := !(inB k s) || ((andI (IntKind.i64.wrap (Int.ofNat k - Int.ofNat s)) (Int.ofNat s) == Int.ofNat (nxt s k)) && inB (nxt s k) s && Nat.blt k (nxt s k) && Nat.ble (nxt s k) s && (List.range (nxt s k)).all fun j => Nat.ble j k || !(inB j s))
theorem sub_all : ((List.range 128).all fun s => (List.range s).all fun k => subOK s k) = true := by decide +kernel
theorem sub_nx {s k : Nat} (hs : s < 128) (hk : k < s) (hin : inB k s = true) : andI (IntKind.i64.wrap (Int.ofNat k - Int.ofNat s)) (Int.ofNat s) = Int.ofNat (nxt s k) ∧ inB (nxt s k) s = true ∧ k < nxt s k ∧ nxt s k ≤ s ∧ ∀ j, k < j → j < nxt s k → inB j s = false := by
  have h := List.all_eq_true.1 (List.all_eq_true.1 sub_all s (List.mem_range.2 hs)) k (List.mem_range.2 hk)
  unfold subOK at h
  rw [hin] at h
  simp only [Bool.not_true, Bool.false_or, Bool.and_eq_true] at h
  obtain ⟨⟨⟨⟨h1, h2⟩, h3⟩, h4⟩, h5⟩ := h
  refine ⟨eq_of_beq h1, h2, Nat.blt_eq.mp h3, Nat.le_of_ble_eq_true h4, fun j h6 h7 => ?_⟩
  have := List.all_eq_true.1 h5 j (List.mem_range.2 h7)
  rw [Bool.or_eq_true] at this
  rcases this with h8 | h8
  · have := Nat.le_of_ble_eq_true h8; omega
  · rwa [Bool.not_eq_true'] at h8
/-- All sets within s below k are marked. -/
def upto (t : Nat → Bool) (s k : Nat) : Bool := (List.range k).all fun j => !(inB j s) || t j
theorem upto_iff {t : Nat → Bool} {s k : Nat} : upto t s k = true ↔ ∀ j, j < k → inB j s = true → t j = true := by
  unfold upto
  rw [List.all_eq_true]
  constructor
  · intro h j hj hi
    have := h j (List.mem_range.2 hj)
    rw [hi] at this
    simpa using this
  · intro h j hj
    cases hi : inB j s with
    | false => rfl
    | true => simp [h j (List.mem_range.1 hj) hi]
theorem upto_nx {t : Nat → Bool} {s k K : Nat} (hin : inB k s = true) (hk : k < K) (hno : ∀ j, k < j → j < K → inB j s = false) : upto t s K = (upto t s k && t k) := by
  rw [Bool.eq_iff_iff, Bool.and_eq_true, upto_iff, upto_iff]
  constructor
  · intro h
    exact ⟨fun j hj hi => h j (by omega) hi, h k hk hin⟩
  · rintro ⟨h1, h2⟩ j hj hi
    rcases Nat.lt_trichotomy j k with h3 | h3 | h3
    · exact h1 j h3 hi
    · exact h3 ▸ h2
    · rw [hno j h3 hj] at hi; cases hi
/-- Whether s is shattered. -/
def shG (l : List Nat) (s : Nat) : Bool := upto (trF l s) s (s + 1)
theorem inB_le {k s : Nat} (h : inB k s = true) : k ≤ s := by
  have : k &&& s = k := Nat.eq_of_beq_eq_true h
  have h2 : k &&& s ≤ s := Nat.and_le_right
  omega
theorem shG_iff {l : List Nat} {s : Nat} : shG l s = true ↔ ∀ k, k &&& s = k → ∃ x ∈ l, x &&& s = k := by
  unfold shG
  rw [upto_iff]
  constructor
  · intro h k hk
    have hi : inB k s = true := by unfold inB; rw [hk]; exact Nat.beq_refl k
    have := h k (by have := inB_le hi; omega) hi
    simpa [trF] using this
  · intro h j _ hi
    obtain ⟨x, hx, h2⟩ := h j (Nat.eq_of_beq_eq_true hi)
    simp only [trF, decide_eq_true_eq, List.mem_map]
    exact ⟨x, hx, h2⟩
/-- What is marked by less can't be as many, but if they are alike. -/
theorem lst_sub {f g : Nat → Bool} {n : Nat} (h : ∀ k, k < n → f k = true → g k = true) : (lst f n).length ≤ (lst g n).length ∧ ((lst f n).length = (lst g n).length → ∀ k, k < n → g k = true → f k = true) := by
  induction n with
  | zero => exact ⟨Nat.le_refl _, fun _ k hk => absurd hk (Nat.not_lt_zero _)⟩
  | succ n ih =>
    obtain ⟨h1, h2⟩ := ih fun k hk => h k (by omega)
    have hn := h n (by omega)
    rw [lst_succ, lst_succ]
    cases hf : f n with
    | true =>
      rw [hf] at hn
      rw [hn rfl]
      simp only [if_true, List.length_append, List.length_singleton]
      refine ⟨by omega, fun he k hk hg => ?_⟩
      rcases Nat.eq_or_lt_of_le (Nat.le_of_lt_succ hk) with h3 | h3
      · exact h3 ▸ hf
      · exact h2 (by omega) k h3 hg
    | false =>
      cases hg : g n with
      | true =>
        simp only [if_true, Bool.false_eq_true, if_false, List.length_append, List.length_singleton]
        exact ⟨by omega, fun he => by omega⟩
      | false =>
        simp only [Bool.false_eq_true, if_false]
        refine ⟨h1, fun he k hk h4 => ?_⟩
        rcases Nat.eq_or_lt_of_le (Nat.le_of_lt_succ hk) with h3 | h3
        · rw [h3, hg] at h4; cases h4
        · exact h2 he k h3 h4
theorem lst_cg {f g : Nat → Bool} {n : Nat} (h : ∀ j, j < n → f j = g j) : lst f n = lst g n := by
  unfold lst
  exact List.filter_congr fun j hj => h j (List.mem_range.1 hj)
end Go.Proofs.YtkfbfgcflnkllaaGreatDoor
namespace Go.Proofs.YtkfbfgcflnkllaaGreatDoor
open Go Go.Eng Nim
set_option maxRecDepth 100000
set_option maxHeartbeats 8000000
theorem within_run (lf m y cp M0 : Nat) (hM : M0 < 128) (hlf : 2000 ≤ lf) (Iv : Nat → Hp → Prop)
    (hI : ∀ k g, Iv k g → g.get cp = some (.cells [J M0] 3 false))
    (hy : ∀ k K g, k ≤ M0 → inB k M0 = true → k < K → (∀ j, k < j → j < K → inB j M0 = false) → Iv k g → ∃ g', evInv Tryz.prog orc lf m (.yield y [J k]) g = some (.bool true, g') ∧ Iv K g') (h : Hp) (h0 : Iv 0 h) :
    ∃ v h', Ev lf (m + 1) 151 [.func (.yield y) #[] #[], ptr cp 0] h = some (v, h') ∧ Iv (M0 + 1) h' := by
  refine fnS_ok (Q := fun v h' => Iv (M0 + 1) h') ?_
  refine ok_go 0 ?_
  refine sy_loop 0 lf h (α := Nat) (fun k => [(0, .func (.yield y) #[] #[]), (1, ptr cp 0), (3, J k)]) (fun k g => (k ≤ M0 ∧ inB k M0 = true) ∧ Iv k g) (fun k _ => M0 - k) 0 (by kernel_rfl) (by kernel_rfl)
    ⟨by kernel_rfl, by kernel_rfl, by kernel_rfl, trivial⟩ (show M0 - 0 < lf by omega) ⟨⟨Nat.zero_le _, by unfold inB; rw [Nat.zero_and]; rfl⟩, h0⟩ ?_
  rintro m1 k F1 g ⟨⟨hk, hin⟩, hJ⟩ ih
  rcases Nat.eq_or_lt_of_le hk with he | hlt
  · subst he
    obtain ⟨g2, e2, J2⟩ := hy k (k + 1) g hk hin (by omega) (fun j h1 h2 => by omega) hJ
    have gc := hI _ _ J2
    refine ok_go 0 ?_
    refine sy_call 0 (by kernel_rfl) e2 ?_
    refine ok_go 2 ?_
    refine sy_load 0 (r := loadT Tryz.prog g2 3 (ptr cp 0)) (h' := g2) (v := J k) (by kernel_rfl) (load1 agI gc rfl) ?_
    refine ok_go 3 ?_
    refine sy_no 0 (b := Int.ofNat k != Int.ofNat k) (by kernel_rfl) (by rw [bne_self_eq_false]) ?_
    refine ok_go 0 ?_
    exact sy_done 0 (v := .tuple #[]) (h := g2) (by kernel_rfl) J2
  · obtain ⟨n1, n2, n3, n4, n5⟩ := sub_nx hM hlt hin
    obtain ⟨g2, e2, J2⟩ := hy k (nxt M0 k) g hk hin n3 n5 hJ
    have gc := hI _ _ J2
    refine ok_go 0 ?_
    refine sy_call 0 (by kernel_rfl) e2 ?_
    refine ok_go 2 ?_
    refine sy_load 0 (r := loadT Tryz.prog g2 3 (ptr cp 0)) (h' := g2) (v := J M0) (by kernel_rfl) (load1 agI gc rfl) ?_
    refine ok_go 3 ?_
    refine sy_yes 0 (b := Int.ofNat k != Int.ofNat M0) (by kernel_rfl) (bne_iff_ne.2 fun h => by have := Int.ofNat.inj h; omega) ?_
    refine ok_go 0 ?_
    refine sy_load 0 (r := loadT Tryz.prog g2 3 (ptr cp 0)) (h' := g2) (v := J M0) (by kernel_rfl) (load1 agI gc rfl) ?_
    refine ok_go 1 ?_
    refine sy_load 0 (r := loadT Tryz.prog g2 3 (ptr cp 0)) (h' := g2) (v := J M0) (by kernel_rfl) (load1 agI gc rfl) ?_
    refine ok_go 1 ?_
    exact sy_next 0 _ g2 (by kernel_rfl) (by kernel_rfl) (ih (nxt M0 k) _ g2 ⟨⟨n4, n2⟩, J2⟩ (show M0 - nxt M0 k < M0 - k by omega) ⟨by kernel_rfl, by kernel_rfl, (by kernel_rfl : _ = I (andI (IntKind.i64.wrap (Int.ofNat k - Int.ofNat M0)) (Int.ofNat M0))).trans (by rw [n1]), trivial⟩)
end Go.Proofs.YtkfbfgcflnkllaaGreatDoor
namespace Go.Proofs.YtkfbfgcflnkllaaGreatDoor
open Go Go.Eng Nim
set_option maxRecDepth 100000
set_option maxHeartbeats 8000000
theorem shat_run (lf m y pa pb n : Nat) (hn : n ≤ 7) (l : List Nat) (hl : l.length ≤ 1024) (hb : ∀ x ∈ l, x < 1024) (hlf : 2000 ≤ lf) (va : Option Addr) (vc : Nat) (h0 : Hp) (hv : Rds h0 (.slice va l.length vc) (l.map J)) (CI : Nat → List (Nat × AObj) → Prop)
    (hno : ∀ s C, s < 2 ^ n → shG l s = false → CI s C → CI (s + 1) C)
    (hy : ∀ s C g F, s < 2 ^ n → shG l s = true → CI s C → Sto h0 g (C ++ F) → ∃ g' C', evInv Tryz.prog orc lf (m + 2) (.yield y [J s]) g = some (.bool true, g') ∧ Sto h0 g' (C' ++ F) ∧ CI (s + 1) C')
    (C0 F0 : List (Nat × AObj)) (h : Hp) (hC0 : CI 0 C0) (W : Sto h0 h ((pa, .cells [J n] 3 false) :: (pb, .cells [.slice va l.length vc] 28 false) :: (F0 ++ C0))) :
    ∃ v h', Ev lf (m + 3) 108 [.func (.yield y) #[] #[], ptr pa 0, ptr pb 0] h = some (v, h') ∧ ∃ C', CI (2 ^ n) C' ∧ Sto h0 h' ((pa, .cells [J n] 3 false) :: (pb, .cells [.slice va l.length vc] 28 false) :: (F0 ++ C')) := by
  refine fnS_ok (Q := fun v h' => ∃ C', CI (2 ^ n) C' ∧ Sto h0 h' ((pa, .cells [J n] 3 false) :: (pb, .cells [.slice va l.length vc] 28 false) :: (F0 ++ C'))) ?_
  have hsh := one_shl n (by omega)
  have h2n : 2 ^ n ≤ 128 := Nat.pow_le_pow_right (by decide) hn
  refine ow_load (P := Tryz.prog) (T := 3) (off := 0) 0 0 W rfl rfl (by kernel_rfl) (by kernel_rfl) ?_
  refine ok_go 2 ?_
  let B : List Nat → List (Nat × AObj) → List (Nat × AObj) := fun ds C => (pa, .cells [J n] 3 false) :: (pb, .cells [.slice va l.length vc] 28 false) :: ((F0 ++ ds.map (fun d => (d, AObj.defd false))) ++ C)
  refine sy_loop 0 lf h (α := Nat × List (Nat × AObj) × List Nat) (fun x => [(0, .func (.yield y) #[] #[]), (1, ptr pa 0), (2, ptr pb 0), (10, J (2 ^ n)), (11, J x.1), (slotD, marksV x.2.2)])
    (fun x g => x.1 ≤ 2 ^ n ∧ CI x.1 x.2.1 ∧ Sto h0 g (B x.2.2 x.2.1)) (fun x _ => 2 ^ n - x.1) (0, C0, []) (by kernel_rfl) (by kernel_rfl)
    ⟨by kernel_rfl, by kernel_rfl, by kernel_rfl, (by kernel_rfl : _ = I (IntKind.i64.wrap (1 * 2 ^ min (IntKind.u64.wrap (Int.ofNat n)).toNat IntKind.i64.bits))).trans (by rw [hsh]), by kernel_rfl, by kernel_rfl, trivial⟩ (show 2 ^ n - 0 < lf by omega) ⟨Nat.zero_le _, hC0, by
      show Sto h0 h (_ :: _ :: ((F0 ++ []) ++ C0))
      rw [List.append_nil]; exact W⟩ ?_
  rintro m1 ⟨s, C, ds⟩ F1 g ⟨hs, hC, W⟩ ih
  dsimp only at hs hC W
  have W : Sto h0 g ((pa, .cells [J n] 3 false) :: (pb, .cells [.slice va l.length vc] 28 false) :: ((F0 ++ ds.map (fun d => (d, AObj.defd false))) ++ C)) := W
  have hw : IntKind.wrap .i64 (Int.ofNat (s + 1)) = Int.ofNat (s + 1) := wrap_nat (by omega)
  refine ok_go 1 ?_
  refine sy_test 0 (decide (Int.ofNat s < Int.ofNat (2 ^ n))) (by kernel_rfl) ?_ ?_
  · intro hlt
    have hlt : s < 2 ^ n := ok_nat hlt
    obtain ⟨_, k1, e1, rfl, X1⟩ := trace_of lf (m + 1) s (by omega) hlf l (by omega) hb _ g (hv.ext W.ext)
    have hT : (fun i => decide (i ∈ l.map (· &&& s))) = trF l s := rfl
    rw [hT] at e1
    have hMl : (mk97 (trF l s)).length = 1024 := cellsF_len ..
    generalize hMM : mk97 (trF l s) = MM at *
    refine ow_load (P := Tryz.prog) (T := 28) (off := 0) 0 1 W rfl rfl (by kernel_rfl) (by kernel_rfl) ?_
    refine sy_call 0 (by kernel_rfl) e1 ?_
    have W := W.call X1
    refine ok_go 0 ?_
    refine ow_new 0 W (.cells (mk97 fun _ => false) 97 false) (fun i => ptr i 0) (by kernel_rfl) fun k2 nk2 W => ?_
    refine ok_go 0 ?_
    refine ow_storeA (P := Tryz.prog) (T := 97) (v := .agg MM.toArray) 0 0 W MM rfl rfl (by rw [hMl]; exact (cellsF_len ..).symm) (by rw [hMl]; kernel_rfl) (by rw [← hMM]; exact mk97_sc _) (by kernel_rfl) fun k3 nk3 W => ?_
    rw [← hMM] at W
    have W : Sto h0 k3 ((k1.next, .cells (mk97 (trF l s)) 97 false) :: (pa, .cells [J n] 3 false) :: (pb, .cells [.slice va l.length vc] 28 false) :: ((F0 ++ ds.map (fun d => (d, AObj.defd false))) ++ C)) := W
    refine ow_new 0 W (AObj.cells [Value.bool false] 4 false) (fun q => Value.pointer (some { block := q, off := 0 })) (by kernel_rfl) fun k4 nk4 Wk4 => ?_
    have W := Wk4
    refine ow_store (P := Tryz.prog) (T := 4) (off := 0) (v := Value.bool true) 0 0 W rfl (Nat.le_of_ble_eq_true (by kernel_rfl)) (by kernel_rfl) (by first | rfl | assumption) (by kernel_rfl) fun k5 nk5 Wk5 => ?_
    have W := Wk5
    refine ow_new 0 W (AObj.cells [Value.int IntKind.i64 (Int.ofNat (Prod.fst (s, C, ds)))] 3 false) (fun q => Value.func (Fn.func 151) { toList := [] } { toList := [Value.pointer (some { block := q, off := 0 })] }) (by kernel_rfl) fun k6 nk6 Wk6 => ?_
    have W := Wk6
    refine ow_range 0 (callF := evInv Tryz.prog orc lf (m + 2)) (P := Tryz.prog) (lf := lf) (m := 34) (rcOf Tryz.prog 108 0) W [(5, ptr k1.next 0), (6, ptr k3.next 0)] 151 [.func (.yield (k6.next + 1)) #[] #[], ptr k5.next 0]
      (by kernel_rfl) (fun F => by kernel_rfl) ⟨by kernel_rfl, by kernel_rfl, trivial⟩ (by kernel_rfl) (by kernel_rfl) fun F1 f2 HH hr nH W => ?_
    let CC : RC := rcOf Tryz.prog 108 0
    let Iv : Nat → Hp → Prop := fun k q => Sto h0 q ((k6.next + 1, CC.obj F1 k6.next .ready none) :: (k6.next, .defd false) :: (k5.next, .cells [J s] 3 false) :: (k3.next, .cells [.bool (upto (trF l s) s k)] 4 false) :: (k1.next, .cells (mk97 (trF l s)) 97 false) :: (pa, .cells [J n] 3 false) :: (pb, .cells [.slice va l.length vc] 28 false) :: ((F0 ++ ds.map (fun d => (d, AObj.defd false))) ++ C))
    have hyI : ∀ k K q, k ≤ s → inB k s = true → k < K → (∀ j, k < j → j < K → inB j s = false) → Iv k q → ∃ q', evInv Tryz.prog orc lf (m + 1) (.yield (k6.next + 1) [J k]) q = some (.bool true, q') ∧ Iv K q' := fun k K q hks hin hkK hnK W => by
      have key : ∃ w q', evInv Tryz.prog orc lf (m + 1) (.yield (k6.next + 1) [J k]) q = some (w, q') ∧ (w = .bool true ∧ Iv K q') := by
        refine yld_ok (c := CC) (Q := fun w q' => w = .bool true ∧ Iv K q') hr (W.get 0 rfl) (by kernel_rfl) ?_
        have W : Sto h0 q ((k6.next + 1, CC.obj F1 k6.next .ready none) :: (k6.next, .defd false) :: (k5.next, .cells [J s] 3 false) :: (k3.next, .cells [.bool (upto (trF l s) s k)] 4 false) :: (k1.next, .cells (mk97 (trF l s)) 97 false) :: (pa, .cells [J n] 3 false) :: (pb, .cells [.slice va l.length vc] 28 false) :: ((F0 ++ ds.map (fun d => (d, AObj.defd false))) ++ C)) := W
        have hup := upto_nx (t := trF l s) hin hkK hnK
        have hkb : k < 1024 := by omega
        refine ow_busy 0 0 W rfl (by kernel_rfl) fun b1 nb1 Wb1 => ?_
        have W := Wb1
        refine ow_load (P := Tryz.prog) (T := 4) (off := 0) 0 3 W rfl rfl (by kernel_rfl) (by kernel_rfl) ?_
        by_cases hu : upto (trF l s) s k = true
        · refine sy_yes 0 (b := upto (trF l s) s k) (by kernel_rfl) hu ?_
          refine ok_go 1 ?_
          refine sy_load 0 (r := indexAddrOp Tryz.prog 97 (ptr k1.next 0) (J k)) (h' := b1) (v := ptr k1.next k) (by kernel_rfl) (idxM hkb) ?_
          refine ok_go 1 ?_
          refine ow_loadF (P := Tryz.prog) (T := 4) (off := k) 0 4 W rfl hkb (by kernel_rfl) (by kernel_rfl) ?_
          refine ow_store (P := Tryz.prog) (T := 4) (off := 0) (v := Value.bool (trF l s k)) 1 3 W rfl (Nat.le_of_ble_eq_true (by kernel_rfl)) (by kernel_rfl) (by first | rfl | assumption) (by kernel_rfl) fun c1 nc1 Wc1 => ?_
          have W := Wc1
          refine ow_round 0 0 W rfl (by kernel_rfl) fun c2 nc2 Wc2 => ?_
          have W := Wc2
          rw [hu, Bool.true_and] at hup
          have W : Sto h0 c2 ((k6.next + 1, CC.obj F1 k6.next .ready none) :: (k6.next, .defd false) :: (k5.next, .cells [J s] 3 false) :: (k3.next, .cells [.bool (trF l s k)] 4 false) :: (k1.next, .cells (mk97 (trF l s)) 97 false) :: (pa, .cells [J n] 3 false) :: (pb, .cells [.slice va l.length vc] 28 false) :: ((F0 ++ ds.map (fun d => (d, AObj.defd false))) ++ C)) := W
          rw [← hup] at W
          refine sy_done 0 (v := Value.bool true) (h := c2) (by kernel_rfl) ?_
          exact ⟨rfl, W⟩
        · have hu := Bool.eq_false_iff.2 hu
          refine sy_no 0 (b := upto (trF l s) s k) (by kernel_rfl) hu ?_
          refine ow_store (P := Tryz.prog) (T := 4) (off := 0) (v := Value.bool false) 3 3 W rfl (Nat.le_of_ble_eq_true (by kernel_rfl)) (by kernel_rfl) (by first | rfl | assumption) (by kernel_rfl) fun c1 nc1 Wc1 => ?_
          have W := Wc1
          refine ow_round 0 0 W rfl (by kernel_rfl) fun c2 nc2 Wc2 => ?_
          have W := Wc2
          rw [hu, Bool.false_and] at hup
          have W : Sto h0 c2 ((k6.next + 1, CC.obj F1 k6.next .ready none) :: (k6.next, .defd false) :: (k5.next, .cells [J s] 3 false) :: (k3.next, .cells [.bool (upto (trF l s) s K)] 4 false) :: (k1.next, .cells (mk97 (trF l s)) 97 false) :: (pa, .cells [J n] 3 false) :: (pb, .cells [.slice va l.length vc] 28 false) :: ((F0 ++ ds.map (fun d => (d, AObj.defd false))) ++ C)) := by rw [hup]; exact W
          refine sy_done 0 (v := Value.bool true) (h := c2) (by kernel_rfl) ?_
          exact ⟨rfl, W⟩
      obtain ⟨w, q', e, rfl, J1⟩ := key
      exact ⟨q', e, J1⟩
    obtain ⟨v8, h8, e8, J8⟩ := within_run lf (m + 1) (k6.next + 1) k5.next s (by omega) hlf Iv (fun k g W => W.get 2 rfl) hyI HH W
    refine ⟨v8, h8, .ready, none, k6.next, .normal, _, e8, J8, by decide, rfl, fun h9 n9 W => ?_⟩
    have hsg : upto (trF l s) s (s + 1) = shG l s := rfl
    rw [hsg] at W
    have W : Sto h0 h9 ([(k5.next, .cells [J s] 3 false), (k3.next, .cells [.bool (shG l s)] 4 false), (k1.next, .cells (mk97 (trF l s)) 97 false)] ++ B (k6.next :: ds) C) := W.perm (by
      show List.Perm ((k6.next, AObj.defd false) :: (_ :: _ :: _ :: _ :: _ :: ((F0 ++ ds.map (fun d => (d, AObj.defd false))) ++ C))) (_ :: _ :: _ :: _ :: _ :: ((F0 ++ (k6.next, AObj.defd false) :: ds.map (fun d => (d, AObj.defd false))) ++ C))
      refine (List.perm_middle (l₁ := [_, _, _, _, _])).symm.trans ?_
      refine List.Perm.append_left [_, _, _, _, _] ?_
      exact List.Perm.append_right C List.perm_middle.symm)
    have W : Sto h0 h9 ((k5.next, .cells [J s] 3 false) :: (k3.next, .cells [.bool (shG l s)] 4 false) :: (k1.next, .cells (mk97 (trF l s)) 97 false) :: B (k6.next :: ds) C) := W
    by_cases hsv : shG l s = true
    · refine ow_load (P := Tryz.prog) (T := 4) (off := 0) 0 1 W rfl rfl (by kernel_rfl) (by kernel_rfl) ?_
      refine sy_yes 0 (b := shG l s) (by kernel_rfl) hsv ?_
      obtain ⟨g5, C5, e5, W5, hC5⟩ := hy s C h9 (B (k6.next :: ds) []) hlt hsv hC (by
        have := W.drop 3
        refine this.perm ?_
        show List.Perm (_ :: _ :: ((F0 ++ (k6.next :: ds).map (fun d => (d, AObj.defd false))) ++ C)) (C ++ (_ :: _ :: ((F0 ++ (k6.next :: ds).map (fun d => (d, AObj.defd false))) ++ [])))
        rw [List.append_nil]
        exact (List.perm_append_comm (l₁ := _ :: _ :: (F0 ++ (k6.next :: ds).map (fun d => (d, AObj.defd false))))))
      have W : Sto h0 g5 (B (k6.next :: ds) C5) := W5.perm (by
        show List.Perm (C5 ++ (_ :: _ :: ((F0 ++ (k6.next :: ds).map (fun d => (d, AObj.defd false))) ++ []))) (_ :: _ :: ((F0 ++ (k6.next :: ds).map (fun d => (d, AObj.defd false))) ++ C5))
        rw [List.append_nil]
        exact (List.perm_append_comm (l₂ := _ :: _ :: (F0 ++ (k6.next :: ds).map (fun d => (d, AObj.defd false))))))
      refine ok_go 2 ?_
      refine sy_call 0 (by kernel_rfl) e5 ?_
      refine ok_go 5 ?_
      exact sy_next 0 _ g5 (by kernel_rfl) (by kernel_rfl) (ih (s + 1, C5, k6.next :: ds) _ g5 ⟨hlt, hC5, W⟩ (show 2 ^ n - (s + 1) < 2 ^ n - s by omega) ⟨by kernel_rfl, by kernel_rfl, by kernel_rfl, by kernel_rfl, (by kernel_rfl : _ = Value.int .i64 (IntKind.wrap .i64 (Int.ofNat (s + 1)))).trans (by rw [hw]), by kernel_rfl, trivial⟩)
    · have hsv := Bool.eq_false_iff.2 hsv
      refine ow_load (P := Tryz.prog) (T := 4) (off := 0) 0 1 W rfl rfl (by kernel_rfl) (by kernel_rfl) ?_
      refine sy_no 0 (b := shG l s) (by kernel_rfl) hsv ?_
      have W := W.drop 3
      refine ok_go 6 ?_
      exact sy_next 0 _ h9 (by kernel_rfl) (by kernel_rfl) (ih (s + 1, C, k6.next :: ds) _ h9 ⟨hlt, hno s C hlt hsv hC, W⟩ (show 2 ^ n - (s + 1) < 2 ^ n - s by omega) ⟨by kernel_rfl, by kernel_rfl, by kernel_rfl, by kernel_rfl, (by kernel_rfl : _ = Value.int .i64 (IntKind.wrap .i64 (Int.ofNat (s + 1)))).trans (by rw [hw]), by kernel_rfl, trivial⟩)
  · intro hlt
    have hlt : s = 2 ^ n := Nat.le_antisymm hs (no_nat hlt)
    subst hlt
    have W : Sto h0 g (ds.map (fun d => (d, AObj.defd false)) ++ ((pa, .cells [J n] 3 false) :: (pb, .cells [.slice va l.length vc] 28 false) :: (F0 ++ C))) := W.perm (by
      refine List.Perm.trans ?_ (List.perm_append_comm)
      show List.Perm (_ :: _ :: ((F0 ++ ds.map (fun d => (d, AObj.defd false))) ++ C)) (_ :: _ :: ((F0 ++ C) ++ ds.map (fun d => (d, AObj.defd false))))
      refine List.Perm.cons _ (List.Perm.cons _ ?_)
      rw [List.append_assoc, List.append_assoc]
      exact List.Perm.append_left F0 List.perm_append_comm)
    refine ok_go 0 ?_
    refine ow_marks 0 ds W (by kernel_rfl) fun g6 ng6 W => ?_
    refine sy_done 0 (v := Value.tuple { toList := [] }) (h := g6) (by kernel_rfl) ?_
    exact ⟨C, hC, W⟩
end Go.Proofs.YtkfbfgcflnkllaaGreatDoor
namespace Go.Proofs.YtkfbfgcflnkllaaGreatDoor
open Go Go.Eng Nim
set_option maxRecDepth 100000
set_option maxHeartbeats 8000000
theorem appseq_of (lf m pa pb n : Nat) (hn : n ≤ 7) (l : List Nat) (hl : l.length ≤ 1024) (hb : ∀ x ∈ l, x < 1024) (hlf : 2000 ≤ lf) (va : Option Addr) (vc : Nat) (h0 h : Hp) (hv : Rds h0 (.slice va l.length vc) (l.map J))
    (W : Sto h0 h [(pa, .cells [J n] 3 false), (pb, .cells [.slice va l.length vc] 28 false)]) :
    ∃ v h', Ev lf (m + 4) 107 [.slice none 0 0, .func (.func 108) #[] #[ptr pa 0, ptr pb 0]] h = some (v, h') ∧ ∃ q, v = oslV q (lst (shG l) (2 ^ n)).length ∧ Sto h0 h' (oent q 3 ((lst (shG l) (2 ^ n)).map J)) := by
  refine fnS_ok (Q := fun v h' => ∃ q, v = oslV q (lst (shG l) (2 ^ n)).length ∧ Sto h0 h' (oent q 3 ((lst (shG l) (2 ^ n)).map J))) ?_
  have h2n : 2 ^ n ≤ 128 := Nat.pow_le_pow_right (by decide) hn
  refine ow_new 0 W (AObj.cells [Value.slice none 0 0] 28 false) (fun q => Value.pointer (some { block := q, off := 0 })) (by kernel_rfl) fun g1 ng1 Wg1 => ?_
  have W := Wg1
  refine ow_range 0 (callF := evInv Tryz.prog orc lf (m + 3)) (P := Tryz.prog) (lf := lf) (m := 13) (rcOf Tryz.prog 107 0) W [(2, ptr h.next 0)] 108 [.func (.yield (g1.next + 1)) #[] #[], ptr pa 0, ptr pb 0]
    (by kernel_rfl) (fun F => by kernel_rfl) ⟨by kernel_rfl, trivial⟩ (by kernel_rfl) (by kernel_rfl) fun F1 f2 HH hr nH W => ?_
  let CC : RC := rcOf Tryz.prog 107 0
  let CI : Nat → List (Nat × AObj) → Prop := fun s C => s ≤ 2 ^ n ∧ ∃ q sl, sl = oslV q (lst (shG l) s).length ∧ scalar sl = true ∧ C = (g1.next + 1, CC.obj F1 g1.next .ready none) :: (g1.next, .defd false) :: (h.next, .cells [sl] 28 false) :: oent q 3 ((lst (shG l) s).map J)
  have body : ∀ s C g F, s < 2 ^ n → shG l s = true → CI s C → Sto h0 g (C ++ F) → ∃ w g', evInv Tryz.prog orc lf (m + 2) (.yield (g1.next + 1) [J s]) g = some (w, g') ∧ ∃ C', w = .bool true ∧ Sto h0 g' (C' ++ F) ∧ CI (s + 1) C' := fun s C g F hs hg hC W => by
    obtain ⟨_, q, sl, hsl, hsc, rfl⟩ := hC
    have hll := lst_len (shG l) s
    have hls := lst_succ (shG l) s
    rw [if_pos hg] at hls
    refine yld_ok (c := CC) (Q := fun w g' => ∃ C', w = .bool true ∧ Sto h0 g' (C' ++ F) ∧ CI (s + 1) C') hr (W.get 0 rfl) (by kernel_rfl) ?_
    have W : Sto h0 g ((g1.next + 1, CC.obj F1 g1.next .ready none) :: (g1.next, .defd false) :: (h.next, .cells [sl] 28 false) :: (oent q 3 ((lst (shG l) s).map J) ++ F)) := W
    refine ow_busy 0 0 W rfl (by kernel_rfl) fun b1 nb1 Wb1 => ?_
    have W := Wb1
    refine ow_load (P := Tryz.prog) (T := 28) (off := 0) 0 2 W rfl rfl (by kernel_rfl) (by kernel_rfl) ?_
    refine ow_new 0 W (AObj.cells [Value.int IntKind.i64 (Int.ofNat s)] 3 false) (fun q => Value.slice (some { block := q, off := 0 }) 1 2) (by kernel_rfl) fun b2 nb2 Wb2 => ?_
    have W := Wb2
    have W : Sto h0 b2 ((b1.next, .cells [J s] 3 false) :: (([(g1.next + 1, CC.obj F1 g1.next .busy none), (g1.next, .defd false), (h.next, .cells [sl] 28 false)] ++ F) ++ oent q 3 ((lst (shG l) s).map J))) := W.perm (List.Perm.cons _ (List.Perm.append_left [_, _, _] (List.perm_append_comm)))
    refine ow_app (P := Tryz.prog) (t := 28) (e := 3) (z := 1) (c := (lst (shG l) s).length) (i := q) 0 W slz28 (by rw [List.length_map, Nat.mul_one]) rfl rfl (by omega) (by rw [← hsl]; kernel_rfl) fun b3 sl2 nb3 hsl2 hsc2 W => ?_
    have W : Sto h0 b3 ((g1.next + 1, CC.obj F1 g1.next .busy none) :: (g1.next, .defd false) :: (h.next, .cells [sl] 28 false) :: (F ++ oent b2.next 3 ((lst (shG l) s).map J ++ [J s]))) := W
    refine ow_store (P := Tryz.prog) (T := 28) (off := 0) (v := sl2) 0 2 W rfl (Nat.le_of_ble_eq_true (by kernel_rfl)) (by kernel_rfl) (by first | rfl | assumption) (by kernel_rfl) fun c1 nc1 Wc1 => ?_
    have W := Wc1
    refine ow_round 0 0 W rfl (by kernel_rfl) fun c2 nc2 Wc2 => ?_
    have W := Wc2
    refine sy_done 0 (v := Value.bool true) (h := c2) (by kernel_rfl) ?_
    have W : Sto h0 c2 ((g1.next + 1, CC.obj F1 g1.next .ready none) :: (g1.next, .defd false) :: (h.next, .cells [sl2] 28 false) :: (F ++ oent b2.next 3 ((lst (shG l) s).map J ++ [J s]))) := W
    exact ⟨_, rfl, W.perm (List.Perm.cons _ (List.Perm.cons _ (List.Perm.cons _ List.perm_append_comm))), hs, b2.next, sl2, by rw [hls, List.length_append]; exact hsl2, hsc2, by rw [hls, List.map_append]⟩
  obtain ⟨v8, h8, e8, C8, ⟨_, q, sl, hsl, hsc, rfl⟩, W8⟩ := shat_run lf m (g1.next + 1) pa pb n hn l hl hb hlf va vc h0 hv CI
    (fun s C hs hg hC => by
      obtain ⟨_, q, sl, hsl, hsc, rfl⟩ := hC
      have hls := lst_succ (shG l) s
      rw [if_neg (by rw [hg]; simp)] at hls
      exact ⟨hs, q, sl, by rw [hls]; exact hsl, hsc, by rw [hls]⟩)
    (fun s C g F hs hg hC W => by
      obtain ⟨w, g', e, C', rfl, W', h1⟩ := body s C g F hs hg hC W
      exact ⟨g', C', e, W', h1⟩)
    [(g1.next + 1, CC.obj F1 g1.next .ready none), (g1.next, .defd false), (h.next, .cells [.slice none 0 0] 28 false)] [] HH ⟨Nat.zero_le _, 0, .slice none 0 0, rfl, rfl, rfl⟩
    (W.perm (List.perm_append_comm (l₁ := [_, _, _]) (l₂ := [_, _])))
  have W8 : Sto h0 h8 ((g1.next + 1, (rcOf Tryz.prog 107 0).obj F1 g1.next .ready none) :: (g1.next, .defd false) :: (h.next, .cells [sl] 28 false) :: (oent q 3 ((lst (shG l) (2 ^ n)).map J) ++ [(pa, .cells [J n] 3 false), (pb, .cells [.slice va l.length vc] 28 false)])) := W8.perm (List.perm_append_comm (l₁ := [_, _]))
  refine ⟨v8, h8, .ready, none, g1.next, .normal, _, e8, W8, by decide, rfl, fun h9 n9 W => ?_⟩
  refine ow_load (P := Tryz.prog) (T := 28) (off := 0) 0 1 W rfl rfl (by kernel_rfl) (by kernel_rfl) ?_
  have W : Sto h0 h9 ([g1.next].map (fun d => (d, AObj.defd false)) ++ ((h.next, .cells [sl] 28 false) :: (oent q 3 ((lst (shG l) (2 ^ n)).map J) ++ [(pa, .cells [J n] 3 false), (pb, .cells [.slice va l.length vc] 28 false)]))) := W
  refine ow_marks 0 [g1.next] W (by kernel_rfl) fun h10 n10 W => ?_
  refine sy_done 0 (v := sl) (h := h10) (by kernel_rfl) ?_
  exact ⟨q, hsl, (W.drop 1).sub (List.sublist_append_left _ _)⟩
theorem collect_of (lf m pa pb n : Nat) (hn : n ≤ 7) (l : List Nat) (hl : l.length ≤ 1024) (hb : ∀ x ∈ l, x < 1024) (hlf : 2000 ≤ lf) (va : Option Addr) (vc : Nat) (h0 h : Hp) (hv : Rds h0 (.slice va l.length vc) (l.map J))
    (W : Sto h0 h [(pa, .cells [J n] 3 false), (pb, .cells [.slice va l.length vc] 28 false)]) :
    ∃ v h', Ev lf (m + 5) 78 [.func (.func 108) #[] #[ptr pa 0, ptr pb 0]] h = some (v, h') ∧ ∃ q, v = oslV q (lst (shG l) (2 ^ n)).length ∧ Sto h0 h' (oent q 3 ((lst (shG l) (2 ^ n)).map J)) := by
  refine fnS_ok (Q := fun v h' => ∃ q, v = oslV q (lst (shG l) (2 ^ n)).length ∧ Sto h0 h' (oent q 3 ((lst (shG l) (2 ^ n)).map J))) ?_
  obtain ⟨_, h2, e2, q, rfl, W2⟩ := appseq_of lf m pa pb n hn l hl hb hlf va vc h0 h hv W
  obtain ⟨oa, oc, ho⟩ := osl_shape q (lst (shG l) (2 ^ n)).length
  rw [ho] at e2
  refine ok_go 0 ?_
  refine sy_call 0 (by kernel_rfl) e2 ?_
  refine ok_go 0 ?_
  exact sy_done 0 (v := .slice oa (lst (shG l) (2 ^ n)).length oc) (h := h2) (by kernel_rfl) ⟨q, ho.symm, W2⟩
theorem shattered_of (lf m : Nat) (hlf : 2000 ≤ lf) (n : Nat) (hn : n ≤ 7) (f : Nat → Bool) (v : Value) (h : Hp) (hv : Rds h v ((lst f (2 ^ n)).map J)) :
    ∃ v' h', Ev lf (m + 6) 34 [J n, v] h = some (v', h') ∧ ∃ q, v' = .tuple #[oslV q (lst (shG (lst f (2 ^ n))) (2 ^ n)).length, J 0] ∧ Sto h h' (oent q 3 ((lst (shG (lst f (2 ^ n))) (2 ^ n)).map J)) := by
  refine fnS_ok (Q := fun v' h' => ∃ q, v' = .tuple #[oslV q (lst (shG (lst f (2 ^ n))) (2 ^ n)).length, J 0] ∧ Sto h h' (oent q 3 ((lst (shG (lst f (2 ^ n))) (2 ^ n)).map J))) ?_
  have h2n : 2 ^ n ≤ 128 := Nat.pow_le_pow_right (by decide) hn
  have hll := lst_len f (2 ^ n)
  have e1 := chk_lst lf (m + 4) hlf n (by omega) f v h hv
  obtain ⟨va, vc, hvs⟩ := hv.shape
  rw [List.length_map] at hvs
  subst hvs
  have hlm : ∀ x ∈ lst f (2 ^ n), x < 1024 := fun x hx => by have := (lst_mem.1 hx).1; omega
  generalize lst f (2 ^ n) = L at *
  have W := Sto.start h
  refine ok_go 0 ?_
  refine sy_call 0 (by kernel_rfl) e1 ?_
  have W := ((W.new (.cells [J n] 3 false)).new (.cells [.slice va L.length vc] 28 false)).perm (List.Perm.swap _ _ _)
  obtain ⟨_, h2, e2, q, rfl, W2⟩ := collect_of lf m h.next (h.next + 1) n hn L (by omega) hlm hlf va vc h _ hv W
  obtain ⟨oa, oc, ho⟩ := osl_shape q (lst (shG L) (2 ^ n)).length
  rw [ho] at e2
  refine ok_go 3 ?_
  refine sy_call 0 (by kernel_rfl) e2 ?_
  refine ok_go 0 ?_
  exact sy_done 0 (v := .tuple #[.slice oa (lst (shG L) (2 ^ n)).length oc, J 0]) (h := h2) (by kernel_rfl) ⟨q, by rw [ho], W2⟩
end Go.Proofs.YtkfbfgcflnkllaaGreatDoor
namespace Go.Proofs.YtkfbfgcflnkllaaGreatDoor
open Go Go.Eng Nim
set_option maxRecDepth 100000
set_option maxHeartbeats 8000000
def anU (z k : Int) : Int := IntKind.u64.wrap (Int.ofNat (BitVec.ofInt IntKind.u64.bits z &&& BitVec.ofInt IntKind.u64.bits k).toNat)
def shU (z : Int) (k : Int) : Int := z.fdiv (2 ^ min (Int.toNat k) IntKind.u64.bits)
def ptB (a : Int) : Int := IntKind.u64.wrap (anU (shU a 1) 6148914691236517205 + anU a 6148914691236517205)
def ptC (a : Int) : Int := IntKind.u64.wrap (anU (shU a 2) 3689348814741910323 + anU a 3689348814741910323)
def ptD (a : Int) : Int := anU (IntKind.u64.wrap (shU a 4 + a)) 1085102592571150095
def ptE (k a : Int) : Int := IntKind.u64.wrap (a + shU a k)
def cntE (x : Nat) : Int :=
  let g := ptE 32 (ptE 16 (ptE 8 (ptD (ptC (ptB (IntKind.u64.wrap (Int.ofNat x)))))))
  IntKind.i64.wrap (Int.ofNat (BitVec.ofInt IntKind.i64.bits (IntKind.i64.wrap g) &&& BitVec.ofInt IntKind.i64.bits 127).toNat)
theorem cntE_all : ((List.range 1024).all fun x => cntE x == Int.ofNat (pcF 10 x)) = true := by decide +kernel
theorem cntE_eq {x : Nat} (hx : x < 1024) : cntE x = Int.ofNat (pcF 10 x) := eq_of_beq (List.all_eq_true.1 cntE_all x (List.mem_range.2 hx))
theorem count_of (lf m : Nat) (x : Nat) (hx : x < 1024) (h : Hp) : Ev lf (m + 3) 66 [J x] h = some (J (pcF 10 x), h) := by
  have he : cntE x = Int.ofNat (pcF 10 x) := eq_of_beq (List.all_eq_true.1 cntE_all x (List.mem_range.2 hx))
  show _ = some (I (Int.ofNat (pcF 10 x)), h)
  rw [← he]
  refine fn_eq ?_
  exact sy_done 2 (v := I (cntE x)) (h := h) (by kernel_rfl) ⟨rfl, rfl⟩
end Go.Proofs.YtkfbfgcflnkllaaGreatDoor
namespace Go.Proofs.YtkfbfgcflnkllaaGreatDoor
open Go Go.Eng Nim
set_option maxRecDepth 100000
set_option maxHeartbeats 8000000
theorem dim_of (lf m : Nat) (hlf : 2000 ≤ lf) (n : Nat) (hn : n ≤ 7) (f : Nat → Bool) (v : Value) (h : Hp) (hv : Rds h v ((lst f (2 ^ n)).map J)) :
    ∃ v' h', Ev lf (m + 6) 35 [J n, v] h = some (v', h') ∧ v' = .tuple #[I (dimS (lst (shG (lst f (2 ^ n))) (2 ^ n)) (-1, 0)).1, J (dimS (lst (shG (lst f (2 ^ n))) (2 ^ n)) (-1, 0)).2, J 0] ∧ h.Ext h' := by
  refine fnS_ok (Q := fun v' h' => v' = .tuple #[I (dimS (lst (shG (lst f (2 ^ n))) (2 ^ n)) (-1, 0)).1, J (dimS (lst (shG (lst f (2 ^ n))) (2 ^ n)) (-1, 0)).2, J 0] ∧ h.Ext h') ?_
  have h2n : 2 ^ n ≤ 128 := Nat.pow_le_pow_right (by decide) hn
  have hll := lst_len f (2 ^ n)
  have e1 := chk_lst lf (m + 4) hlf n (by omega) f v h hv
  obtain ⟨va, vc, hvs⟩ := hv.shape
  rw [List.length_map] at hvs
  subst hvs
  have hlm : ∀ x ∈ lst f (2 ^ n), x < 1024 := fun x hx => by have := (lst_mem.1 hx).1; omega
  generalize lst f (2 ^ n) = L at *
  have W := Sto.start h
  refine ok_go 0 ?_
  refine sy_call 0 (by kernel_rfl) e1 ?_
  refine ow_new 2 W (AObj.cells [J 0] 3 false) (fun q => ptr q 0) (by kernel_rfl) fun g1 ng1 W => ?_
  refine ow_new 0 W (AObj.cells [J 0] 3 false) (fun q => ptr q 0) (by kernel_rfl) fun g2 ng2 W => ?_
  refine ow_store (P := Tryz.prog) (T := 3) (off := 0) (v := I (Int.negSucc 0)) 0 1 W rfl (Nat.le_of_ble_eq_true (by kernel_rfl)) (by kernel_rfl) (by first | rfl | assumption) (by kernel_rfl) fun g3 ng3 W => ?_
  refine ow_store (P := Tryz.prog) (T := 3) (off := 0) (v := J 0) 0 0 W rfl (Nat.le_of_ble_eq_true (by kernel_rfl)) (by kernel_rfl) (by first | rfl | assumption) (by kernel_rfl) fun g4 ng4 W => ?_
  have W := (W.new (.cells [J n] 3 false)).new (.cells [.slice va L.length vc] 28 false)
  obtain ⟨g6, hg6⟩ : ∃ g6, (g4.new (.cells [J n] 3 false)).new (.cells [.slice va L.length vc] 28 false) = g6 := ⟨_, rfl⟩
  refine sy_call 0 (r := some (.func (.func 108) #[] #[ptr g4.next 0, ptr (g4.next + 1) 0], (g4.new (.cells [J n] 3 false)).new (.cells [.slice va L.length vc] 28 false))) (by kernel_rfl) (congrArg (fun H => some (Value.func (.func 108) #[] #[ptr g4.next 0, ptr (g4.next + 1) 0], H)) hg6) ?_
  rw [hg6] at W
  have W := W.perm (List.Perm.swap _ _ _)
  have W : Sto h g6 ((g4.next, .cells [J n] 3 false) :: (g4.next + 1, .cells [.slice va L.length vc] 28 false) :: (g1.next, .cells [J 0] 3 false) :: [(h.next, .cells [I (Int.negSucc 0)] 3 false)]) := W
  refine ow_range 0 (callF := evInv Tryz.prog orc lf (m + 5)) (P := Tryz.prog) (lf := lf) (m := 30) (rcOf Tryz.prog 35 0) W [(8, ptr h.next 0), (9, ptr g1.next 0)] 108 [.func (.yield (g6.next + 1)) #[] #[], ptr g4.next 0, ptr (g4.next + 1) 0]
    (by kernel_rfl) (fun F => by kernel_rfl) ⟨by kernel_rfl, by kernel_rfl, trivial⟩ (by kernel_rfl) (by kernel_rfl) fun F1 f2 HH hr nH W => ?_
  let CC : RC := rcOf Tryz.prog 35 0
  let CI : Nat → List (Nat × AObj) → Prop := fun s C => s ≤ 2 ^ n ∧ C = (g6.next + 1, CC.obj F1 g6.next .ready none) :: (g6.next, .defd false) :: (g1.next, .cells [J (dimS (lst (shG L) s) (-1, 0)).2] 3 false) :: [(h.next, .cells [I (dimS (lst (shG L) s) (-1, 0)).1] 3 false)]
  have body : ∀ s C g F, s < 2 ^ n → shG L s = true → CI s C → Sto h g (C ++ F) → ∃ w g', evInv Tryz.prog orc lf (m + 4) (.yield (g6.next + 1) [J s]) g = some (w, g') ∧ ∃ C', w = .bool true ∧ Sto h g' (C' ++ F) ∧ CI (s + 1) C' := fun s C g F hs hg hC W => by
    obtain ⟨_, rfl⟩ := hC
    have hls := lst_succ (shG L) s
    rw [if_pos hg] at hls
    have hd : dimS (lst (shG L) (s + 1)) (-1, 0) = if Int.ofNat (pcF 10 s) > (dimS (lst (shG L) s) (-1, 0)).1 then (Int.ofNat (pcF 10 s), s) else dimS (lst (shG L) s) (-1, 0) := by
      rw [hls, dimS_app]; rfl
    refine yld_ok (c := CC) (Q := fun w g' => ∃ C', w = .bool true ∧ Sto h g' (C' ++ F) ∧ CI (s + 1) C') hr (W.get 0 rfl) (by kernel_rfl) ?_
    have hCI : ∀ C, C = (g6.next + 1, CC.obj F1 g6.next .ready none) :: (g6.next, AObj.defd false) :: (g1.next, AObj.cells [J (if Int.ofNat (pcF 10 s) > (dimS (lst (shG L) s) (-1, 0)).1 then (Int.ofNat (pcF 10 s), s) else dimS (lst (shG L) s) (-1, 0)).2] 3 false) :: [(h.next, AObj.cells [I (if Int.ofNat (pcF 10 s) > (dimS (lst (shG L) s) (-1, 0)).1 then (Int.ofNat (pcF 10 s), s) else dimS (lst (shG L) s) (-1, 0)).1] 3 false)] → CI (s + 1) C := fun C hC => ⟨hs, by rw [hd]; exact hC⟩
    generalize CI (s + 1) = CJ at *
    clear hd hls
    generalize dimS (lst (shG L) s) (-1, 0) = D at *
    obtain ⟨d, w⟩ := D
    dsimp only at hCI
    have W : Sto h g ((g6.next + 1, CC.obj F1 g6.next .ready none) :: (g6.next, .defd false) :: (g1.next, .cells [J w] 3 false) :: (h.next, .cells [I d] 3 false) :: F) := W
    have ec := fun g => count_of lf m s (by omega) g
    refine ow_busy 0 0 W rfl (by kernel_rfl) fun b1 nb1 Wb1 => ?_
    have W := Wb1
    refine ow_load (P := Tryz.prog) (T := 3) (off := 0) 1 3 W rfl rfl (by kernel_rfl) (by kernel_rfl) ?_
    refine ok_go 1 ?_
    refine sy_need 0 [1] [⟨some (Value.tuple { toList := [] }, b1), Value.tuple { toList := [] }, b1⟩] (by kernel_rfl) ⟨rfl, trivial⟩ ?_
    have hce := cntE_eq (x := s) (by omega)
    rw [← hce] at hCI
    clear ec
    generalize hcz : cntE s = cz at *
    by_cases hc : cz > d
    · rw [if_pos hc] at hCI
      subst hcz
      refine sy_yes 0 (b := decide (cntE s > d)) (by kernel_rfl) (decide_eq_true hc) ?_
      refine ow_store (P := Tryz.prog) (T := 3) (off := 0) (v := Value.int IntKind.i64 (IntKind.wrap IntKind.i64 (Int.ofNat (BitVec.toNat (BitVec.ofInt (IntKind.bits IntKind.i64) (IntKind.wrap IntKind.i64 (IntKind.wrap IntKind.u64 (IntKind.wrap IntKind.u64 (IntKind.wrap IntKind.u64 (IntKind.wrap IntKind.u64 ↑(BitVec.toNat (BitVec.ofInt (IntKind.bits IntKind.u64) (IntKind.wrap IntKind.u64 (Int.fdiv (IntKind.wrap IntKind.u64 (IntKind.wrap IntKind.u64 ↑(BitVec.toNat (BitVec.ofInt (IntKind.bits IntKind.u64) (Int.fdiv (IntKind.wrap IntKind.u64 (IntKind.wrap IntKind.u64 ↑(BitVec.toNat (BitVec.ofInt (IntKind.bits IntKind.u64) (Int.fdiv (IntKind.wrap IntKind.u64 (Int.ofNat s)) (2 ^ min (Int.toNat 1) (IntKind.bits IntKind.u64))) &&& BitVec.ofInt (IntKind.bits IntKind.u64) 6148914691236517205)) + IntKind.wrap IntKind.u64 ↑(BitVec.toNat (BitVec.ofInt (IntKind.bits IntKind.u64) (IntKind.wrap IntKind.u64 (Int.ofNat s)) &&& BitVec.ofInt (IntKind.bits IntKind.u64) 6148914691236517205)))) (2 ^ min (Int.toNat 2) (IntKind.bits IntKind.u64))) &&& BitVec.ofInt (IntKind.bits IntKind.u64) 3689348814741910323)) + IntKind.wrap IntKind.u64 ↑(BitVec.toNat (BitVec.ofInt (IntKind.bits IntKind.u64) (IntKind.wrap IntKind.u64 (IntKind.wrap IntKind.u64 ↑(BitVec.toNat (BitVec.ofInt (IntKind.bits IntKind.u64) (Int.fdiv (IntKind.wrap IntKind.u64 (Int.ofNat s)) (2 ^ min (Int.toNat 1) (IntKind.bits IntKind.u64))) &&& BitVec.ofInt (IntKind.bits IntKind.u64) 6148914691236517205)) + IntKind.wrap IntKind.u64 ↑(BitVec.toNat (BitVec.ofInt (IntKind.bits IntKind.u64) (IntKind.wrap IntKind.u64 (Int.ofNat s)) &&& BitVec.ofInt (IntKind.bits IntKind.u64) 6148914691236517205)))) &&& BitVec.ofInt (IntKind.bits IntKind.u64) 3689348814741910323)))) (2 ^ min (Int.toNat 4) (IntKind.bits IntKind.u64)) + IntKind.wrap IntKind.u64 (IntKind.wrap IntKind.u64 ↑(BitVec.toNat (BitVec.ofInt (IntKind.bits IntKind.u64) (Int.fdiv (IntKind.wrap IntKind.u64 (IntKind.wrap IntKind.u64 ↑(BitVec.toNat (BitVec.ofInt (IntKind.bits IntKind.u64) (Int.fdiv (IntKind.wrap IntKind.u64 (Int.ofNat s)) (2 ^ min (Int.toNat 1) (IntKind.bits IntKind.u64))) &&& BitVec.ofInt (IntKind.bits IntKind.u64) 6148914691236517205)) + IntKind.wrap IntKind.u64 ↑(BitVec.toNat (BitVec.ofInt (IntKind.bits IntKind.u64) (IntKind.wrap IntKind.u64 (Int.ofNat s)) &&& BitVec.ofInt (IntKind.bits IntKind.u64) 6148914691236517205)))) (2 ^ min (Int.toNat 2) (IntKind.bits IntKind.u64))) &&& BitVec.ofInt (IntKind.bits IntKind.u64) 3689348814741910323)) + IntKind.wrap IntKind.u64 ↑(BitVec.toNat (BitVec.ofInt (IntKind.bits IntKind.u64) (IntKind.wrap IntKind.u64 (IntKind.wrap IntKind.u64 ↑(BitVec.toNat (BitVec.ofInt (IntKind.bits IntKind.u64) (Int.fdiv (IntKind.wrap IntKind.u64 (Int.ofNat s)) (2 ^ min (Int.toNat 1) (IntKind.bits IntKind.u64))) &&& BitVec.ofInt (IntKind.bits IntKind.u64) 6148914691236517205)) + IntKind.wrap IntKind.u64 ↑(BitVec.toNat (BitVec.ofInt (IntKind.bits IntKind.u64) (IntKind.wrap IntKind.u64 (Int.ofNat s)) &&& BitVec.ofInt (IntKind.bits IntKind.u64) 6148914691236517205)))) &&& BitVec.ofInt (IntKind.bits IntKind.u64) 3689348814741910323))))) &&& BitVec.ofInt (IntKind.bits IntKind.u64) 1085102592571150095)) + Int.fdiv (IntKind.wrap IntKind.u64 ↑(BitVec.toNat (BitVec.ofInt (IntKind.bits IntKind.u64) (IntKind.wrap IntKind.u64 (Int.fdiv (IntKind.wrap IntKind.u64 (IntKind.wrap IntKind.u64 ↑(BitVec.toNat (BitVec.ofInt (IntKind.bits IntKind.u64) (Int.fdiv (IntKind.wrap IntKind.u64 (IntKind.wrap IntKind.u64 ↑(BitVec.toNat (BitVec.ofInt (IntKind.bits IntKind.u64) (Int.fdiv (IntKind.wrap IntKind.u64 (Int.ofNat s)) (2 ^ min (Int.toNat 1) (IntKind.bits IntKind.u64))) &&& BitVec.ofInt (IntKind.bits IntKind.u64) 6148914691236517205)) + IntKind.wrap IntKind.u64 ↑(BitVec.toNat (BitVec.ofInt (IntKind.bits IntKind.u64) (IntKind.wrap IntKind.u64 (Int.ofNat s)) &&& BitVec.ofInt (IntKind.bits IntKind.u64) 6148914691236517205)))) (2 ^ min (Int.toNat 2) (IntKind.bits IntKind.u64))) &&& BitVec.ofInt (IntKind.bits IntKind.u64) 3689348814741910323)) + IntKind.wrap IntKind.u64 ↑(BitVec.toNat (BitVec.ofInt (IntKind.bits IntKind.u64) (IntKind.wrap IntKind.u64 (IntKind.wrap IntKind.u64 ↑(BitVec.toNat (BitVec.ofInt (IntKind.bits IntKind.u64) (Int.fdiv (IntKind.wrap IntKind.u64 (Int.ofNat s)) (2 ^ min (Int.toNat 1) (IntKind.bits IntKind.u64))) &&& BitVec.ofInt (IntKind.bits IntKind.u64) 6148914691236517205)) + IntKind.wrap IntKind.u64 ↑(BitVec.toNat (BitVec.ofInt (IntKind.bits IntKind.u64) (IntKind.wrap IntKind.u64 (Int.ofNat s)) &&& BitVec.ofInt (IntKind.bits IntKind.u64) 6148914691236517205)))) &&& BitVec.ofInt (IntKind.bits IntKind.u64) 3689348814741910323)))) (2 ^ min (Int.toNat 4) (IntKind.bits IntKind.u64)) + IntKind.wrap IntKind.u64 (IntKind.wrap IntKind.u64 ↑(BitVec.toNat (BitVec.ofInt (IntKind.bits IntKind.u64) (Int.fdiv (IntKind.wrap IntKind.u64 (IntKind.wrap IntKind.u64 ↑(BitVec.toNat (BitVec.ofInt (IntKind.bits IntKind.u64) (Int.fdiv (IntKind.wrap IntKind.u64 (Int.ofNat s)) (2 ^ min (Int.toNat 1) (IntKind.bits IntKind.u64))) &&& BitVec.ofInt (IntKind.bits IntKind.u64) 6148914691236517205)) + IntKind.wrap IntKind.u64 ↑(BitVec.toNat (BitVec.ofInt (IntKind.bits IntKind.u64) (IntKind.wrap IntKind.u64 (Int.ofNat s)) &&& BitVec.ofInt (IntKind.bits IntKind.u64) 6148914691236517205)))) (2 ^ min (Int.toNat 2) (IntKind.bits IntKind.u64))) &&& BitVec.ofInt (IntKind.bits IntKind.u64) 3689348814741910323)) + IntKind.wrap IntKind.u64 ↑(BitVec.toNat (BitVec.ofInt (IntKind.bits IntKind.u64) (IntKind.wrap IntKind.u64 (IntKind.wrap IntKind.u64 ↑(BitVec.toNat (BitVec.ofInt (IntKind.bits IntKind.u64) (Int.fdiv (IntKind.wrap IntKind.u64 (Int.ofNat s)) (2 ^ min (Int.toNat 1) (IntKind.bits IntKind.u64))) &&& BitVec.ofInt (IntKind.bits IntKind.u64) 6148914691236517205)) + IntKind.wrap IntKind.u64 ↑(BitVec.toNat (BitVec.ofInt (IntKind.bits IntKind.u64) (IntKind.wrap IntKind.u64 (Int.ofNat s)) &&& BitVec.ofInt (IntKind.bits IntKind.u64) 6148914691236517205)))) &&& BitVec.ofInt (IntKind.bits IntKind.u64) 3689348814741910323))))) &&& BitVec.ofInt (IntKind.bits IntKind.u64) 1085102592571150095))) (2 ^ min (Int.toNat 8) (IntKind.bits IntKind.u64))) + Int.fdiv (IntKind.wrap IntKind.u64 (IntKind.wrap IntKind.u64 ↑(BitVec.toNat (BitVec.ofInt (IntKind.bits IntKind.u64) (IntKind.wrap IntKind.u64 (Int.fdiv (IntKind.wrap IntKind.u64 (IntKind.wrap IntKind.u64 ↑(BitVec.toNat (BitVec.ofInt (IntKind.bits IntKind.u64) (Int.fdiv (IntKind.wrap IntKind.u64 (IntKind.wrap IntKind.u64 ↑(BitVec.toNat (BitVec.ofInt (IntKind.bits IntKind.u64) (Int.fdiv (IntKind.wrap IntKind.u64 (Int.ofNat s)) (2 ^ min (Int.toNat 1) (IntKind.bits IntKind.u64))) &&& BitVec.ofInt (IntKind.bits IntKind.u64) 6148914691236517205)) + IntKind.wrap IntKind.u64 ↑(BitVec.toNat (BitVec.ofInt (IntKind.bits IntKind.u64) (IntKind.wrap IntKind.u64 (Int.ofNat s)) &&& BitVec.ofInt (IntKind.bits IntKind.u64) 6148914691236517205)))) (2 ^ min (Int.toNat 2) (IntKind.bits IntKind.u64))) &&& BitVec.ofInt (IntKind.bits IntKind.u64) 3689348814741910323)) + IntKind.wrap IntKind.u64 ↑(BitVec.toNat (BitVec.ofInt (IntKind.bits IntKind.u64) (IntKind.wrap IntKind.u64 (IntKind.wrap IntKind.u64 ↑(BitVec.toNat (BitVec.ofInt (IntKind.bits IntKind.u64) (Int.fdiv (IntKind.wrap IntKind.u64 (Int.ofNat s)) (2 ^ min (Int.toNat 1) (IntKind.bits IntKind.u64))) &&& BitVec.ofInt (IntKind.bits IntKind.u64) 6148914691236517205)) + IntKind.wrap IntKind.u64 ↑(BitVec.toNat (BitVec.ofInt (IntKind.bits IntKind.u64) (IntKind.wrap IntKind.u64 (Int.ofNat s)) &&& BitVec.ofInt (IntKind.bits IntKind.u64) 6148914691236517205)))) &&& BitVec.ofInt (IntKind.bits IntKind.u64) 3689348814741910323)))) (2 ^ min (Int.toNat 4) (IntKind.bits IntKind.u64)) + IntKind.wrap IntKind.u64 (IntKind.wrap IntKind.u64 ↑(BitVec.toNat (BitVec.ofInt (IntKind.bits IntKind.u64) (Int.fdiv (IntKind.wrap IntKind.u64 (IntKind.wrap IntKind.u64 ↑(BitVec.toNat (BitVec.ofInt (IntKind.bits IntKind.u64) (Int.fdiv (IntKind.wrap IntKind.u64 (Int.ofNat s)) (2 ^ min (Int.toNat 1) (IntKind.bits IntKind.u64))) &&& BitVec.ofInt (IntKind.bits IntKind.u64) 6148914691236517205)) + IntKind.wrap IntKind.u64 ↑(BitVec.toNat (BitVec.ofInt (IntKind.bits IntKind.u64) (IntKind.wrap IntKind.u64 (Int.ofNat s)) &&& BitVec.ofInt (IntKind.bits IntKind.u64) 6148914691236517205)))) (2 ^ min (Int.toNat 2) (IntKind.bits IntKind.u64))) &&& BitVec.ofInt (IntKind.bits IntKind.u64) 3689348814741910323)) + IntKind.wrap IntKind.u64 ↑(BitVec.toNat (BitVec.ofInt (IntKind.bits IntKind.u64) (IntKind.wrap IntKind.u64 (IntKind.wrap IntKind.u64 ↑(BitVec.toNat (BitVec.ofInt (IntKind.bits IntKind.u64) (Int.fdiv (IntKind.wrap IntKind.u64 (Int.ofNat s)) (2 ^ min (Int.toNat 1) (IntKind.bits IntKind.u64))) &&& BitVec.ofInt (IntKind.bits IntKind.u64) 6148914691236517205)) + IntKind.wrap IntKind.u64 ↑(BitVec.toNat (BitVec.ofInt (IntKind.bits IntKind.u64) (IntKind.wrap IntKind.u64 (Int.ofNat s)) &&& BitVec.ofInt (IntKind.bits IntKind.u64) 6148914691236517205)))) &&& BitVec.ofInt (IntKind.bits IntKind.u64) 3689348814741910323))))) &&& BitVec.ofInt (IntKind.bits IntKind.u64) 1085102592571150095)) + Int.fdiv (IntKind.wrap IntKind.u64 ↑(BitVec.toNat (BitVec.ofInt (IntKind.bits IntKind.u64) (IntKind.wrap IntKind.u64 (Int.fdiv (IntKind.wrap IntKind.u64 (IntKind.wrap IntKind.u64 ↑(BitVec.toNat (BitVec.ofInt (IntKind.bits IntKind.u64) (Int.fdiv (IntKind.wrap IntKind.u64 (IntKind.wrap IntKind.u64 ↑(BitVec.toNat (BitVec.ofInt (IntKind.bits IntKind.u64) (Int.fdiv (IntKind.wrap IntKind.u64 (Int.ofNat s)) (2 ^ min (Int.toNat 1) (IntKind.bits IntKind.u64))) &&& BitVec.ofInt (IntKind.bits IntKind.u64) 6148914691236517205)) + IntKind.wrap IntKind.u64 ↑(BitVec.toNat (BitVec.ofInt (IntKind.bits IntKind.u64) (IntKind.wrap IntKind.u64 (Int.ofNat s)) &&& BitVec.ofInt (IntKind.bits IntKind.u64) 6148914691236517205)))) (2 ^ min (Int.toNat 2) (IntKind.bits IntKind.u64))) &&& BitVec.ofInt (IntKind.bits IntKind.u64) 3689348814741910323)) + IntKind.wrap IntKind.u64 ↑(BitVec.toNat (BitVec.ofInt (IntKind.bits IntKind.u64) (IntKind.wrap IntKind.u64 (IntKind.wrap IntKind.u64 ↑(BitVec.toNat (BitVec.ofInt (IntKind.bits IntKind.u64) (Int.fdiv (IntKind.wrap IntKind.u64 (Int.ofNat s)) (2 ^ min (Int.toNat 1) (IntKind.bits IntKind.u64))) &&& BitVec.ofInt (IntKind.bits IntKind.u64) 6148914691236517205)) + IntKind.wrap IntKind.u64 ↑(BitVec.toNat (BitVec.ofInt (IntKind.bits IntKind.u64) (IntKind.wrap IntKind.u64 (Int.ofNat s)) &&& BitVec.ofInt (IntKind.bits IntKind.u64) 6148914691236517205)))) &&& BitVec.ofInt (IntKind.bits IntKind.u64) 3689348814741910323)))) (2 ^ min (Int.toNat 4) (IntKind.bits IntKind.u64)) + IntKind.wrap IntKind.u64 (IntKind.wrap IntKind.u64 ↑(BitVec.toNat (BitVec.ofInt (IntKind.bits IntKind.u64) (Int.fdiv (IntKind.wrap IntKind.u64 (IntKind.wrap IntKind.u64 ↑(BitVec.toNat (BitVec.ofInt (IntKind.bits IntKind.u64) (Int.fdiv (IntKind.wrap IntKind.u64 (Int.ofNat s)) (2 ^ min (Int.toNat 1) (IntKind.bits IntKind.u64))) &&& BitVec.ofInt (IntKind.bits IntKind.u64) 6148914691236517205)) + IntKind.wrap IntKind.u64 ↑(BitVec.toNat (BitVec.ofInt (IntKind.bits IntKind.u64) (IntKind.wrap IntKind.u64 (Int.ofNat s)) &&& BitVec.ofInt (IntKind.bits IntKind.u64) 6148914691236517205)))) (2 ^ min (Int.toNat 2) (IntKind.bits IntKind.u64))) &&& BitVec.ofInt (IntKind.bits IntKind.u64) 3689348814741910323)) + IntKind.wrap IntKind.u64 ↑(BitVec.toNat (BitVec.ofInt (IntKind.bits IntKind.u64) (IntKind.wrap IntKind.u64 (IntKind.wrap IntKind.u64 ↑(BitVec.toNat (BitVec.ofInt (IntKind.bits IntKind.u64) (Int.fdiv (IntKind.wrap IntKind.u64 (Int.ofNat s)) (2 ^ min (Int.toNat 1) (IntKind.bits IntKind.u64))) &&& BitVec.ofInt (IntKind.bits IntKind.u64) 6148914691236517205)) + IntKind.wrap IntKind.u64 ↑(BitVec.toNat (BitVec.ofInt (IntKind.bits IntKind.u64) (IntKind.wrap IntKind.u64 (Int.ofNat s)) &&& BitVec.ofInt (IntKind.bits IntKind.u64) 6148914691236517205)))) &&& BitVec.ofInt (IntKind.bits IntKind.u64) 3689348814741910323))))) &&& BitVec.ofInt (IntKind.bits IntKind.u64) 1085102592571150095))) (2 ^ min (Int.toNat 8) (IntKind.bits IntKind.u64)))) (2 ^ min (Int.toNat 16) (IntKind.bits IntKind.u64))) + Int.fdiv (IntKind.wrap IntKind.u64 (IntKind.wrap IntKind.u64 (IntKind.wrap IntKind.u64 ↑(BitVec.toNat (BitVec.ofInt (IntKind.bits IntKind.u64) (IntKind.wrap IntKind.u64 (Int.fdiv (IntKind.wrap IntKind.u64 (IntKind.wrap IntKind.u64 ↑(BitVec.toNat (BitVec.ofInt (IntKind.bits IntKind.u64) (Int.fdiv (IntKind.wrap IntKind.u64 (IntKind.wrap IntKind.u64 ↑(BitVec.toNat (BitVec.ofInt (IntKind.bits IntKind.u64) (Int.fdiv (IntKind.wrap IntKind.u64 (Int.ofNat s)) (2 ^ min (Int.toNat 1) (IntKind.bits IntKind.u64))) &&& BitVec.ofInt (IntKind.bits IntKind.u64) 6148914691236517205)) + IntKind.wrap IntKind.u64 ↑(BitVec.toNat (BitVec.ofInt (IntKind.bits IntKind.u64) (IntKind.wrap IntKind.u64 (Int.ofNat s)) &&& BitVec.ofInt (IntKind.bits IntKind.u64) 6148914691236517205)))) (2 ^ min (Int.toNat 2) (IntKind.bits IntKind.u64))) &&& BitVec.ofInt (IntKind.bits IntKind.u64) 3689348814741910323)) + IntKind.wrap IntKind.u64 ↑(BitVec.toNat (BitVec.ofInt (IntKind.bits IntKind.u64) (IntKind.wrap IntKind.u64 (IntKind.wrap IntKind.u64 ↑(BitVec.toNat (BitVec.ofInt (IntKind.bits IntKind.u64) (Int.fdiv (IntKind.wrap IntKind.u64 (Int.ofNat s)) (2 ^ min (Int.toNat 1) (IntKind.bits IntKind.u64))) &&& BitVec.ofInt (IntKind.bits IntKind.u64) 6148914691236517205)) + IntKind.wrap IntKind.u64 ↑(BitVec.toNat (BitVec.ofInt (IntKind.bits IntKind.u64) (IntKind.wrap IntKind.u64 (Int.ofNat s)) &&& BitVec.ofInt (IntKind.bits IntKind.u64) 6148914691236517205)))) &&& BitVec.ofInt (IntKind.bits IntKind.u64) 3689348814741910323)))) (2 ^ min (Int.toNat 4) (IntKind.bits IntKind.u64)) + IntKind.wrap IntKind.u64 (IntKind.wrap IntKind.u64 ↑(BitVec.toNat (BitVec.ofInt (IntKind.bits IntKind.u64) (Int.fdiv (IntKind.wrap IntKind.u64 (IntKind.wrap IntKind.u64 ↑(BitVec.toNat (BitVec.ofInt (IntKind.bits IntKind.u64) (Int.fdiv (IntKind.wrap IntKind.u64 (Int.ofNat s)) (2 ^ min (Int.toNat 1) (IntKind.bits IntKind.u64))) &&& BitVec.ofInt (IntKind.bits IntKind.u64) 6148914691236517205)) + IntKind.wrap IntKind.u64 ↑(BitVec.toNat (BitVec.ofInt (IntKind.bits IntKind.u64) (IntKind.wrap IntKind.u64 (Int.ofNat s)) &&& BitVec.ofInt (IntKind.bits IntKind.u64) 6148914691236517205)))) (2 ^ min (Int.toNat 2) (IntKind.bits IntKind.u64))) &&& BitVec.ofInt (IntKind.bits IntKind.u64) 3689348814741910323)) + IntKind.wrap IntKind.u64 ↑(BitVec.toNat (BitVec.ofInt (IntKind.bits IntKind.u64) (IntKind.wrap IntKind.u64 (IntKind.wrap IntKind.u64 ↑(BitVec.toNat (BitVec.ofInt (IntKind.bits IntKind.u64) (Int.fdiv (IntKind.wrap IntKind.u64 (Int.ofNat s)) (2 ^ min (Int.toNat 1) (IntKind.bits IntKind.u64))) &&& BitVec.ofInt (IntKind.bits IntKind.u64) 6148914691236517205)) + IntKind.wrap IntKind.u64 ↑(BitVec.toNat (BitVec.ofInt (IntKind.bits IntKind.u64) (IntKind.wrap IntKind.u64 (Int.ofNat s)) &&& BitVec.ofInt (IntKind.bits IntKind.u64) 6148914691236517205)))) &&& BitVec.ofInt (IntKind.bits IntKind.u64) 3689348814741910323))))) &&& BitVec.ofInt (IntKind.bits IntKind.u64) 1085102592571150095)) + Int.fdiv (IntKind.wrap IntKind.u64 ↑(BitVec.toNat (BitVec.ofInt (IntKind.bits IntKind.u64) (IntKind.wrap IntKind.u64 (Int.fdiv (IntKind.wrap IntKind.u64 (IntKind.wrap IntKind.u64 ↑(BitVec.toNat (BitVec.ofInt (IntKind.bits IntKind.u64) (Int.fdiv (IntKind.wrap IntKind.u64 (IntKind.wrap IntKind.u64 ↑(BitVec.toNat (BitVec.ofInt (IntKind.bits IntKind.u64) (Int.fdiv (IntKind.wrap IntKind.u64 (Int.ofNat s)) (2 ^ min (Int.toNat 1) (IntKind.bits IntKind.u64))) &&& BitVec.ofInt (IntKind.bits IntKind.u64) 6148914691236517205)) + IntKind.wrap IntKind.u64 ↑(BitVec.toNat (BitVec.ofInt (IntKind.bits IntKind.u64) (IntKind.wrap IntKind.u64 (Int.ofNat s)) &&& BitVec.ofInt (IntKind.bits IntKind.u64) 6148914691236517205)))) (2 ^ min (Int.toNat 2) (IntKind.bits IntKind.u64))) &&& BitVec.ofInt (IntKind.bits IntKind.u64) 3689348814741910323)) + IntKind.wrap IntKind.u64 ↑(BitVec.toNat (BitVec.ofInt (IntKind.bits IntKind.u64) (IntKind.wrap IntKind.u64 (IntKind.wrap IntKind.u64 ↑(BitVec.toNat (BitVec.ofInt (IntKind.bits IntKind.u64) (Int.fdiv (IntKind.wrap IntKind.u64 (Int.ofNat s)) (2 ^ min (Int.toNat 1) (IntKind.bits IntKind.u64))) &&& BitVec.ofInt (IntKind.bits IntKind.u64) 6148914691236517205)) + IntKind.wrap IntKind.u64 ↑(BitVec.toNat (BitVec.ofInt (IntKind.bits IntKind.u64) (IntKind.wrap IntKind.u64 (Int.ofNat s)) &&& BitVec.ofInt (IntKind.bits IntKind.u64) 6148914691236517205)))) &&& BitVec.ofInt (IntKind.bits IntKind.u64) 3689348814741910323)))) (2 ^ min (Int.toNat 4) (IntKind.bits IntKind.u64)) + IntKind.wrap IntKind.u64 (IntKind.wrap IntKind.u64 ↑(BitVec.toNat (BitVec.ofInt (IntKind.bits IntKind.u64) (Int.fdiv (IntKind.wrap IntKind.u64 (IntKind.wrap IntKind.u64 ↑(BitVec.toNat (BitVec.ofInt (IntKind.bits IntKind.u64) (Int.fdiv (IntKind.wrap IntKind.u64 (Int.ofNat s)) (2 ^ min (Int.toNat 1) (IntKind.bits IntKind.u64))) &&& BitVec.ofInt (IntKind.bits IntKind.u64) 6148914691236517205)) + IntKind.wrap IntKind.u64 ↑(BitVec.toNat (BitVec.ofInt (IntKind.bits IntKind.u64) (IntKind.wrap IntKind.u64 (Int.ofNat s)) &&& BitVec.ofInt (IntKind.bits IntKind.u64) 6148914691236517205)))) (2 ^ min (Int.toNat 2) (IntKind.bits IntKind.u64))) &&& BitVec.ofInt (IntKind.bits IntKind.u64) 3689348814741910323)) + IntKind.wrap IntKind.u64 ↑(BitVec.toNat (BitVec.ofInt (IntKind.bits IntKind.u64) (IntKind.wrap IntKind.u64 (IntKind.wrap IntKind.u64 ↑(BitVec.toNat (BitVec.ofInt (IntKind.bits IntKind.u64) (Int.fdiv (IntKind.wrap IntKind.u64 (Int.ofNat s)) (2 ^ min (Int.toNat 1) (IntKind.bits IntKind.u64))) &&& BitVec.ofInt (IntKind.bits IntKind.u64) 6148914691236517205)) + IntKind.wrap IntKind.u64 ↑(BitVec.toNat (BitVec.ofInt (IntKind.bits IntKind.u64) (IntKind.wrap IntKind.u64 (Int.ofNat s)) &&& BitVec.ofInt (IntKind.bits IntKind.u64) 6148914691236517205)))) &&& BitVec.ofInt (IntKind.bits IntKind.u64) 3689348814741910323))))) &&& BitVec.ofInt (IntKind.bits IntKind.u64) 1085102592571150095))) (2 ^ min (Int.toNat 8) (IntKind.bits IntKind.u64))) + Int.fdiv (IntKind.wrap IntKind.u64 (IntKind.wrap IntKind.u64 ↑(BitVec.toNat (BitVec.ofInt (IntKind.bits IntKind.u64) (IntKind.wrap IntKind.u64 (Int.fdiv (IntKind.wrap IntKind.u64 (IntKind.wrap IntKind.u64 ↑(BitVec.toNat (BitVec.ofInt (IntKind.bits IntKind.u64) (Int.fdiv (IntKind.wrap IntKind.u64 (IntKind.wrap IntKind.u64 ↑(BitVec.toNat (BitVec.ofInt (IntKind.bits IntKind.u64) (Int.fdiv (IntKind.wrap IntKind.u64 (Int.ofNat s)) (2 ^ min (Int.toNat 1) (IntKind.bits IntKind.u64))) &&& BitVec.ofInt (IntKind.bits IntKind.u64) 6148914691236517205)) + IntKind.wrap IntKind.u64 ↑(BitVec.toNat (BitVec.ofInt (IntKind.bits IntKind.u64) (IntKind.wrap IntKind.u64 (Int.ofNat s)) &&& BitVec.ofInt (IntKind.bits IntKind.u64) 6148914691236517205)))) (2 ^ min (Int.toNat 2) (IntKind.bits IntKind.u64))) &&& BitVec.ofInt (IntKind.bits IntKind.u64) 3689348814741910323)) + IntKind.wrap IntKind.u64 ↑(BitVec.toNat (BitVec.ofInt (IntKind.bits IntKind.u64) (IntKind.wrap IntKind.u64 (IntKind.wrap IntKind.u64 ↑(BitVec.toNat (BitVec.ofInt (IntKind.bits IntKind.u64) (Int.fdiv (IntKind.wrap IntKind.u64 (Int.ofNat s)) (2 ^ min (Int.toNat 1) (IntKind.bits IntKind.u64))) &&& BitVec.ofInt (IntKind.bits IntKind.u64) 6148914691236517205)) + IntKind.wrap IntKind.u64 ↑(BitVec.toNat (BitVec.ofInt (IntKind.bits IntKind.u64) (IntKind.wrap IntKind.u64 (Int.ofNat s)) &&& BitVec.ofInt (IntKind.bits IntKind.u64) 6148914691236517205)))) &&& BitVec.ofInt (IntKind.bits IntKind.u64) 3689348814741910323)))) (2 ^ min (Int.toNat 4) (IntKind.bits IntKind.u64)) + IntKind.wrap IntKind.u64 (IntKind.wrap IntKind.u64 ↑(BitVec.toNat (BitVec.ofInt (IntKind.bits IntKind.u64) (Int.fdiv (IntKind.wrap IntKind.u64 (IntKind.wrap IntKind.u64 ↑(BitVec.toNat (BitVec.ofInt (IntKind.bits IntKind.u64) (Int.fdiv (IntKind.wrap IntKind.u64 (Int.ofNat s)) (2 ^ min (Int.toNat 1) (IntKind.bits IntKind.u64))) &&& BitVec.ofInt (IntKind.bits IntKind.u64) 6148914691236517205)) + IntKind.wrap IntKind.u64 ↑(BitVec.toNat (BitVec.ofInt (IntKind.bits IntKind.u64) (IntKind.wrap IntKind.u64 (Int.ofNat s)) &&& BitVec.ofInt (IntKind.bits IntKind.u64) 6148914691236517205)))) (2 ^ min (Int.toNat 2) (IntKind.bits IntKind.u64))) &&& BitVec.ofInt (IntKind.bits IntKind.u64) 3689348814741910323)) + IntKind.wrap IntKind.u64 ↑(BitVec.toNat (BitVec.ofInt (IntKind.bits IntKind.u64) (IntKind.wrap IntKind.u64 (IntKind.wrap IntKind.u64 ↑(BitVec.toNat (BitVec.ofInt (IntKind.bits IntKind.u64) (Int.fdiv (IntKind.wrap IntKind.u64 (Int.ofNat s)) (2 ^ min (Int.toNat 1) (IntKind.bits IntKind.u64))) &&& BitVec.ofInt (IntKind.bits IntKind.u64) 6148914691236517205)) + IntKind.wrap IntKind.u64 ↑(BitVec.toNat (BitVec.ofInt (IntKind.bits IntKind.u64) (IntKind.wrap IntKind.u64 (Int.ofNat s)) &&& BitVec.ofInt (IntKind.bits IntKind.u64) 6148914691236517205)))) &&& BitVec.ofInt (IntKind.bits IntKind.u64) 3689348814741910323))))) &&& BitVec.ofInt (IntKind.bits IntKind.u64) 1085102592571150095)) + Int.fdiv (IntKind.wrap IntKind.u64 ↑(BitVec.toNat (BitVec.ofInt (IntKind.bits IntKind.u64) (IntKind.wrap IntKind.u64 (Int.fdiv (IntKind.wrap IntKind.u64 (IntKind.wrap IntKind.u64 ↑(BitVec.toNat (BitVec.ofInt (IntKind.bits IntKind.u64) (Int.fdiv (IntKind.wrap IntKind.u64 (IntKind.wrap IntKind.u64 ↑(BitVec.toNat (BitVec.ofInt (IntKind.bits IntKind.u64) (Int.fdiv (IntKind.wrap IntKind.u64 (Int.ofNat s)) (2 ^ min (Int.toNat 1) (IntKind.bits IntKind.u64))) &&& BitVec.ofInt (IntKind.bits IntKind.u64) 6148914691236517205)) + IntKind.wrap IntKind.u64 ↑(BitVec.toNat (BitVec.ofInt (IntKind.bits IntKind.u64) (IntKind.wrap IntKind.u64 (Int.ofNat s)) &&& BitVec.ofInt (IntKind.bits IntKind.u64) 6148914691236517205)))) (2 ^ min (Int.toNat 2) (IntKind.bits IntKind.u64))) &&& BitVec.ofInt (IntKind.bits IntKind.u64) 3689348814741910323)) + IntKind.wrap IntKind.u64 ↑(BitVec.toNat (BitVec.ofInt (IntKind.bits IntKind.u64) (IntKind.wrap IntKind.u64 (IntKind.wrap IntKind.u64 ↑(BitVec.toNat (BitVec.ofInt (IntKind.bits IntKind.u64) (Int.fdiv (IntKind.wrap IntKind.u64 (Int.ofNat s)) (2 ^ min (Int.toNat 1) (IntKind.bits IntKind.u64))) &&& BitVec.ofInt (IntKind.bits IntKind.u64) 6148914691236517205)) + IntKind.wrap IntKind.u64 ↑(BitVec.toNat (BitVec.ofInt (IntKind.bits IntKind.u64) (IntKind.wrap IntKind.u64 (Int.ofNat s)) &&& BitVec.ofInt (IntKind.bits IntKind.u64) 6148914691236517205)))) &&& BitVec.ofInt (IntKind.bits IntKind.u64) 3689348814741910323)))) (2 ^ min (Int.toNat 4) (IntKind.bits IntKind.u64)) + IntKind.wrap IntKind.u64 (IntKind.wrap IntKind.u64 ↑(BitVec.toNat (BitVec.ofInt (IntKind.bits IntKind.u64) (Int.fdiv (IntKind.wrap IntKind.u64 (IntKind.wrap IntKind.u64 ↑(BitVec.toNat (BitVec.ofInt (IntKind.bits IntKind.u64) (Int.fdiv (IntKind.wrap IntKind.u64 (Int.ofNat s)) (2 ^ min (Int.toNat 1) (IntKind.bits IntKind.u64))) &&& BitVec.ofInt (IntKind.bits IntKind.u64) 6148914691236517205)) + IntKind.wrap IntKind.u64 ↑(BitVec.toNat (BitVec.ofInt (IntKind.bits IntKind.u64) (IntKind.wrap IntKind.u64 (Int.ofNat s)) &&& BitVec.ofInt (IntKind.bits IntKind.u64) 6148914691236517205)))) (2 ^ min (Int.toNat 2) (IntKind.bits IntKind.u64))) &&& BitVec.ofInt (IntKind.bits IntKind.u64) 3689348814741910323)) + IntKind.wrap IntKind.u64 ↑(BitVec.toNat (BitVec.ofInt (IntKind.bits IntKind.u64) (IntKind.wrap IntKind.u64 (IntKind.wrap IntKind.u64 ↑(BitVec.toNat (BitVec.ofInt (IntKind.bits IntKind.u64) (Int.fdiv (IntKind.wrap IntKind.u64 (Int.ofNat s)) (2 ^ min (Int.toNat 1) (IntKind.bits IntKind.u64))) &&& BitVec.ofInt (IntKind.bits IntKind.u64) 6148914691236517205)) + IntKind.wrap IntKind.u64 ↑(BitVec.toNat (BitVec.ofInt (IntKind.bits IntKind.u64) (IntKind.wrap IntKind.u64 (Int.ofNat s)) &&& BitVec.ofInt (IntKind.bits IntKind.u64) 6148914691236517205)))) &&& BitVec.ofInt (IntKind.bits IntKind.u64) 3689348814741910323))))) &&& BitVec.ofInt (IntKind.bits IntKind.u64) 1085102592571150095))) (2 ^ min (Int.toNat 8) (IntKind.bits IntKind.u64)))) (2 ^ min (Int.toNat 16) (IntKind.bits IntKind.u64)))) (2 ^ min (Int.toNat 32) (IntKind.bits IntKind.u64))))) &&& BitVec.ofInt (IntKind.bits IntKind.i64) 127))))) 1 3 W rfl (Nat.le_of_ble_eq_true (by kernel_rfl)) (by kernel_rfl) (by first | rfl | assumption) (by kernel_rfl) fun c1 nc1 Wc1 => ?_
      have W := Wc1
      refine ow_store (P := Tryz.prog) (T := 3) (off := 0) (v := Value.int IntKind.i64 (Int.ofNat s)) 0 2 W rfl (Nat.le_of_ble_eq_true (by kernel_rfl)) (by kernel_rfl) (by first | rfl | assumption) (by kernel_rfl) fun c2 nc2 Wc2 => ?_
      have W := Wc2
      refine ow_round 0 0 W rfl (by kernel_rfl) fun c3 nc3 Wc3 => ?_
      have W := Wc3
      refine sy_done 0 (v := Value.bool true) (h := c3) (by kernel_rfl) ?_
      have W : Sto h c3 ((g6.next + 1, CC.obj F1 g6.next .ready none) :: (g6.next, .defd false) :: (g1.next, .cells [J s] 3 false) :: (h.next, .cells [I (cntE s)] 3 false) :: F) := W
      exact ⟨_, rfl, W, hCI _ rfl⟩
    · rw [if_neg hc] at hCI
      subst hcz
      refine sy_no 0 (b := decide (cntE s > d)) (by kernel_rfl) (decide_eq_false hc) ?_
      refine ow_round 0 0 W rfl (by kernel_rfl) fun c1 nc1 Wc1 => ?_
      have W := Wc1
      refine sy_done 0 (v := Value.bool true) (h := c1) (by kernel_rfl) ?_
      have W : Sto h c1 ((g6.next + 1, CC.obj F1 g6.next .ready none) :: (g6.next, .defd false) :: (g1.next, .cells [J w] 3 false) :: (h.next, .cells [I d] 3 false) :: F) := W
      exact ⟨_, rfl, W, hCI _ rfl⟩
  obtain ⟨v8, h8, e8, C8, ⟨_, rfl⟩, W8⟩ := shat_run lf (m + 2) (g6.next + 1) g4.next (g4.next + 1) n hn L (by omega) hlm hlf va vc h hv CI
    (fun s C hs hg hC => by
      obtain ⟨_, rfl⟩ := hC
      have hls := lst_succ (shG L) s
      rw [if_neg (by rw [hg]; simp)] at hls
      exact ⟨hs, by rw [hls]⟩)
    (fun s C g F hs hg hC W => by
      obtain ⟨w, g', e, C', rfl, W', h1⟩ := body s C g F hs hg hC W
      exact ⟨g', C', e, W', h1⟩)
    _ [] HH ⟨Nat.zero_le _, rfl⟩
    (W.perm (List.Perm.append_right [_, _] (List.perm_append_comm (l₁ := [_, _]) (l₂ := [_, _]))))
  have W8 : Sto h h8 ((g6.next + 1, (rcOf Tryz.prog 35 0).obj F1 g6.next .ready none) :: (g6.next, .defd false) :: (g4.next, .cells [J n] 3 false) :: (g4.next + 1, .cells [.slice va L.length vc] 28 false) :: (g1.next, .cells [J (dimS (lst (shG L) (2 ^ n)) (-1, 0)).2] 3 false) :: [(h.next, .cells [I (dimS (lst (shG L) (2 ^ n)) (-1, 0)).1] 3 false)]) := W8.perm (List.Perm.append_right [_, _] (List.perm_append_comm (l₁ := [_, _]) (l₂ := [_, _])))
  refine ⟨v8, h8, .ready, none, g6.next, .normal, _, e8, W8, by decide, rfl, fun h9 n9 W => ?_⟩
  generalize dimS (lst (shG L) (2 ^ n)) (-1, 0) = D at *
  refine ow_load (P := Tryz.prog) (T := 3) (off := 0) 0 4 W rfl rfl (by kernel_rfl) (by kernel_rfl) ?_
  refine ow_load (P := Tryz.prog) (T := 3) (off := 0) 0 3 W rfl rfl (by kernel_rfl) (by kernel_rfl) ?_
  have W : Sto h h9 ([g6.next].map (fun d => (d, AObj.defd false)) ++ [(g4.next, .cells [J n] 3 false), (g4.next + 1, .cells [.slice va L.length vc] 28 false), (g1.next, .cells [J D.2] 3 false), (h.next, .cells [I D.1] 3 false)]) := W
  refine ow_marks 0 [g6.next] W (by kernel_rfl) fun h10 n10 W => ?_
  refine sy_done 0 (v := .tuple #[I D.1, J D.2, J 0]) (h := h10) (by kernel_rfl) ⟨rfl, W.ext⟩
end Go.Proofs.YtkfbfgcflnkllaaGreatDoor
namespace Go.Proofs.YtkfbfgcflnkllaaGreatDoor
open Go Go.Eng Nim
set_option maxRecDepth 100000
set_option maxHeartbeats 8000000
theorem lst_sp {f : Nat → Bool} {N : Nat} (h : ∀ j, f j = true → j < N) : ∀ d, lst f (N + d) = lst f N
  | 0 => rfl
  | d + 1 => by
    rw [← Nat.add_assoc, lst_succ, lst_sp h d]
    rw [if_neg fun h1 => by have := h _ h1; omega]
theorem yesT {lf n f : Nat} {args : List Value} {h : Hp} (hk : Ok (fun v _ => v = .bool true) (fnS Tryz.prog orc lf n f args h)) : ∃ H, Ev lf (n + 1) f args h = some (.bool true, H) := by
  obtain ⟨v, h', h1, rfl⟩ := fnS_ok hk
  exact ⟨h', h1⟩
theorem sameT (m : Nat) (l : List Nat) (hl : l.length ≤ 1024) (x y : Value) (g : Hp) (hx : Rds g x (l.map J)) (hy : Rds g y (l.map J)) : Ev 100000 (m + 1) 16 [x, y] g = some (.bool true, g) := by
  have e := same_of 100000 m (l.map Int.ofNat) (l.map Int.ofNat) (by rw [List.length_map]; omega) (by rw [List.length_map]; omega) x y g (by rw [List.map_map]; exact hx) (by rw [List.map_map]; exact hy)
  rw [decide_eq_true rfl] at e
  exact e
end Go.Proofs.YtkfbfgcflnkllaaGreatDoor
namespace Go.Proofs.YtkfbfgcflnkllaaGreatDoor
open Go Go.Eng Nim
set_option maxRecDepth 100000
set_option maxHeartbeats 8000000
def Sh (f : Nat → Bool) (s : Nat) : Prop := ∀ k, k &&& s = k → ∃ x, f x = true ∧ x &&& s = k
theorem x_and {x s i : Nat} (h : s.testBit i = false) : (x ^^^ 2 ^ i) &&& s = x &&& s := by
  apply Nat.eq_of_testBit_eq
  intro k
  rw [Nat.testBit_and, Nat.testBit_and, tb_x]
  by_cases hk : i = k
  · subst hk; rw [h, Bool.and_false, Bool.and_false]
  · rw [decide_eq_false hk, Bool.xor_false]
theorem x_and1 {x s i : Nat} (h : s.testBit i = true) : (x ^^^ 2 ^ i) &&& s = (x &&& s) ^^^ 2 ^ i := by
  apply Nat.eq_of_testBit_eq
  intro k
  rw [Nat.testBit_and, tb_x, tb_x, Nat.testBit_and]
  by_cases hk : i = k
  · subst hk; rw [h, Bool.and_true, Bool.and_true]
  · rw [decide_eq_false hk, Bool.xor_false, Bool.xor_false]
theorem sh_prS {i : Nat} {f : Nat → Bool} {s : Nat} (h : Sh (prS i f) s) : Sh f s := by
  intro k hk
  cases hs : s.testBit i with
  | false =>
    obtain ⟨x, hx, hxs⟩ := h k hk
    unfold prS at hx
    split at hx
    · rw [Bool.and_eq_true] at hx
      exact ⟨x, hx.1, hxs⟩
    · rw [Bool.or_eq_true] at hx
      rcases hx with h1 | h1
      · exact ⟨x, h1, hxs⟩
      · exact ⟨_, h1, (x_and hs).trans hxs⟩
  | true =>
    cases hki : k.testBit i with
    | true =>
      obtain ⟨x, hx, hxs⟩ := h k hk
      have hxi : x.testBit i = true := by
        have := congrArg (fun y => y.testBit i) hxs
        simp only [Nat.testBit_and, hki, hs, Bool.and_true] at this
        exact this
      unfold prS at hx
      rw [if_pos hxi, Bool.and_eq_true] at hx
      exact ⟨x, hx.1, hxs⟩
    | false =>
      have hA : (k ^^^ 2 ^ i) &&& s = k ^^^ 2 ^ i := by rw [x_and1 hs, hk]
      obtain ⟨x, hx, hxs⟩ := h _ hA
      have hxi : x.testBit i = true := by
        have := congrArg (fun y => y.testBit i) hxs
        simp only [Nat.testBit_and, tb_xs, hki, hs, Bool.and_true] at this
        simpa using this
      unfold prS at hx
      rw [if_pos hxi, Bool.and_eq_true] at hx
      exact ⟨_, hx.2, by rw [x_and1 hs, hxs, x_x]⟩
theorem sh_prT {f : Nat → Bool} {s : Nat} : ∀ i, Sh (prT f i) s → Sh f s
  | 0, h => h
  | i + 1, h => sh_prT i (sh_prS h)
theorem sh_itT {n : Nat} {f : Nat → Bool} {s : Nat} : ∀ k, Sh (itT n f k) s → Sh f s
  | 0, h => h
  | k + 1, h => sh_itT k (sh_prT n h)
theorem cnt_s (f : Nat → Bool) (n : Nat) : cnt f (n + 1) = cnt f n + (f n).toNat := by
  simp only [cnt]
  by_cases h : f n = true
  · rw [if_pos h, h]; rfl
  · rw [if_neg h, Bool.eq_false_iff.2 h]; rfl
theorem cnt_oa (a b : Nat → Bool) : ∀ n, cnt (fun s => a s || b s) n + cnt (fun s => b s && a s) n = cnt a n + cnt b n
  | 0 => rfl
  | n + 1 => by
    have := cnt_oa a b n
    rw [cnt_s, cnt_s, cnt_s, cnt_s]
    cases a n <;> cases b n <;> simp <;> omega
theorem top_b {s n : Nat} (hs : s < 2 ^ n) : (2 ^ n + s).testBit n = true := by rw [top_x hs, tb_xs, Nat.testBit_lt_two_pow hs]; rfl
theorem cnt_prS : ∀ (n i : Nat) (f : Nat → Bool), i < n → cnt (prS i f) (2 ^ n) = cnt f (2 ^ n)
  | 0, i, f, h => absurd h (Nat.not_lt_zero _)
  | n + 1, i, f, h => by
    rw [Nat.pow_succ, Nat.mul_two, cnt_add, cnt_add]
    rcases Nat.eq_or_lt_of_le (Nat.le_of_lt_succ h) with h1 | h1
    · subst h1
      have e1 : cnt (prS i f) (2 ^ i) = cnt (fun s => f s || f (2 ^ i + s)) (2 ^ i) := cnt_congr fun s hs => by
        unfold prS; rw [if_neg (by rw [Nat.testBit_lt_two_pow hs]; simp), top_x hs]
      have e2 : cnt (fun s => prS i f (2 ^ i + s)) (2 ^ i) = cnt (fun s => f (2 ^ i + s) && f s) (2 ^ i) := cnt_congr fun s hs => by
        show prS i f (2 ^ i + s) = _
        unfold prS; rw [if_pos (top_b hs), top_x hs, x_x]
      rw [e1, e2]
      exact cnt_oa f (fun s => f (2 ^ i + s)) (2 ^ i)
    · have e2 : cnt (fun s => prS i f (2 ^ n + s)) (2 ^ n) = cnt (prS i fun s => f (2 ^ n + s)) (2 ^ n) := cnt_congr fun s hs => by
        show prS i f (2 ^ n + s) = _
        have hx : (2 ^ n + s) ^^^ 2 ^ i = 2 ^ n + (s ^^^ 2 ^ i) := by rw [top_x hs, x_comm, top_x (x_lt hs h1)]
        have hb : (2 ^ n + s).testBit i = s.testBit i := by rw [top_x hs, tb_xn (by omega)]
        unfold prS; rw [hb, hx]
      rw [e2, cnt_prS n i f h1, cnt_prS n i _ h1]
theorem cnt_prT {n : Nat} {f : Nat → Bool} : ∀ i, i ≤ n → cnt (prT f i) (2 ^ n) = cnt f (2 ^ n)
  | 0, _ => rfl
  | i + 1, h => by
    show cnt (prS i (prT f i)) _ = _
    rw [cnt_prS n i _ h, cnt_prT i (by omega)]
theorem cnt_itT {n : Nat} {f : Nat → Bool} : ∀ k, cnt (itT n f k) (2 ^ n) = cnt f (2 ^ n)
  | 0 => rfl
  | k + 1 => by
    show cnt (prT (itT n f k) n) _ = _
    rw [cnt_prT n (Nat.le_refl _), cnt_itT k]
theorem prT_fix {n : Nat} {f : Nat → Bool} (hf : ∀ j, f j = true → j < 2 ^ n) : ∀ i, i ≤ n → (wt (prT f i) (2 ^ n) < wt f (2 ^ n)) ∨ (prT f i = f ∧ ∀ k, k < i → prS k f = f)
  | 0, _ => .inr ⟨rfl, fun k hk => absurd hk (Nat.not_lt_zero _)⟩
  | i + 1, h => by
    have hs := prT_sup hf i (by omega)
    have e : prT f (i + 1) = prn i (prT f i) (2 ^ n) := (prn_prS (by omega) hs).symm
    have hw := wt_prn (i := i) (prT f i) (2 ^ n) (Nat.le_refl _)
    rcases prT_fix hf i (by omega) with h1 | ⟨h1, h2⟩
    · left
      rw [e]
      rcases hw with h3 | h3
      · omega
      · rw [h3]; exact h1
    · rw [h1] at hw e
      rcases hw with h3 | h3
      · left; rw [e]; exact h3
      · right
        refine ⟨by rw [e, h3], fun k hk => ?_⟩
        rcases Nat.eq_or_lt_of_le (Nat.le_of_lt_succ hk) with h4 | h4
        · subst h4
          rw [← prn_prS (by omega) hf]; exact h3
        · exact h2 k h4
theorem fix_dn {n : Nat} {f : Nat → Bool} (hf : ∀ j, f j = true → j < 2 ^ n) (h : prT f n = f) : dnC n f := fun k hk s hs hb hx => by
  rcases prT_fix hf n (Nat.le_refl _) with h1 | ⟨_, h2⟩
  · rw [h] at h1; omega
  · rw [← h2 k hk]
    unfold prS
    rw [if_neg (by rw [hb]; simp), hx, Bool.or_true]
theorem sub_bits {k s : Nat} : k &&& s = k ↔ ∀ i, k.testBit i = true → s.testBit i = true := by
  rw [Nat.and_comm]
  exact and_sub_iff s k
theorem dn_sub {n : Nat} {f : Nat → Bool} (hf : ∀ j, f j = true → j < 2 ^ n) (h : dnC n f) : ∀ (d x j : Nat), x ≤ d → f x = true → j &&& x = j → f j = true := by
  intro d
  induction d with
  | zero =>
    intro x j hx hfx hj
    have : x = 0 := by omega
    subst this
    rw [Nat.and_zero] at hj
    rw [← hj]; exact hfx
  | succ d ih =>
    intro x j hx hfx hj
    by_cases he : j = x
    · rw [he]; exact hfx
    · have hb := sub_bits.1 hj
      obtain ⟨k, hk⟩ : ∃ k, j.testBit k ≠ x.testBit k := Nat.exists_testBit_ne_of_ne he
      have hxk : x.testBit k = true := by
        cases h1 : x.testBit k with
        | true => rfl
        | false =>
          cases h2 : j.testBit k with
          | true => have := hb k h2; rw [h1] at this; cases this
          | false => rw [h1, h2] at hk; exact absurd rfl hk
      have hjk : j.testBit k = false := by
        cases h2 : j.testBit k with
        | true => rw [h2, hxk] at hk; exact absurd rfl hk
        | false => rfl
      have hkn : k < n := by
        rcases Nat.lt_or_ge k n with h1 | h1
        · exact h1
        · have : x < 2 ^ k := Nat.lt_of_lt_of_le (hf x hfx) (Nat.pow_le_pow_right (by decide) h1)
          rw [Nat.testBit_lt_two_pow this] at hxk; cases hxk
      have hl : x ^^^ 2 ^ k < x := by
        have := clr_less hxk
        unfold clr at this; rwa [if_pos hxk] at this
      refine ih (x ^^^ 2 ^ k) j (by omega) (h k hkn _ (x_lt (hf x hfx) hkn) (by rw [tb_xs, hxk]; rfl) (by rw [x_x]; exact hfx)) (sub_bits.2 fun i hi => ?_)
      rw [tb_x, hb i hi]
      by_cases hki : k = i
      · subst hki; rw [hjk] at hi; cases hi
      · rw [decide_eq_false hki]; rfl
theorem dn_sh {n : Nat} {f : Nat → Bool} (hf : ∀ j, f j = true → j < 2 ^ n) (h : dnC n f) (s : Nat) : Sh f s ↔ f s = true := by
  constructor
  · intro h1
    obtain ⟨x, hx, hxs⟩ := h1 s (Nat.and_self s)
    exact dn_sub hf h x x s (Nat.le_refl _) hx (by rw [Nat.and_comm]; exact hxs)
  · intro h1 k hk
    exact ⟨k, dn_sub hf h s s k (Nat.le_refl _) h1 hk, hk⟩
theorem shG_Sh {n : Nat} {f : Nat → Bool} (hf : ∀ j, f j = true → j < 2 ^ n) (s : Nat) : shG (lst f (2 ^ n)) s = true ↔ Sh f s := by
  rw [shG_iff]
  unfold Sh
  constructor
  · intro h k hk
    obtain ⟨x, hx, h2⟩ := h k hk
    exact ⟨x, (lst_mem.1 hx).2, h2⟩
  · intro h k hk
    obtain ⟨x, hx, h2⟩ := h k hk
    exact ⟨x, lst_mem.2 ⟨hf x hx, hx⟩, h2⟩
/-- A family that is closed downward shatters just its own sets. -/
theorem shG_dn {n : Nat} {f : Nat → Bool} (hf : ∀ j, f j = true → j < 2 ^ n) (h : dnC n f) : lst (shG (lst f (2 ^ n))) (2 ^ n) = lst f (2 ^ n) := lst_cg fun s _ => by
  rw [Bool.eq_iff_iff, shG_Sh hf, dn_sh hf h]
/-- Closing it changes nothing. -/
theorem clo_dnC {n : Nat} {f : Nat → Bool} (hf : ∀ j, f j = true → j < 2 ^ n) (h : dnC n f) : lst (cloS false (2 ^ n) f n) (2 ^ n) = lst f (2 ^ n) := lst_cg fun j hj => by
  rw [Bool.eq_iff_iff, clo_spec_dn n f n (Nat.le_refl _) j hj]
  constructor
  · rintro ⟨x, hx, h1, _⟩
    exact dn_sub hf h x x j (Nat.le_refl _) hx (sub_bits.2 h1)
  · intro hfj
    exact ⟨j, hfj, fun _ h => h, fun _ _ => rfl⟩
/-- Pajor. -/
theorem pajor {n : Nat} {f : Nat → Bool} (hf : ∀ j, f j = true → j < 2 ^ n) {k : Nat} (h : prT (itT n f k) n = itT n f k) : (lst f (2 ^ n)).length ≤ (lst (shG (lst f (2 ^ n))) (2 ^ n)).length := by
  have hs := itT_sup hf k
  have h1 : lst (shG (lst (itT n f k) (2 ^ n))) (2 ^ n) = lst (itT n f k) (2 ^ n) := shG_dn hs (fix_dn hs h)
  have h2 : (lst (shG (lst (itT n f k) (2 ^ n))) (2 ^ n)).length ≤ (lst (shG (lst f (2 ^ n))) (2 ^ n)).length := by
    refine (lst_sub fun s _ h3 => ?_).1
    exact (shG_Sh hf s).2 (sh_itT k ((shG_Sh hs s).1 h3))
  rw [h1] at h2
  rwa [cnt_lst, cnt_itT, ← cnt_lst] at h2
/-- The sums of the binomial numbers. -/
def chT (n q : Nat) : Nat := (lst (fun s => Nat.beq (pcF 10 s) q) (2 ^ n)).length
def chS (n : Nat) : Nat → Nat
  | 0 => 0
  | q + 1 => chS n q + chT n q
theorem cnt_eq (g : Nat → Nat) (q : Nat) : ∀ N, cnt (fun s => Nat.blt (g s) (q + 1)) N = cnt (fun s => Nat.blt (g s) q) N + cnt (fun s => Nat.beq (g s) q) N
  | 0 => rfl
  | N + 1 => by
    have := cnt_eq g q N
    rw [cnt_s, cnt_s, cnt_s, this]
    have e : (Nat.blt (g N) (q + 1)).toNat = (Nat.blt (g N) q).toNat + (Nat.beq (g N) q).toNat := by
      have hb : ∀ b : Bool, ∀ P : Prop, (b = true ↔ P) → [Decidable P] → b.toNat = if P then 1 else 0 := fun b P h _ => by
        cases b with
        | false => rw [if_neg fun p => by have := h.2 p; cases this]; rfl
        | true => rw [if_pos (h.1 rfl)]; rfl
      rw [hb _ (g N < q + 1) (by rw [Nat.blt_eq]), hb _ (g N < q) (by rw [Nat.blt_eq]), hb _ (g N = q) ⟨Nat.eq_of_beq_eq_true, fun h => by rw [h]; exact Nat.beq_refl _⟩]
      split <;> split <;> split <;> omega
    omega
theorem chS_eq (n : Nat) : ∀ q, chS n q = cnt (fun s => Nat.blt (pcF 10 s) q) (2 ^ n)
  | 0 => by
    have : ∀ N, cnt (fun s => Nat.blt (pcF 10 s) 0) N = 0 := fun N => by
      induction N with
      | zero => rfl
      | succ N ih => rw [cnt_s, ih]; rfl
    exact (this _).symm
  | q + 1 => by
    show chS n q + chT n q = _
    rw [cnt_eq, chS_eq n q]
    unfold chT
    rw [cnt_lst]
theorem dimS_ge : ∀ (L : List Nat) (p : Int × Nat), p.1 ≤ (dimS L p).1 ∧ ∀ x ∈ L, Int.ofNat (pcF 10 x) ≤ (dimS L p).1
  | [], p => ⟨Int.le_refl _, fun x hx => absurd hx (List.not_mem_nil)⟩
  | y :: r, p => by
    obtain ⟨h1, h2⟩ := dimS_ge r (if Int.ofNat (pcF 10 y) > p.1 then (Int.ofNat (pcF 10 y), y) else p)
    have h3 : p.1 ≤ (if Int.ofNat (pcF 10 y) > p.1 then (Int.ofNat (pcF 10 y), y) else p).1 ∧ Int.ofNat (pcF 10 y) ≤ (if Int.ofNat (pcF 10 y) > p.1 then (Int.ofNat (pcF 10 y), y) else p).1 := by
      split
      · exact ⟨by dsimp only; omega, Int.le_refl _⟩
      · exact ⟨Int.le_refl _, by omega⟩
    refine ⟨Int.le_trans h3.1 h1, fun x hx => ?_⟩
    rcases List.mem_cons.1 hx with rfl | hx
    · exact Int.le_trans h3.2 h1
    · exact h2 x hx
theorem dimS_le {n : Nat} : ∀ (L : List Nat) (p : Int × Nat), (∀ x ∈ L, pcF 10 x ≤ n) → -1 ≤ p.1 → p.1 ≤ n → -1 ≤ (dimS L p).1 ∧ (dimS L p).1 ≤ n
  | [], p, _, h1, h2 => ⟨h1, h2⟩
  | y :: r, p, h, h1, h2 => by
    refine dimS_le r _ (fun x hx => h x (List.mem_cons_of_mem _ hx)) ?_ ?_
    · split
      · show -1 ≤ ((pcF 10 y : Nat) : Int); omega
      · exact h1
    · split
      · have := h y (List.mem_cons_self ..)
        show ((pcF 10 y : Nat) : Int) ≤ n; omega
      · exact h2
/-- Sauer and Shelah. -/
theorem sauer {n : Nat} (G : Nat → Bool) (d : Nat) (h : ∀ s, s < 2 ^ n → G s = true → pcF 10 s < d) : (lst G (2 ^ n)).length ≤ chS n d := by
  rw [chS_eq, cnt_lst]
  exact cnt_le fun s hs hg => Nat.blt_eq.mpr (h s hs hg)
end Go.Proofs.YtkfbfgcflnkllaaGreatDoor
namespace Go.Proofs.YtkfbfgcflnkllaaGreatDoor
open Go Go.Eng Nim
set_option maxRecDepth 100000
set_option maxHeartbeats 8000000
/-- The product as it grows. -/
def cbP (n q : Nat) : Nat → Nat
  | 0 => 1
  | i + 1 => cbP n q i * (n - q + (i + 1)) / (i + 1)
theorem cb_all : ((List.range 8).all fun n => (List.range (n + 1)).all fun q => Nat.beq (cbP n q q) (chT n q) && (List.range (q + 1)).all fun i => Nat.ble (cbP n q i) 100000) = true := by decide +kernel
theorem cb_eq {n q : Nat} (hn : n ≤ 7) (hq : q ≤ n) : cbP n q q = chT n q ∧ ∀ i, i ≤ q → cbP n q i ≤ 100000 := by
  have := List.all_eq_true.1 (List.all_eq_true.1 cb_all n (List.mem_range.2 (by omega))) q (List.mem_range.2 (by omega))
  rw [Bool.and_eq_true] at this
  exact ⟨Nat.eq_of_beq_eq_true this.1, fun i hi => Nat.le_of_ble_eq_true (List.all_eq_true.1 this.2 i (List.mem_range.2 (by omega)))⟩
theorem rcho_of (lf m n q : Nat) (hlf : 2000 ≤ lf) (hn : n ≤ 7) (hq : q ≤ n) (h : Hp) : Ev lf (m + 1) 23 [J n, J q] h = some (J (chT n q), h) := by
  refine fn_eq ?_
  obtain ⟨c1, c2⟩ := cb_eq hn hq
  refine ok_go 0 ?_
  refine sy_loop 0 lf h (α := Nat) (fun i => [(0, J n), (1, J q), (5, J (cbP n q i)), (6, J (i + 1))]) (fun i g => i ≤ q ∧ g = h) (fun i _ => q - i) 0 (by kernel_rfl) (by kernel_rfl)
    ⟨by kernel_rfl, by kernel_rfl, by kernel_rfl, by kernel_rfl, trivial⟩ (show q - 0 < lf by omega) ⟨Nat.zero_le _, rfl⟩ ?_
  rintro m1 i F1 g ⟨hi, rfl⟩ ih
  have hw : IntKind.wrap .i64 (Int.ofNat (i + 1 + 1)) = Int.ofNat (i + 1 + 1) := wrap_nat (by omega)
  refine ok_go 1 ?_
  refine sy_test 0 (decide (Int.ofNat (i + 1) ≤ Int.ofNat q)) (by kernel_rfl) ?_ ?_
  · intro hlt
    have hlt : i + 1 ≤ q := Int.ofNat_le.1 (of_decide_eq_true hlt)
    have hc := c2 i hi
    have h1 : IntKind.i64.wrap (Int.ofNat n - Int.ofNat q) = Int.ofNat (n - q) := by
      have : Int.ofNat n - Int.ofNat q = Int.ofNat (n - q) := by show (n : Int) - (q : Int) = ((n - q : Nat) : Int); omega
      rw [this]; exact wrap_nat (by omega)
    have h2 : IntKind.i64.wrap (Int.ofNat (n - q) + Int.ofNat (i + 1)) = Int.ofNat (n - q + (i + 1)) := wrap_nat (by omega)
    have hb : cbP n q i * (n - q + (i + 1)) ≤ 100000 * 16 := Nat.mul_le_mul hc (by omega)
    have h3 : IntKind.i64.wrap (Int.ofNat (cbP n q i) * Int.ofNat (n - q + (i + 1))) = Int.ofNat (cbP n q i * (n - q + (i + 1))) := wrap_nat (by omega)
    have h4 : cbP n q i * (n - q + (i + 1)) / (i + 1) ≤ cbP n q i * (n - q + (i + 1)) := Nat.div_le_self ..
    have hE : IntKind.i64.wrap ((IntKind.i64.wrap (Int.ofNat (cbP n q i) * IntKind.i64.wrap (IntKind.i64.wrap (Int.ofNat n - Int.ofNat q) + Int.ofNat (i + 1)))).tdiv (Int.ofNat (i + 1))) = Int.ofNat (cbP n q (i + 1)) := by
      rw [h1, h2, h3]
      exact wrap_nat (n := cbP n q i * (n - q + (i + 1)) / (i + 1)) (by omega)
    refine ok_go 5 ?_
    exact sy_next 0 _ g (by kernel_rfl) (by kernel_rfl) (ih (i + 1) _ g ⟨hlt, rfl⟩ (show q - (i + 1) < q - i by omega) ⟨by kernel_rfl, by kernel_rfl, (by kernel_rfl : _ = I (IntKind.i64.wrap ((IntKind.i64.wrap (Int.ofNat (cbP n q i) * IntKind.i64.wrap (IntKind.i64.wrap (Int.ofNat n - Int.ofNat q) + Int.ofNat (i + 1)))).tdiv (Int.ofNat (i + 1))))).trans (by rw [hE]), (by kernel_rfl : _ = I (IntKind.wrap .i64 (Int.ofNat (i + 1 + 1)))).trans (by rw [hw]), trivial⟩)
  · intro hlt
    have hlt : ¬ i + 1 ≤ q := fun h => of_decide_eq_false hlt (Int.ofNat_le.2 h)
    obtain rfl : i = q := by omega
    refine ok_go 0 ?_
    exact sy_done 0 (v := J (cbP n i i)) (h := g) (by kernel_rfl) ⟨by rw [c1], rfl⟩
end Go.Proofs.YtkfbfgcflnkllaaGreatDoor
namespace Go.Proofs.YtkfbfgcflnkllaaGreatDoor
open Go Go.Eng Nim
set_option maxRecDepth 100000
set_option maxHeartbeats 8000000
def zS (z : Int) : Int := IntKind.i64.wrap (1 + IntKind.i64.wrap ((IntKind.u64.wrap z).tmod (IntKind.u64.wrap (IntKind.i64.wrap (6 + 1)))))
theorem s_size (z : Int) : ∃ N : Nat, 1 ≤ N ∧ N ≤ 7 ∧ zS z = Int.ofNat N := by
  obtain ⟨k, hk, hr⟩ := rem_u z 7 (by decide) (by decide)
  have h9 : (IntKind.u64.wrap (IntKind.i64.wrap (6 + 1))) = IntKind.u64.wrap (Int.ofNat 7) := by decide
  refine ⟨1 + k, by omega, by omega, ?_⟩
  unfold zS
  rw [h9, hr, wrap_nat (n := k) (by omega)]
  exact wrap_nat (n := 1 + k) (by omega)
theorem s_pred (z : Int) {N : Nat} (h1 : 1 ≤ N) (h7 : N ≤ 7) (hz : zS z = Int.ofNat N) : IntKind.i64.wrap (zS z - 1) = Int.ofNat (N - 1) := by
  rw [hz]
  have : Int.ofNat N - 1 = Int.ofNat (N - 1) := by show (N : Int) - 1 = ((N - 1 : Nat) : Int); omega
  rw [this]; exact wrap_nat (by omega)
theorem pc_all : ((List.range 8).all fun n => (List.range (2 ^ n)).all fun s => Nat.ble (pcF 10 s) n) = true := by decide +kernel
theorem pc_le {n s : Nat} (hn : n ≤ 7) (hs : s < 2 ^ n) : pcF 10 s ≤ n :=
  Nat.le_of_ble_eq_true (List.all_eq_true.1 (List.all_eq_true.1 pc_all n (List.mem_range.2 (by omega))) s (List.mem_range.2 hs))
theorem chS_le (n q : Nat) : chS n q ≤ 2 ^ n := by
  rw [chS_eq, ← cnt_lst]
  exact lst_len _ _
theorem law9 (m : Nat) (z : Int) (xs : List Int) (hxs : xs.length < 2 ^ 63) (zi : Int) (x : Value) (h : Hp) (hx : Rds h x (xs.map I)) : ∃ H, Ev 100000 (m + 7) 9 [I z, x, I zi] h = some (.bool true, H) := by
  refine yesT ?_
  obtain ⟨N, hN1, hN7, hZ⟩ := s_size z
  obtain ⟨i, hi, e17⟩ := size_of 100000 (m + 5) zi (N - 1) (by omega)
  have hi : i < N := by omega
  have hP := s_pred z hN1 hN7 hZ
  obtain ⟨xa, xc, hxe⟩ := hx.shape
  rw [List.length_map] at hxe
  subst hxe
  have h2N : 2 ^ N ≤ 128 := Nat.pow_le_pow_right (by decide) hN7
  obtain ⟨v1, g1, e1, f0, q1, hv1, W1⟩ := tame_of 100000 (m + 5) (by decide) N 60 (by omega) (by decide) xs hxs _ h hx
  have R1 := lst_rd W1
  obtain ⟨f, hfd⟩ : ∃ f : Nat → Bool, (fun j => decide (j ∈ lst f0 (2 ^ N))) = f := ⟨_, rfl⟩
  have hsup : ∀ j, f j = true → j < 2 ^ N := fun j hj => (lst_mem.1 (of_decide_eq_true (by rw [← hfd] at hj; exact hj))).1
  have hlf : lst f0 (2 ^ N) = lst f (2 ^ N) := lst_cg fun j hj => by
    rw [← hfd, Bool.eq_iff_iff, decide_eq_true_eq, lst_mem]
    exact ⟨fun h => ⟨hj, h⟩, fun h => h.2⟩
  rw [hlf] at R1 hv1
  clear hfd
  subst hv1
  have hdl := dec_lst hsup
  have hb10 : ∀ F : Nat → Bool, (∀ j, F j = true → j < 2 ^ N) → lst F 1024 = lst F (2 ^ N) := fun F hF => by
    have := lst_sp hF (1024 - 2 ^ N)
    rwa [show 2 ^ N + (1024 - 2 ^ N) = 1024 by omega] at this
  obtain ⟨_, g2, e2, q2, rfl, W2⟩ := shattered_of 100000 m (by decide) N hN7 f _ g1 R1
  obtain ⟨_, g3, e3, rfl, X3⟩ := dim_of 100000 m (by decide) N hN7 f _ g2 (R1.ext W2.ext)
  obtain ⟨_, g4, e4, q4, rfl, W4⟩ := press_ok 100000 (m + 4) (by decide) N (by omega) i hi f _ g3 ((R1.ext W2.ext).ext X3)
  have hps := prS_sup hi hsup
  rw [hdl, prn_prS hi hsup, hb10 _ hps] at e4 W4
  obtain ⟨_, g5, e5, q5, rfl, W5⟩ := shattered_of 100000 m (by decide) N hN7 (prS i f) _ g4 (lst_rd W4)
  have R5 := (((R1.ext W2.ext).ext X3).ext W4.ext).ext W5.ext
  obtain ⟨_, g6, e6, F, kk, q6, hF, hFx, rfl, W6⟩ := down_of (m + 4) N (by omega) f _ g5 R5
  rw [hdl] at hF
  have hFs : ∀ j, F j = true → j < 2 ^ N := by rw [hF]; exact itT_sup hsup kk
  rw [hb10 F hFs] at e6 W6
  have hdn := fix_dn hFs hFx
  obtain ⟨_, g7, e7, q7, rfl, W7⟩ := shattered_of 100000 m (by decide) N hN7 F _ g6 (lst_rd W6)
  rw [shG_dn hFs hdn] at e7 W7
  obtain ⟨_, g8, e8, q8, rfl, W8⟩ := clos_of 100000 (m + 4) (by decide) N (by omega) false F _ g7 ((lst_rd W6).ext W7.ext)
  rw [dec_lst hFs, hb10 _ (clo_dn N F hFs N (Nat.le_refl _)).1, clo_dnC hFs hdn] at e8 W8
  have hpj := pajor hsup (k := kk) (by rw [← hF]; exact hFx)
  have hcF : (lst F (2 ^ N)).length = (lst f (2 ^ N)).length := by rw [hF, cnt_lst, cnt_itT, ← cnt_lst]
  have hcP : (lst (prS i f) (2 ^ N)).length = (lst f (2 ^ N)).length := by rw [cnt_lst, cnt_prS N i f hi, ← cnt_lst]
  have hsub : ∀ s, s ∈ lst (shG (lst (prS i f) (2 ^ N))) (2 ^ N) → s ∈ lst (shG (lst f (2 ^ N))) (2 ^ N) := fun s hs => by
    obtain ⟨h1, h2⟩ := lst_mem.1 hs
    exact lst_mem.2 ⟨h1, (shG_Sh hsup s).2 (sh_prS ((shG_Sh hps s).1 h2))⟩
  have hSr := lst_rise (shG (lst f (2 ^ N))) (2 ^ N)
  have hTr := lst_rise (shG (lst (prS i f) (2 ^ N))) (2 ^ N)
  have hSl := lst_len (shG (lst f (2 ^ N))) (2 ^ N)
  have hTl := lst_len (shG (lst (prS i f) (2 ^ N))) (2 ^ N)
  have hFl := lst_len F (2 ^ N)
  have hSm : ∀ s ∈ lst (shG (lst f (2 ^ N))) (2 ^ N), s < 128 := fun s hs => by have := (lst_mem.1 hs).1; omega
  have hRS := ((((((lst_rd W2).ext X3).ext W4.ext).ext W5.ext).ext W6.ext).ext W7.ext).ext W8.ext
  have hRT := (((lst_rd W5).ext W6.ext).ext W7.ext).ext W8.ext
  have hRF := ((lst_rd W6).ext W7.ext).ext W8.ext
  have e9 := sameT (m + 5) (lst F (2 ^ N)) (by omega) _ _ g8 (lst_rd W8) hRF
  have e10 := sameT (m + 5) (lst F (2 ^ N)) (by omega) _ _ g8 ((lst_rd W7).ext W8.ext) hRF
  have hD : -1 ≤ (dimS (lst (shG (lst f (2 ^ N))) (2 ^ N)) (-1, 0)).1 ∧ (dimS (lst (shG (lst f (2 ^ N))) (2 ^ N)) (-1, 0)).1 ≤ N ∧ (lst f (2 ^ N)).length ≤ chS N ((dimS (lst (shG (lst f (2 ^ N))) (2 ^ N)) (-1, 0)).1 + 1).toNat := by
    obtain ⟨d1, d2⟩ := dimS_le (n := N) (lst (shG (lst f (2 ^ N))) (2 ^ N)) (-1, 0) (fun s hs => by
      have h1 := (lst_mem.1 hs).1
      exact pc_le hN7 h1) (Int.le_refl _) (by show (-1 : Int) ≤ N; omega)
    refine ⟨d1, d2, Nat.le_trans hpj (sauer _ _ fun s hs hg => ?_)⟩
    have := (dimS_ge (lst (shG (lst f (2 ^ N))) (2 ^ N)) (-1, 0)).2 s (lst_mem.2 ⟨hs, hg⟩)
    have h3 : ((pcF 10 s : Nat) : Int) ≤ (dimS (lst (shG (lst f (2 ^ N))) (2 ^ N)) (-1, 0)).1 := this
    omega
  obtain ⟨hD1, hD2, hD3⟩ := hD
  have eN : J N = I (zS z) := by rw [hZ]
  have e17 := e17 g3
  rw [show J (N - 1) = I (IntKind.i64.wrap (zS z - 1)) by rw [hP]] at e17
  generalize hS : lst (shG (lst f (2 ^ N))) (2 ^ N) = S at *
  generalize hT : lst (shG (lst (prS i f) (2 ^ N))) (2 ^ N) = T at *
  generalize hL : lst f (2 ^ N) = L at *
  generalize hQ : lst (prS i f) (2 ^ N) = Q at *
  generalize hK : lst F (2 ^ N) = K at *
  generalize dimS S (-1, 0) = D at *
  obtain ⟨a1, c1, o1⟩ := osl_shape q1 L.length
  obtain ⟨a2, c2, o2⟩ := osl_shape q2 S.length
  obtain ⟨a4, c4, o4⟩ := osl_shape q4 Q.length
  obtain ⟨a5, c5, o5⟩ := osl_shape q5 T.length
  obtain ⟨a6, c6, o6⟩ := osl_shape q6 K.length
  obtain ⟨a7, c7, o7⟩ := osl_shape q7 K.length
  obtain ⟨a8, c8, o8⟩ := osl_shape q8 K.length
  rw [o1, eN] at e1
  rw [o1, o2, eN] at e2
  rw [o1, eN] at e3
  rw [o1, o4, eN] at e4
  rw [o4, o5, eN] at e5
  rw [o1, o6, eN] at e6
  rw [o6, o7, eN] at e7
  rw [o6, o8, eN] at e8
  rw [o8, o6] at e9
  rw [o7, o6] at e10
  rw [o2] at hRS
  rw [o5] at hRT
  refine ok_go 2 ?_
  refine sy_call 0 (by kernel_rfl) e1 ?_
  refine ok_go 0 ?_
  refine sy_call 0 (by kernel_rfl) e2 ?_
  refine ok_go 2 ?_
  refine sy_call 0 (by kernel_rfl) e3 ?_
  refine ok_go 4 ?_
  refine sy_call 0 (by kernel_rfl) e17 ?_
  refine ok_go 0 ?_
  refine sy_call 0 (by kernel_rfl) e4 ?_
  refine ok_go 2 ?_
  refine sy_call 0 (by kernel_rfl) e5 ?_
  refine ok_go 2 ?_
  refine sy_call 0 (by kernel_rfl) e6 ?_
  refine ok_go 2 ?_
  refine sy_call 0 (by kernel_rfl) e7 ?_
  refine ok_go 2 ?_
  refine sy_call 0 (by kernel_rfl) e8 ?_
  refine ok_go 36 ?_
  refine sy_no 0 (b := decide (Int.ofNat L.length > Int.ofNat S.length)) (by kernel_rfl) (decide_eq_false (by show ¬ (S.length : Int) < (L.length : Int); omega)) ?_
  refine ok_go 8 ?_
  refine sy_no 0 (b := Int.ofNat Q.length != Int.ofNat L.length) (by kernel_rfl) (by rw [hcP, bne_self_eq_false]) ?_
  refine ok_go 8 ?_
  refine sy_no 0 (b := Int.ofNat K.length != Int.ofNat L.length) (by kernel_rfl) (by rw [hcF, bne_self_eq_false]) ?_
  refine ok_go 2 ?_
  refine sy_call 0 (by kernel_rfl) e9 ?_
  refine ok_go 6 ?_
  refine sy_call 0 (by kernel_rfl) e10 ?_
  refine ok_go 4 ?_
  have hch : ∀ q, chS N q ≤ 128 := fun q => Nat.le_trans (chS_le N q) h2N
  obtain ⟨d, hd⟩ : ∃ d : Nat, D.1 + 1 = Int.ofNat d := Int.eq_ofNat_of_zero_le (by omega)
  have hd : D.1 + 1 = (d : Int) := hd
  have hD3 : L.length ≤ chS N d := by
    have : (D.1 + 1).toNat = d := by rw [hd]; rfl
    rwa [this] at hD3
  refine sy_loop 0 100000 g8 (α := Nat) (fun q => [(0, J N), (7, .slice a1 L.length c1), (8, .slice a2 S.length c2), (10, I D.1), (15, .slice a5 T.length c5), (23, J (chS N q)), (24, J q)]) (fun q g => q ≤ d ∧ g = g8) (fun q _ => d - q) 0 (by kernel_rfl) (by kernel_rfl)
    ⟨(by kernel_rfl : _ = I (zS z)).trans (by rw [hZ]), by kernel_rfl, by kernel_rfl, by kernel_rfl, by kernel_rfl, by kernel_rfl, by kernel_rfl, trivial⟩ (show d - 0 < 100000 by omega) ⟨Nat.zero_le _, rfl⟩ ?_
  rintro m1 q F1 g ⟨hq, rfl⟩ ih
  have hw : IntKind.wrap .i64 (Int.ofNat (q + 1)) = Int.ofNat (q + 1) := wrap_nat (by omega)
  refine ok_go 1 ?_
  by_cases hqd : q < d
  · refine sy_yes 0 (b := decide (Int.ofNat q ≤ D.1)) (by kernel_rfl) (decide_eq_true (by show (q : Int) ≤ D.1; omega)) ?_
    have ec := rcho_of 100000 (m + 5) N q (by decide) hN7 (by omega) g
    have h1 := hch (q + 1)
    have hs1 : chS N (q + 1) = chS N q + chT N q := rfl
    have hw2 : IntKind.wrap .i64 (Int.ofNat (chS N q + chT N q)) = Int.ofNat (chS N q + chT N q) := wrap_nat (by omega)
    refine ok_go 0 ?_
    refine sy_call 0 (by kernel_rfl) ec ?_
    refine ok_go 2 ?_
    exact sy_next 0 _ g (by kernel_rfl) (by kernel_rfl) (ih (q + 1) _ g ⟨hqd, rfl⟩ (show d - (q + 1) < d - q by omega) ⟨by kernel_rfl, by kernel_rfl, by kernel_rfl, by kernel_rfl, by kernel_rfl, (by kernel_rfl : _ = I (IntKind.wrap .i64 (Int.ofNat (chS N q + chT N q)))).trans (by rw [hw2, hs1]), (by kernel_rfl : _ = I (IntKind.wrap .i64 (Int.ofNat (q + 1)))).trans (by rw [hw]), trivial⟩)
  · obtain rfl : q = d := by omega
    refine sy_no 0 (b := decide (Int.ofNat q ≤ D.1)) (by kernel_rfl) (decide_eq_false (by show ¬ (q : Int) ≤ D.1; omega)) ?_
    clear ih
    generalize chS N q = MM at *
    have hix : ∀ k (hk : k < T.length), ∃ p, ∃ hp : p < S.length, S[p] = T[k] := fun k hk => by
      obtain ⟨p, hp, h1⟩ := List.getElem_of_mem (hsub _ (List.getElem_mem hk))
      exact ⟨p, hp, h1⟩
    have hSp : ∀ a b (ha : a < S.length) (hb : b < S.length), S[a] < S[b] → a < b := fun a b ha hb h1 => by
      rcases Nat.lt_trichotomy a b with h2 | h2 | h2
      · exact h2
      · subst h2; omega
      · have := List.pairwise_iff_getElem.1 hSr b a hb ha h2; omega
    have hSq : ∀ a b (ha : a < S.length) (hb : b < S.length), a < b → S[a] < S[b] := fun a b ha hb h1 => List.pairwise_iff_getElem.1 hSr a b ha hb h1
    refine ok_go 0 ?_
    refine sy_loop 0 100000 g (α := Nat × Nat) (fun y => [(7, .slice a1 L.length c1), (8, .slice a2 S.length c2), (15, .slice a5 T.length c5), (23, J MM), (25, J y.2), (26, J y.1)]) (fun y g' => (y.1 ≤ T.length ∧ ∀ (hk : y.1 < T.length) (p : Nat) (hp : p < S.length), S[p] = T[y.1] → y.2 ≤ p) ∧ g' = g) (fun y _ => T.length - y.1) (0, 0) (by kernel_rfl) (by kernel_rfl)
      ⟨by kernel_rfl, by kernel_rfl, by kernel_rfl, by kernel_rfl, by kernel_rfl, by kernel_rfl, trivial⟩ (show T.length - 0 < 100000 by omega) ⟨⟨Nat.zero_le _, fun _ _ _ _ => Nat.zero_le _⟩, rfl⟩ ?_
    rintro m2 ⟨k, at0⟩ F2 g ⟨⟨hk, hat⟩, rfl⟩ ih
    dsimp only at hk hat
    have hw : IntKind.wrap .i64 (Int.ofNat (k + 1)) = Int.ofNat (k + 1) := wrap_nat (by omega)
    refine ok_go 2 ?_
    refine sy_test 0 (decide (Int.ofNat k < Int.ofNat T.length)) (by kernel_rfl) ?_ ?_
    · intro hlt
      have hlt : k < T.length := ok_nat hlt
      obtain ⟨p, hp, hpe⟩ := hix k hlt
      have hap := hat hlt p hp hpe
      obtain ⟨pt, ht1, ht2⟩ := rdN hRT hlt
      refine sy_loop 0 100000 g (α := Nat) (fun a => [(7, .slice a1 L.length c1), (8, .slice a2 S.length c2), (15, .slice a5 T.length c5), (23, J MM), (25, J a), (26, J k)]) (fun a g' => a ≤ p ∧ g' = g) (fun a _ => p - a) at0 (by kernel_rfl) (by kernel_rfl)
        ⟨by kernel_rfl, by kernel_rfl, by kernel_rfl, by kernel_rfl, by kernel_rfl, by kernel_rfl, trivial⟩ (show p - at0 < 100000 by omega) ⟨hap, rfl⟩ ?_
      rintro m3 a F3 g ⟨ha, rfl⟩ ih3
      have hwa : IntKind.wrap .i64 (Int.ofNat (a + 1)) = Int.ofNat (a + 1) := wrap_nat (by omega)
      have haS : a < S.length := by omega
      obtain ⟨ps, hs1, hs2⟩ := rdN hRS haS
      refine ok_go 2 ?_
      refine sy_yes 0 (b := decide (Int.ofNat a < Int.ofNat S.length)) (by kernel_rfl) (decide_eq_true (by show (a : Int) < (S.length : Int); omega)) ?_
      have hcase : (a < p ∧ S[a] < T[k]) ∨ (a = p ∧ S[a] = T[k]) := by
        rcases Nat.eq_or_lt_of_le ha with h1 | h1
        · subst h1; exact .inr ⟨rfl, hpe⟩
        · exact .inl ⟨h1, by rw [← hpe]; exact hSq a p haS hp h1⟩
      have hnx : a = p → ∀ (hk2 : k + 1 < T.length) (p2 : Nat) (hp2 : p2 < S.length), S[p2] = T[k + 1] → a ≤ p2 := fun h1 hk2 p2 hp2 h2 => by
        subst h1
        have h3 : T[k] < T[k + 1] := List.pairwise_iff_getElem.1 hTr k (k + 1) hlt hk2 (by omega)
        exact Nat.le_of_lt (hSp a p2 haS hp2 (by omega))
      generalize hx : S[a] = x at *
      generalize hy : T[k] = y at *
      refine ok_go 2 ?_
      refine sy_load 0 (r := indexAddrOp Tryz.prog 28 (.slice a2 S.length c2) (J a)) (h' := g) (by kernel_rfl) hs1 ?_
      refine ok_go 1 ?_
      refine sy_load 0 (r := loadT Tryz.prog g 3 ps) (h' := g) (by kernel_rfl) hs2 ?_
      refine ok_go 3 ?_
      refine sy_load 0 (r := indexAddrOp Tryz.prog 28 (.slice a5 T.length c5) (J k)) (h' := g) (by kernel_rfl) ht1 ?_
      refine ok_go 1 ?_
      refine sy_load 0 (r := loadT Tryz.prog g 3 pt) (h' := g) (by kernel_rfl) ht2 ?_
      refine ok_go 3 ?_
      rcases hcase with ⟨h1, h2⟩ | ⟨h1, h2⟩
      · refine sy_yes 0 (b := decide (Int.ofNat x < Int.ofNat y)) (by kernel_rfl) (decide_eq_true (by show (x : Int) < (y : Int); omega)) ?_
        refine ok_go 1 ?_
        exact sy_next 0 _ g (by kernel_rfl) (by kernel_rfl) (ih3 (a + 1) _ g ⟨h1, rfl⟩ (show p - (a + 1) < p - a by omega) ⟨by kernel_rfl, by kernel_rfl, by kernel_rfl, by kernel_rfl, (by kernel_rfl : _ = I (IntKind.wrap .i64 (Int.ofNat (a + 1)))).trans (by rw [hwa]), by kernel_rfl, trivial⟩)
      · refine sy_no 0 (b := decide (Int.ofNat x < Int.ofNat y)) (by kernel_rfl) (decide_eq_false (by show ¬ (x : Int) < (y : Int); omega)) ?_
        refine ok_go 2 ?_
        refine sy_no 0 (b := Int.ofNat a == Int.ofNat S.length) (by kernel_rfl) (beq_eq_false_iff_ne.2 fun h => by have := Int.ofNat.inj h; omega) ?_
        refine ok_go 2 ?_
        refine sy_load 0 (r := indexAddrOp Tryz.prog 28 (.slice a2 S.length c2) (J a)) (h' := g) (by kernel_rfl) hs1 ?_
        refine ok_go 1 ?_
        refine sy_load 0 (r := loadT Tryz.prog g 3 ps) (h' := g) (by kernel_rfl) hs2 ?_
        refine ok_go 3 ?_
        refine sy_load 0 (r := indexAddrOp Tryz.prog 28 (.slice a5 T.length c5) (J k)) (h' := g) (by kernel_rfl) ht1 ?_
        refine ok_go 1 ?_
        refine sy_load 0 (r := loadT Tryz.prog g 3 pt) (h' := g) (by kernel_rfl) ht2 ?_
        refine ok_go 3 ?_
        refine sy_no 0 (b := Int.ofNat x != Int.ofNat y) (by kernel_rfl) (by rw [h2, bne_self_eq_false]) ?_
        refine ok_go 1 ?_
        exact sy_next 0 _ g (by kernel_rfl) (by kernel_rfl) (ih (k + 1, a) _ g ⟨⟨hlt, hnx h1⟩, rfl⟩ (show T.length - (k + 1) < T.length - k by omega) ⟨by kernel_rfl, by kernel_rfl, by kernel_rfl, by kernel_rfl, by kernel_rfl, (by kernel_rfl : _ = I (IntKind.wrap .i64 (Int.ofNat (k + 1)))).trans (by rw [hw]), trivial⟩)
    · intro hlt
      refine ok_go 2 ?_
      refine sy_yes 0 (b := decide (Int.ofNat L.length ≤ Int.ofNat MM)) (by kernel_rfl) (decide_eq_true (by show (L.length : Int) ≤ (MM : Int); omega)) ?_
      refine ok_go 2 ?_
      exact sy_done 0 (v := .bool true) (h := g) (by kernel_rfl) rfl
theorem said9 (z : Int) (zs : List Int) (hz : zs.length < 2 ^ 63) (xa : Option Addr) (xc : Nat) (zi : Int) (h : Hp) (hx : Rds h (.slice xa zs.length xc) (zs.map I)) (_ : WfS (.slice xa zs.length xc)) : ∃ H, evInv Tryz.prog orc 100000 1000 (.fn 9 [.int .i64 z, .slice xa zs.length xc, .int .i64 zi]) h = some (.bool true, H) :=
  law9 993 z zs hz zi _ h hx
end Go.Proofs.YtkfbfgcflnkllaaGreatDoor
