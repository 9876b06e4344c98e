/- Families: what Check says, and the reference's. -/
import Derived.Test.YtkfbfgcflnkllaaGreatDoorProg
import Derived.KernelRfl
import Derived.Test.YtkfbfgcflnkllaaGreatDoorSyF
import Derived.Test.YtkfbfgcflnkllaaGreatDoorSxC
import Derived.Test.YtkfbfgcflnkllaaGreatDoorSyD
import Derived.ChangeSlices
import Derived.ChangeArms
import Derived.OpenShut
namespace Go.Proofs.YtkfbfgcflnkllaaGreatDoor
open Go Go.Eng Nim
set_option maxRecDepth 100000
set_option maxHeartbeats 8000000
theorem rdI {h : Hp} {rv : Value} {zs : List Int} (hr : Rds h rv (zs.map I)) {k : Nat} (hk : k < zs.length) : ∃ p, indexAddrOp Tryz.prog 28 rv (J k) = some p ∧ loadT Tryz.prog h 3 p = some (I zs[k]) :=
  hr.read (e := 3) (by kernel_rfl) (by kernel_rfl) (by kernel_rfl) (by rw [List.getElem?_map, List.getElem?_eq_getElem hk]; rfl)
theorem rdN {h : Hp} {rv : Value} {r : List Nat} (hr : Rds h rv (r.map J)) {k : Nat} (hk : k < r.length) : ∃ p, indexAddrOp Tryz.prog 28 rv (J k) = some p ∧ loadT Tryz.prog h 3 p = some (J r[k]) :=
  hr.read (e := 3) (by kernel_rfl) (by kernel_rfl) (by kernel_rfl) (by rw [List.getElem?_map, List.getElem?_eq_getElem hk]; rfl)
theorem all_I (l : List Int) : (l.map I).all scalar = true := List.all_eq_true.2 fun v hv => by obtain ⟨n, _, rfl⟩ := List.mem_map.1 hv; rfl
theorem all_J (l : List Nat) : (l.map J).all scalar = true := List.all_eq_true.2 fun v hv => by obtain ⟨n, _, rfl⟩ := List.mem_map.1 hv; rfl
/-- The number ahead of number i. -/
def lastI (zs : List Int) (i : Nat) : Int := if i = 0 then -1 else zs.getD (i - 1) 0
def badAt (n : Nat) (zs : List Int) (i : Nat) : Prop := zs.getD i 0 ≤ lastI zs i ∨ zs.getD i 0 ≥ 2 ^ n
def GoodTo (n : Nat) (zs : List Int) (k : Nat) : Prop := ∀ i, i < k → ¬ badAt n zs i
/-- What Check says: the first bad place, or none. -/
def FamR (n : Int) (zs : List Int) (e : Nat) : Prop := ((n < 0 ∨ 10 < n) ∧ e = 1) ∨ ∃ N : Nat, n = Int.ofNat N ∧ N ≤ 10 ∧ ((e = 80 ∧ ∃ i, i < zs.length ∧ GoodTo N zs i ∧ badAt N zs i) ∨ (e = 0 ∧ GoodTo N zs zs.length))
theorem FamR.uniq {n : Int} {zs : List Int} {e f : Nat} (h1 : FamR n zs e) (h2 : FamR n zs f) : e = f := by
  rcases h1 with ⟨a, rfl⟩ | ⟨N, rfl, hN, h1⟩ <;> rcases h2 with ⟨b, rfl⟩ | ⟨M, hM, hM2, h2⟩
  · rfl
  · subst hM
    have : ¬ ((Int.ofNat M) < 0 ∨ 10 < Int.ofNat M) := by rintro (h | h) <;> simp at h <;> omega
    exact absurd a this
  · have : ¬ ((Int.ofNat N) < 0 ∨ 10 < Int.ofNat N) := by rintro (h | h) <;> simp at h <;> omega
    exact absurd b this
  · cases hM
    rcases h1 with ⟨rfl, i, hi, _, hb⟩ | ⟨rfl, hg⟩ <;> rcases h2 with ⟨rfl, j, hj, _, hb2⟩ | ⟨rfl, hg2⟩
    · rfl
    · exact absurd hb (hg2 i hi)
    · exact absurd hb2 (hg j hj)
    · rfl
theorem chk_of (lf m : Nat) (n : Int) (zs : List Int) (hz : zs.length < 100000) (hlf : zs.length < lf) (x : Value) (h : Hp) (hx : Rds h x (zs.map I)) :
    ∃ e, FamR n zs e ∧ Ev lf (m + 1) 57 [I n, x] h = some (J e, h) := by
  suffices ∃ v h', Ev lf (m + 1) 57 [I n, x] h = some (v, h') ∧ ∃ e, FamR n zs e ∧ v = J e ∧ h' = h by
    obtain ⟨v, h', e1, e, e2, rfl, rfl⟩ := this
    exact ⟨e, e2, e1⟩
  refine fnS_ok (Q := fun v h' => ∃ e, FamR n zs e ∧ v = J e ∧ h' = h) ?_
  obtain ⟨xa, xc, hxs⟩ := hx.shape
  rw [List.length_map] at hxs
  subst hxs
  have W := Sto.start h
  by_cases h0 : n < 0
  · refine ok_go 1 ?_
    refine sy_yes 0 (b := decide (n < 0)) (by kernel_rfl) (decide_eq_true h0) ?_
    refine ok_go 3 ?_
    exact sy_done 0 (v := J 1) (h := h) (by kernel_rfl) ⟨1, .inl ⟨.inl h0, rfl⟩, rfl, rfl⟩
  refine ok_go 1 ?_
  refine sy_no 0 (b := decide (n < 0)) (by kernel_rfl) (decide_eq_false h0) ?_
  refine ok_go 3 ?_
  by_cases h10 : n > 10
  · refine sy_yes 0 (b := decide (n > 10)) (by kernel_rfl) (decide_eq_true h10) ?_
    refine ok_go 0 ?_
    exact sy_done 0 (v := J 1) (h := h) (by kernel_rfl) ⟨1, .inl ⟨.inr h10, rfl⟩, rfl, rfl⟩
  refine sy_no 0 (b := decide (n > 10)) (by kernel_rfl) (decide_eq_false h10) ?_
  obtain ⟨N, rfl⟩ := Int.eq_ofNat_of_zero_le (show 0 ≤ n by omega)
  have hN : N ≤ 10 := by have : ¬ (10 : Int) < (N : Int) := h10; omega
  have hsh := one_shl N (by omega)
  have hpw : Int.ofNat (2 ^ N) = (2 : Int) ^ N := by simp
  refine ok_go 1 ?_
  refine sy_loop 0 lf h (α := Nat) (fun i => [(0, J N), (5, I (lastI zs i)), (14, .slice xa zs.length xc), (15, J zs.length), (16, J i)]) (fun i g => i ≤ zs.length ∧ GoodTo N zs i ∧ g = h) (fun i _ => zs.length - i) 0 (by kernel_rfl) (by kernel_rfl)
    ⟨by kernel_rfl, by kernel_rfl, by kernel_rfl, by kernel_rfl, by kernel_rfl, trivial⟩ (show zs.length - 0 < lf by omega) ⟨Nat.zero_le _, fun i hi => absurd hi (Nat.not_lt_zero i), rfl⟩ ?_
  rintro m1 i F1 g ⟨hi, hG, rfl⟩ ih
  have hw : IntKind.wrap .i64 (Int.ofNat (i + 1)) = Int.ofNat (i + 1) := wrap_nat (by omega)
  refine ok_go 1 ?_
  refine sy_test 0 (decide (Int.ofNat i < Int.ofNat zs.length)) (by kernel_rfl) ?_ ?_
  · intro hlt
    have hlt : i < zs.length := ok_nat hlt
    obtain ⟨p, hp1, hp2⟩ := rdI hx hlt
    have hgd : zs.getD i 0 = zs[i] := by rw [List.getD_eq_getElem?_getD, List.getElem?_eq_getElem hlt]; rfl
    have hla : lastI zs (i + 1) = zs[i] := by unfold lastI; rw [if_neg (by omega), Nat.add_sub_cancel, hgd]
    refine ok_go 0 ?_
    refine sy_load 0 (r := indexAddrOp Tryz.prog 28 (.slice xa zs.length xc) (J i)) (h' := g) (by kernel_rfl) hp1 ?_
    refine ok_go 0 ?_
    refine sy_load 0 (r := loadT Tryz.prog g 3 p) (h' := g) (by kernel_rfl) hp2 ?_
    refine ok_go 1 ?_
    by_cases hb1 : zs[i] ≤ lastI zs i
    · refine sy_yes 0 (b := decide (zs[i] ≤ lastI zs i)) (by kernel_rfl) (decide_eq_true hb1) ?_
      refine ok_go 6 ?_
      exact sy_done 0 (v := J 80) (h := g) (by kernel_rfl) ⟨80, .inr ⟨N, rfl, hN, .inl ⟨rfl, i, hlt, hG, .inl (by rw [hgd]; exact hb1)⟩⟩, rfl, rfl⟩
    · refine sy_no 0 (b := decide (zs[i] ≤ lastI zs i)) (by kernel_rfl) (decide_eq_false hb1) ?_
      refine ok_go 8 ?_
      by_cases hb2 : zs[i] ≥ Int.ofNat (2 ^ N)
      · refine sy_yes 0 (b := decide (zs[i] ≥ IntKind.i64.wrap (1 * 2 ^ min (IntKind.u64.wrap (Int.ofNat N)).toNat IntKind.i64.bits))) (by kernel_rfl) (by rw [hsh]; exact decide_eq_true hb2) ?_
        refine ok_go 0 ?_
        exact sy_done 0 (v := J 80) (h := g) (by kernel_rfl) ⟨80, .inr ⟨N, rfl, hN, .inl ⟨rfl, i, hlt, hG, .inr (by rw [hgd, ← hpw]; exact hb2)⟩⟩, rfl, rfl⟩
      · refine sy_no 0 (b := decide (zs[i] ≥ IntKind.i64.wrap (1 * 2 ^ min (IntKind.u64.wrap (Int.ofNat N)).toNat IntKind.i64.bits))) (by kernel_rfl) (by rw [hsh]; exact decide_eq_false hb2) ?_
        refine ok_go 1 ?_
        refine sy_next 0 _ g (by kernel_rfl) (by kernel_rfl) (ih (i + 1) _ g ⟨hlt, fun j hj => ?_, rfl⟩ (show zs.length - (i + 1) < zs.length - i by omega) ⟨by kernel_rfl, (by kernel_rfl : _ = I zs[i]).trans (by rw [hla]), by kernel_rfl, by kernel_rfl, (by kernel_rfl : _ = Value.int .i64 (IntKind.wrap .i64 (Int.ofNat (i + 1)))).trans (by rw [hw]), trivial⟩)
        rcases Nat.lt_succ_iff_lt_or_eq.1 hj with h | rfl
        · exact hG j h
        · rintro (h | h)
          · rw [hgd] at h; exact hb1 h
          · rw [hgd, ← hpw] at h
            exact hb2 h
  · intro hlt
    have hlt : i = zs.length := Nat.le_antisymm hi (no_nat hlt)
    subst hlt
    refine ok_go 0 ?_
    exact sy_done 0 (v := J 0) (h := g) (by kernel_rfl) ⟨0, .inr ⟨N, rfl, hN, .inr ⟨rfl, hG⟩⟩, rfl, rfl⟩
end Go.Proofs.YtkfbfgcflnkllaaGreatDoor
namespace Go.Proofs.YtkfbfgcflnkllaaGreatDoor
open Go Go.Eng Nim
set_option maxRecDepth 100000
set_option maxHeartbeats 8000000
theorem rchk_of (lf m : Nat) (n : Int) (zs : List Int) (hz : zs.length < 100000) (hlf : zs.length < lf) (x : Value) (h : Hp) (hx : Rds h x (zs.map I)) :
    ∃ e, FamR n zs e ∧ Ev lf (m + 1) 54 [I n, x] h = some (J e, h) := by
  suffices ∃ v h', Ev lf (m + 1) 54 [I n, x] h = some (v, h') ∧ ∃ e, FamR n zs e ∧ v = J e ∧ h' = h by
    obtain ⟨v, h', e1, e, e2, rfl, rfl⟩ := this
    exact ⟨e, e2, e1⟩
  refine fnS_ok (Q := fun v h' => ∃ e, FamR n zs e ∧ v = J e ∧ h' = h) ?_
  obtain ⟨xa, xc, hxs⟩ := hx.shape
  rw [List.length_map] at hxs
  subst hxs
  have W := Sto.start h
  by_cases h0 : n < 0
  · refine ok_go 1 ?_
    refine sy_yes 0 (b := decide (n < 0)) (by kernel_rfl) (decide_eq_true h0) ?_
    refine ok_go 3 ?_
    exact sy_done 0 (v := J 1) (h := h) (by kernel_rfl) ⟨1, .inl ⟨.inl h0, rfl⟩, rfl, rfl⟩
  refine ok_go 1 ?_
  refine sy_no 0 (b := decide (n < 0)) (by kernel_rfl) (decide_eq_false h0) ?_
  refine ok_go 3 ?_
  by_cases h10 : n > 10
  · refine sy_yes 0 (b := decide (n > 10)) (by kernel_rfl) (decide_eq_true h10) ?_
    refine ok_go 0 ?_
    exact sy_done 0 (v := J 1) (h := h) (by kernel_rfl) ⟨1, .inl ⟨.inr h10, rfl⟩, rfl, rfl⟩
  refine sy_no 0 (b := decide (n > 10)) (by kernel_rfl) (decide_eq_false h10) ?_
  obtain ⟨N, rfl⟩ := Int.eq_ofNat_of_zero_le (show 0 ≤ n by omega)
  have hN : N ≤ 10 := by have : ¬ (10 : Int) < (N : Int) := h10; omega
  have hsh := one_shl N (by omega)
  have hpw : Int.ofNat (2 ^ N) = (2 : Int) ^ N := by simp
  refine ok_go 0 ?_
  refine sy_loop 0 lf h (α := Nat) (fun i => [(0, J N), (1, .slice xa zs.length xc), (5, J i)]) (fun i g => i ≤ zs.length ∧ GoodTo N zs i ∧ g = h) (fun i _ => zs.length - i) 0 (by kernel_rfl) (by kernel_rfl)
    ⟨by kernel_rfl, by kernel_rfl, by kernel_rfl, trivial⟩ (show zs.length - 0 < lf by omega) ⟨Nat.zero_le _, fun i hi => absurd hi (Nat.not_lt_zero i), rfl⟩ ?_
  rintro m1 i F1 g ⟨hi, hG, rfl⟩ ih
  have hw : IntKind.wrap .i64 (Int.ofNat (i + 1)) = Int.ofNat (i + 1) := wrap_nat (by omega)
  refine ok_go 2 ?_
  refine sy_test 0 (decide (Int.ofNat i < Int.ofNat zs.length)) (by kernel_rfl) ?_ ?_
  · intro hlt
    have hlt : i < zs.length := ok_nat hlt
    obtain ⟨p, hp1, hp2⟩ := rdI hx hlt
    have hgd : zs.getD i 0 = zs[i] := by rw [List.getD_eq_getElem?_getD, List.getElem?_eq_getElem hlt]; rfl
    have bad : ∀ {t : SA}, badAt N zs i → doneP (goS 0 t) = some (J 80, g) → Ok (fun v h' => ∃ e, FamR (Int.ofNat N) zs e ∧ v = J e ∧ h' = g) t := fun hb hd =>
      sy_done 0 (v := J 80) (h := g) hd ⟨80, .inr ⟨N, rfl, hN, .inl ⟨rfl, i, hlt, hG, hb⟩⟩, rfl, rfl⟩
    have hb0 : zs[i] < 0 → badAt N zs i := fun hz0 => by
      refine .inl ?_
      rw [hgd]
      unfold lastI
      split
      · omega
      · have := hG (i - 1) (by omega)
        have h3 : ¬ zs.getD (i - 1) 0 < 0 := fun hneg => by
          refine this (.inl ?_)
          have hne := fun k (_ : k < i) => hG k
          unfold lastI
          split
          · omega
          · have := hG (i - 1 - 1) (by omega)
            exact absurd hneg (by
              have key : ∀ k, k < i → 0 ≤ zs.getD k 0 := fun k => by
                induction k with
                | zero =>
                  intro hk
                  have := hG 0 hk
                  unfold badAt lastI at this
                  simp only [if_true] at this
                  omega
                | succ k ihk =>
                  intro hk
                  have h1 := ihk (by omega)
                  have := hG (k + 1) hk
                  unfold badAt lastI at this
                  rw [if_neg (by omega), Nat.add_sub_cancel] at this
                  omega
              have := key (i - 1) (by omega)
              omega)
        omega
    refine ok_go 0 ?_
    refine sy_load 0 (r := indexAddrOp Tryz.prog 28 (.slice xa zs.length xc) (J i)) (h' := g) (by kernel_rfl) hp1 ?_
    refine ok_go 0 ?_
    refine sy_load 0 (r := loadT Tryz.prog g 3 p) (h' := g) (by kernel_rfl) hp2 ?_
    refine ok_go 1 ?_
    by_cases hz0 : zs[i] < 0
    · refine sy_yes 0 (b := decide (zs[i] < 0)) (by kernel_rfl) (decide_eq_true hz0) ?_
      refine ok_go 14 ?_
      exact bad (hb0 hz0) (by kernel_rfl)
    refine sy_no 0 (b := decide (zs[i] < 0)) (by kernel_rfl) (decide_eq_false hz0) ?_
    refine ok_go 2 ?_
    refine sy_load 0 (r := indexAddrOp Tryz.prog 28 (.slice xa zs.length xc) (J i)) (h' := g) (by kernel_rfl) hp1 ?_
    refine ok_go 1 ?_
    refine sy_load 0 (r := loadT Tryz.prog g 3 p) (h' := g) (by kernel_rfl) hp2 ?_
    refine ok_go 8 ?_
    by_cases hb2 : zs[i] ≥ Int.ofNat (2 ^ N)
    · refine sy_yes 0 (b := decide (zs[i] ≥ IntKind.i64.wrap (1 * 2 ^ min (IntKind.u64.wrap (Int.ofNat N)).toNat IntKind.i64.bits))) (by kernel_rfl) (by rw [hsh]; exact decide_eq_true hb2) ?_
      refine ok_go 5 ?_
      exact bad (.inr (by rw [hgd, ← hpw]; exact hb2)) (by kernel_rfl)
    refine sy_no 0 (b := decide (zs[i] ≥ IntKind.i64.wrap (1 * 2 ^ min (IntKind.u64.wrap (Int.ofNat N)).toNat IntKind.i64.bits))) (by kernel_rfl) (by rw [hsh]; exact decide_eq_false hb2) ?_
    refine ok_go 3 ?_
    have next : badAt N zs i ∨ GoodTo N zs (i + 1) := by
      by_cases hb : badAt N zs i
      · exact .inl hb
      · refine .inr fun j hj => ?_
        rcases Nat.lt_succ_iff_lt_or_eq.1 hj with h | rfl
        · exact hG j h
        · exact hb
    by_cases hi0 : i = 0
    · subst hi0
      refine ok_go 15 ?_
      refine sy_next 0 _ g (by kernel_rfl) (by kernel_rfl) (ih 1 _ g ⟨hlt, next.resolve_left ?_, rfl⟩ (show zs.length - 1 < zs.length - 0 by omega) ⟨by kernel_rfl, by kernel_rfl, by kernel_rfl, trivial⟩)
      rintro (h | h)
      · rw [hgd] at h
        exact hz0 (by have h : zs[0] ≤ -1 := h; omega)
      · rw [hgd, ← hpw] at h
        exact hb2 h
    · obtain ⟨k, rfl⟩ : ∃ k, i = k + 1 := ⟨i - 1, by omega⟩
      have hk1 : IntKind.wrap .i64 (Int.ofNat (k + 1) - 1) = Int.ofNat k := wrap_sub (a := k + 1) (b := 1) (by omega) (by omega)
      obtain ⟨p2, hp3, hp4⟩ := rdI hx (show k < zs.length by omega)
      have hla : lastI zs (k + 1) = zs[k] := by unfold lastI; rw [if_neg (by omega), Nat.add_sub_cancel, List.getD_eq_getElem?_getD, List.getElem?_eq_getElem (by omega)]; rfl
      refine sy_yes 0 (b := decide (Int.ofNat (k + 1) > 0)) (by kernel_rfl) (decide_eq_true (by show (0 : Int) < ((k + 1 : Nat) : Int); omega)) ?_
      refine ok_go 4 ?_
      refine sy_load 0 (r := indexAddrOp Tryz.prog 28 (.slice xa zs.length xc) (I (IntKind.wrap .i64 (Int.ofNat (k + 1) - 1)))) (h' := g) (by kernel_rfl) (by rw [hk1]; exact hp3) ?_
      refine ok_go 1 ?_
      refine sy_load 0 (r := loadT Tryz.prog g 3 p2) (h' := g) (by kernel_rfl) hp4 ?_
      refine ok_go 3 ?_
      refine sy_load 0 (r := indexAddrOp Tryz.prog 28 (.slice xa zs.length xc) (J (k + 1))) (h' := g) (by kernel_rfl) hp1 ?_
      refine ok_go 1 ?_
      refine sy_load 0 (r := loadT Tryz.prog g 3 p) (h' := g) (by kernel_rfl) hp2 ?_
      refine ok_go 5 ?_
      by_cases hb3 : zs[k] ≥ zs[k + 1]
      · refine sy_yes 0 (b := decide (zs[k] ≥ zs[k + 1])) (by kernel_rfl) (decide_eq_true hb3) ?_
        refine ok_go 0 ?_
        exact bad (.inl (by rw [hgd, hla]; exact hb3)) (by kernel_rfl)
      · refine sy_no 0 (b := decide (zs[k] ≥ zs[k + 1])) (by kernel_rfl) (decide_eq_false hb3) ?_
        refine ok_go 1 ?_
        refine sy_next 0 _ g (by kernel_rfl) (by kernel_rfl) (ih (k + 1 + 1) _ g ⟨hlt, next.resolve_left ?_, rfl⟩ (show zs.length - (k + 1 + 1) < zs.length - (k + 1) by omega) ⟨by kernel_rfl, by kernel_rfl, (by kernel_rfl : _ = Value.int .i64 (IntKind.wrap .i64 (Int.ofNat (k + 1 + 1)))).trans (by rw [hw]), trivial⟩)
        rintro (h | h)
        · rw [hgd, hla] at h; exact hb3 h
        · rw [hgd, ← hpw] at h; exact hb2 h
  · intro hlt
    have hlt : i = zs.length := Nat.le_antisymm hi (no_nat hlt)
    subst hlt
    refine ok_go 0 ?_
    exact sy_done 0 (v := J 0) (h := g) (by kernel_rfl) ⟨0, .inr ⟨N, rfl, hN, .inr ⟨rfl, hG⟩⟩, rfl, rfl⟩
end Go.Proofs.YtkfbfgcflnkllaaGreatDoor
namespace Go.Proofs.YtkfbfgcflnkllaaGreatDoor
open Go Go.Eng Nim
set_option maxRecDepth 100000
set_option maxHeartbeats 8000000
theorem same_of (lf m : Nat) (xs ys : List Int) (hlf : xs.length < lf) (hx1 : xs.length < 2 ^ 62) (x y : Value) (g : Hp) (hx : Rds g x (xs.map I)) (hy : Rds g y (ys.map I)) : Ev lf (m + 1) 16 [x, y] g = some (.bool (decide (xs = ys)), g) := by
  refine fn_eq ?_
  obtain ⟨xa, xc, hxs⟩ := hx.shape
  obtain ⟨ya, yc, hys⟩ := hy.shape
  rw [List.length_map] at hxs hys
  subst hxs hys
  have W := Sto.start g
  refine ok_go 3 ?_
  by_cases hne : xs.length = ys.length
  · refine sy_no 0 (b := Int.ofNat xs.length != Int.ofNat ys.length) (by kernel_rfl) (by rw [hne]; exact bne_self_eq_false _) ?_
    refine ok_go 0 ?_
    refine sy_loop 0 lf g (α := Nat) (fun i => [(0, .slice xa xs.length xc), (1, .slice ya ys.length yc), (5, J i)]) (fun i g' => i ≤ xs.length ∧ xs.take i = ys.take i ∧ g' = g) (fun i _ => xs.length - i) 0 (by kernel_rfl) (by kernel_rfl)
      ⟨by kernel_rfl, by kernel_rfl, by kernel_rfl, trivial⟩ (show xs.length - 0 < lf by omega) ⟨Nat.zero_le _, rfl, rfl⟩ ?_
    rintro m1 i F1 g ⟨hi, hpre, rfl⟩ ih
    have hw : IntKind.wrap .i64 (Int.ofNat (i + 1)) = Int.ofNat (i + 1) := wrap_nat (by omega)
    refine ok_go 2 ?_
    refine sy_test 0 (decide (Int.ofNat i < Int.ofNat xs.length)) (by kernel_rfl) ?_ ?_
    · intro hlt
      have hlt : i < xs.length := ok_nat hlt
      obtain ⟨p, hp1, hp2⟩ := rdI hx hlt
      obtain ⟨q, hq1, hq2⟩ := rdI hy (show i < ys.length by omega)
      refine ok_go 0 ?_
      refine sy_load 0 (r := indexAddrOp Tryz.prog 28 (.slice xa xs.length xc) (J i)) (h' := g) (by kernel_rfl) hp1 ?_
      refine ok_go 0 ?_
      refine sy_load 0 (r := loadT Tryz.prog g 3 p) (h' := g) (by kernel_rfl) hp2 ?_
      refine ok_go 0 ?_
      refine sy_load 0 (r := indexAddrOp Tryz.prog 28 (.slice ya ys.length yc) (J i)) (h' := g) (by kernel_rfl) hq1 ?_
      refine ok_go 0 ?_
      refine sy_load 0 (r := loadT Tryz.prog g 3 q) (h' := g) (by kernel_rfl) hq2 ?_
      refine ok_go 1 ?_
      by_cases he : xs[i] = ys[i]
      · refine sy_no 0 (b := xs[i] != ys[i]) (by kernel_rfl) (by rw [he]; exact bne_self_eq_false _) ?_
        refine ok_go 1 ?_
        exact sy_next 0 _ g (by kernel_rfl) (by kernel_rfl) (ih (i + 1) _ g ⟨hlt, by rw [List.take_succ_eq_append_getElem hlt, List.take_succ_eq_append_getElem (by omega), hpre, he], rfl⟩ (show xs.length - (i + 1) < xs.length - i by omega) ⟨by kernel_rfl, by kernel_rfl, (by kernel_rfl : _ = Value.int .i64 (IntKind.wrap .i64 (Int.ofNat (i + 1)))).trans (by rw [hw]), trivial⟩)
      · refine sy_yes 0 (b := xs[i] != ys[i]) (by kernel_rfl) (bne_iff_ne.2 he) ?_
        refine ok_go 0 ?_
        refine sy_done 0 (v := .bool false) (h := g) (by kernel_rfl) ⟨?_, rfl⟩
        rw [decide_eq_false fun h => he (by subst h; rfl)]
    · intro hlt
      have hlt : i = xs.length := Nat.le_antisymm hi (no_nat hlt)
      subst hlt
      refine ok_go 0 ?_
      refine sy_done 0 (v := .bool true) (h := g) (by kernel_rfl) ⟨?_, rfl⟩
      rw [List.take_length, hne, List.take_length] at hpre
      rw [decide_eq_true hpre]
  · refine sy_yes 0 (b := Int.ofNat xs.length != Int.ofNat ys.length) (by kernel_rfl) (bne_iff_ne.2 fun h => hne (Int.ofNat.inj h)) ?_
    refine ok_go 0 ?_
    refine sy_done 0 (v := .bool false) (h := g) (by kernel_rfl) ⟨?_, rfl⟩
    rw [decide_eq_false fun h => hne (by rw [h])]
theorem x_rem {k : IntKind} {t : TypeId} {a b : Int} (hb : b ≠ 0) : pureX (binOp .rem t (.int k a) (.int k b)) = some (.int k (a.tmod b)) := by
  refine pureX_of ?_ rfl
  simp only [binOp, ne_eq, not_true_eq_false, if_false, Op.intDiv, hb]
  rfl
end Go.Proofs.YtkfbfgcflnkllaaGreatDoor
namespace Go.Proofs.YtkfbfgcflnkllaaGreatDoor
open Go Go.Eng Nim Ch
set_option maxRecDepth 100000
set_option maxHeartbeats 8000000
theorem make_sl {t e : TypeId} {z : Value} {inf : TypeInfo} (hu : Tryz.prog.underlying t = some (.slice e)) (hz : zeroOf Tryz.prog e = some z) (hi : Tryz.prog.info? e = some inf) (hb : Nat.ble inf.bytes 4096 = true) (hc : z.cells.toList = [z]) (hs : Nat.beq z.cells.size inf.size = true) (hsc : scalar z = true) (n : Nat) (hn : n ≤ most) (h : Hp) :
    makeSliceOp Tryz.prog h t (J n) (J n) = some (.slice (some ⟨h.next, 0, none⟩) n (2 * n), h.new (.cells (List.replicate n z) e false)) := by
  have hzz : ∀ k, zeros [z] k = List.replicate k z := fun k => by
    induction k with
    | zero => rfl
    | succ k ih => rw [zeros, ih]; rfl
  have hnn : natOf (J n) = some n := rfl
  simp only [makeSliceOp, hu, hnn, hz, hi, Nat.ble_eq_true_of_le (Nat.le_refl n), Nat.ble_eq_true_of_le hn, hb, hs, hc, List.all_cons, hsc, List.all_nil, Bool.and_true, hzz]
theorem mk37 (n : Nat) (hn : n ≤ most) (h : Hp) : makeSliceOp Tryz.prog h 37 (J n) (J n) = some (.slice (some ⟨h.next, 0, none⟩) n (2 * n), h.new (.cells (List.replicate n (.bool false)) 4 false)) :=
  make_sl (by kernel_rfl) (by kernel_rfl) rfl (by kernel_rfl) rfl (by kernel_rfl) rfl n hn h
end Go.Proofs.YtkfbfgcflnkllaaGreatDoor
namespace Go.Proofs.YtkfbfgcflnkllaaGreatDoor
open Go Go.Eng Nim
set_option maxRecDepth 100000
set_option maxHeartbeats 8000000
theorem mk97_set {f : Nat → Bool} {k : Nat} {b : Bool} : updF (fun i => Value.bool (f i)) k (.bool b) = fun i => .bool (if i = k then b else f i) := by
  funext i
  unfold updF
  split <;> simp_all
end Go.Proofs.YtkfbfgcflnkllaaGreatDoor
namespace Go.Proofs.YtkfbfgcflnkllaaGreatDoor
open Go Go.Eng Nim
set_option maxRecDepth 100000
set_option maxHeartbeats 8000000
/-- What is marked below n, in order. -/
def lst (f : Nat → Bool) (n : Nat) : List Nat := (List.range n).filter f
theorem lst_succ (f : Nat → Bool) (n : Nat) : lst f (n + 1) = if f n then lst f n ++ [n] else lst f n := by
  unfold lst
  rw [List.range_succ, List.filter_append]
  cases h : f n <;> simp [h]
theorem lst_len (f : Nat → Bool) (n : Nat) : (lst f n).length ≤ n := by
  unfold lst
  exact Nat.le_trans (List.length_filter_le ..) (by rw [List.length_range]; exact Nat.le_refl _)
theorem lst_rd {h g : Hp} {f : Nat → Bool} {n q : Nat} (W : Sto h g (oent q 3 ((lst f n).map J))) : Rds g (oslV q (lst f n).length) ((lst f n).map J) := by
  have := osl_rd (H := g) (e := 3) (i := q) (zs := (lst f n).map J) fun p hp => (W.all p hp).2
  rwa [List.length_map] at this
end Go.Proofs.YtkfbfgcflnkllaaGreatDoor
namespace Go.Proofs.YtkfbfgcflnkllaaGreatDoor
open Go Go.Eng Nim
set_option maxRecDepth 100000
set_option maxHeartbeats 8000000
theorem rep_cells (n : Nat) (v : Value) : List.replicate n v = cellsF n fun _ => v := by
  unfold cellsF
  rw [List.map_const', List.length_range]
theorem mkB (n : Nat) (hn : n ≤ 1024) (h : Hp) : makeSliceOp Tryz.prog h 37 (J n) (J n) = some (.slice (some ⟨h.next, 0, none⟩) n (2 * n), h.new (.cells (cellsF n fun _ => .bool false) 4 false)) := by
  rw [← rep_cells]
  exact mk37 n (by unfold Eng.most; omega) h
theorem rem_u (x : Int) (N : Nat) (hN : 0 < N) (hN2 : N < 2 ^ 62) : ∃ k, k < N ∧ (IntKind.wrap .u64 x).tmod (IntKind.wrap .u64 (Int.ofNat N)) = Int.ofNat k := by
  obtain ⟨u, hu⟩ : ∃ u : Nat, IntKind.wrap .u64 x = Int.ofNat u := Int.eq_ofNat_of_zero_le (by
    show 0 ≤ x % 2 ^ 64
    exact Int.emod_nonneg _ (by decide))
  have h2 : IntKind.wrap .u64 (Int.ofNat N) = Int.ofNat N := Int.emod_eq_of_lt (Int.natCast_nonneg _) (show ((N : Nat) : Int) < 18446744073709551616 by omega)
  exact ⟨u % N, Nat.mod_lt _ hN, by rw [hu, h2]; rfl⟩
theorem wrap_ne (N : Nat) (hN : 0 < N) (hN2 : N < 2 ^ 62) : IntKind.wrap .u64 (Int.ofNat N) ≠ 0 := by
  have h2 : IntKind.wrap .u64 (Int.ofNat N) = Int.ofNat N := Int.emod_eq_of_lt (Int.natCast_nonneg _) (show ((N : Nat) : Int) < 18446744073709551616 by omega)
  rw [h2]
  exact fun h => by have : N = 0 := Int.ofNat.inj h; omega
end Go.Proofs.YtkfbfgcflnkllaaGreatDoor
namespace Go.Proofs.YtkfbfgcflnkllaaGreatDoor
open Go Go.Eng Nim
set_option maxRecDepth 100000
set_option maxHeartbeats 8000000
theorem lst_mem {f : Nat → Bool} {n x : Nat} : x ∈ lst f n ↔ x < n ∧ f x = true := by
  unfold lst
  rw [List.mem_filter, List.mem_range]
theorem lst_rise (f : Nat → Bool) (n : Nat) : (lst f n).Pairwise (· < ·) := by
  unfold lst
  exact List.Pairwise.filter _ List.pairwise_lt_range
theorem chk_lst (lf m : Nat) (hlf : 2000 ≤ lf) (n : Nat) (hn : n ≤ 10) (f : Nat → Bool) (v : Value) (h : Hp) (hv : Rds h v ((lst f (2 ^ n)).map J)) : Ev lf (m + 1) 57 [J n, v] h = some (J 0, h) := by
  have h2n : 2 ^ n ≤ 1024 := Nat.pow_le_pow_right (by decide) hn
  have hll := lst_len f (2 ^ n)
  obtain ⟨e, he, e1⟩ := chk_of lf m (Int.ofNat n) ((lst f (2 ^ n)).map Int.ofNat) (by rw [List.length_map]; omega) (by rw [List.length_map]; omega) v h (by rw [List.map_map]; exact hv)
  have h0 : FamR (Int.ofNat n) ((lst f (2 ^ n)).map Int.ofNat) 0 := by
    refine .inr ⟨n, rfl, hn, .inr ⟨rfl, ?_⟩⟩
    intro i hi hbad
    rw [List.length_map] at hi
    have hget : ∀ k (hk : k < (lst f (2 ^ n)).length), ((lst f (2 ^ n)).map Int.ofNat).getD k 0 = Int.ofNat (lst f (2 ^ n))[k] := fun k hk => by
      rw [List.getD_eq_getElem?_getD, List.getElem?_map, List.getElem?_eq_getElem hk]
      rfl
    have hlt := (lst_mem.1 (List.getElem_mem hi)).1
    have hp2 : (2 : Int) ^ n = Int.ofNat (2 ^ n) := by simp
    rcases hbad with hb | hb
    · rw [hget i hi] at hb
      unfold lastI at hb
      split at hb
      · have : Int.ofNat (lst f (2 ^ n))[i] ≥ 0 := Int.natCast_nonneg _
        omega
      · have hr := List.pairwise_iff_getElem.1 (lst_rise f (2 ^ n)) (i - 1) i (by omega) hi (by omega)
        rw [hget (i - 1) (by omega)] at hb
        have : (lst f (2 ^ n))[i] ≤ (lst f (2 ^ n))[i - 1] := Int.ofNat_le.1 hb
        omega
    · rw [hget i hi, hp2] at hb
      have : 2 ^ n ≤ (lst f (2 ^ n))[i] := Int.ofNat_le.1 hb
      omega
  rw [he.uniq h0] at e1
  exact e1
end Go.Proofs.YtkfbfgcflnkllaaGreatDoor
namespace Go.Proofs.YtkfbfgcflnkllaaGreatDoor
open Go Go.Eng Nim Oct
/-! Kleitman. -/
end Go.Proofs.YtkfbfgcflnkllaaGreatDoor
namespace Go.Proofs.YtkfbfgcflnkllaaGreatDoor
open Go Go.Eng Nim
set_option maxRecDepth 100000
set_option maxHeartbeats 8000000
end Go.Proofs.YtkfbfgcflnkllaaGreatDoor
namespace Go.Proofs.YtkfbfgcflnkllaaGreatDoor
open Go Go.Eng Nim
set_option maxRecDepth 100000
set_option maxHeartbeats 8000000
end Go.Proofs.YtkfbfgcflnkllaaGreatDoor
namespace Go.Proofs.YtkfbfgcflnkllaaGreatDoor
open Go Go.Eng Nim Go.ChangeShapes
set_option maxRecDepth 100000
section
variable {HH : Type} {enc : TypeId × Value → HH} {B : Prot} {w0 w : World}
theorem cell_block {w : World} {a : Addr} {v : Value} (h : w.cell? a = some v) : ∃ arr e fz, w.heap[a.block]? = some (.cells arr e fz) ∧ a.spot = none ∧ arr[a.off]? = some v := by
  unfold World.cell? at h
  split at h
  · rename_i c e fz hb
    split at h
    · cases h
    · rename_i hs
      refine ⟨c, e, fz, hb, ?_, h⟩
      cases hq : a.spot with
      | none => rfl
      | some q => rw [hq] at hs; simp at hs
  · cases h
theorem add_spot {a : Addr} (h : a.spot = none) (i : Nat) : a.add i = ⟨a.block, a.off + i, none⟩ := by
  obtain ⟨b, o, s⟩ := a
  simp only at h
  subst h
  unfold Addr.add
  split
  · rename_i h0; subst h0; rfl
  · rfl
/-- A slice in memory, as the evaluator sees it: the cells one by one. -/
theorem openCells {E : Env} {h : Hp} (H : HpOK Tryz.prog B w0 E h w) (hB : ∀ k, k < w.heap.size → B.ro k) {a : Addr} {len cap : Nat} (cs : List Value) (hl : cs.length = len) (hc0 : 0 < cap → a.spot = none)
    (hlc : len ≤ cap) (hcell : ∀ i v, cs[i]? = some v → w.cell? (a.add i) = some (con E v)) (hs : scL h.next cs = true) (h1 : ∀ v ∈ cs, scalar v = true) :
    ∃ E' h' v, HpOK Tryz.prog B w0 E' h' w ∧ Agree h.next E E' ∧ h.Ext h' ∧ con E' v = .slice (some a) len cap ∧ sc h'.next v = true ∧ Rds h' v cs ∧ scalar v = true ∧ WfS v := by
  subst hl
  cases cs with
  | nil =>
    refine ⟨E.ext h.next a.block 0, ⟨h.objs, h.next + 1⟩, .slice (some ⟨h.next, a.off, a.spot⟩) 0 (2 * cap), H.bump a.block, Env.ext_agree _ _ _ _, ⟨Nat.le_succ _, fun j _ => rfl⟩, ?_, by simp [sc], ?_, rfl, ?_⟩
    · obtain ⟨b, o, s⟩ := a
      cases s with
      | none => simp [con, conCap]
      | some q =>
        have hc : cap = 0 := Nat.eq_zero_of_not_pos fun hp => by have := hc0 hp; simp at this
        subst hc
        simp [con, conCap, conOff, conSpot]
    · cases hsp : a.spot with
      | none => exact .inr ⟨h.next, a.off, _, rfl, fun hn => absurd rfl hn⟩
      | some q =>
        have hc : cap = 0 := Nat.eq_zero_of_not_pos fun hp => by have := hc0 hp; rw [hsp] at this; cases this
        subst hc
        exact .inl ⟨⟨_, rfl⟩, rfl⟩
    · cases hsp : a.spot with
      | none => exact .inl ⟨rfl, Nat.zero_le _⟩
      | some q =>
        have hc : cap = 0 := Nat.eq_zero_of_not_pos fun hp => by have := hc0 hp; rw [hsp] at this; cases this
        subst hc
        exact .inr ⟨rfl, rfl⟩
  | cons v r =>
    have h0 := hcell 0 v rfl
    have hsp : a.spot = none := hc0 (by simp at hlc; omega)
    obtain ⟨arr, e, fz, hb, _, ha⟩ := cell_block h0
    rw [add_spot hsp] at ha hb
    have ha0 : a.off + 0 < arr.size := (Array.getElem?_eq_some_iff.1 ha).1
    have hR := H.newRo (m := a.block) (off := a.off) (cs := v :: r) (hB _ (Array.getElem?_eq_some_iff.1 hb).1) hb (by omega) (fun i u hu => by
      have hi := hcell i u hu
      obtain ⟨arr', e', fz', hb', _, ha'⟩ := cell_block hi
      rw [add_spot hsp] at hb' ha'
      rw [hb] at hb'
      cases hb'
      exact ha') hs h1
    refine ⟨_, _, .slice (some ⟨h.next, a.off, none⟩) (r.length + 1) (2 * cap), hR, Env.ext_agree _ _ _ _, Hp.Ext.new _ _, ?_, by simp [sc, Hp.new], .inr ⟨h.next, a.off, _, rfl, fun _ => ⟨Nat.lt_succ_self _, ?_⟩⟩, rfl, .inl ⟨rfl, by simp at hlc; omega⟩⟩
    · obtain ⟨b, o, s⟩ := a
      simp only at hsp
      subst hsp
      simp [con, conCap]
    · unfold loadN
      rw [get_new]
      have hble : Nat.ble a.off a.off = true := Nat.ble_eq_true_of_le (Nat.le_refl _)
      simp only [hble, Nat.sub_self, List.drop_zero]
      exact takeN_all (v :: r)
theorem openInts {E : Env} {h : Hp} (H : HpOK Tryz.prog B w0 E h w) (hB : ∀ k, k < w.heap.size → B.ro k) {fuel : Nat} {c : Value} {x : DataW HH × List MemPlace}
    (ht : DataW.trod enc Tryz.prog w 0 (fun _ => true) true fuel 28 [c] = some x) :
    ∃ (E' : Env) (h' : Hp) (v : Value) (r : List Int), HpOK Tryz.prog B w0 E' h' w ∧ Agree h.next E E' ∧ h.Ext h' ∧ con E' v = c ∧ sc h'.next v = true ∧ Rds h' v (r.map I) ∧ scalar v = true ∧ r.length < 2 ^ 63 ∧ WfS v := by
  rcases open_ints (k := .i64) u28 (by kernel_rfl) (by kernel_rfl) ht with ⟨hc, _⟩ | ⟨a, len, cap, zs, hc, _, hlc, hcm, hzl, _, hcell, hwf⟩
  · simp only [List.cons.injEq, and_true] at hc
    subst hc
    exact ⟨E, h, .slice none 0 0, [], H, Agree.refl _ _, Hp.Ext.refl _, by simp [con], rfl, .inl ⟨⟨none, rfl⟩, rfl⟩, rfl, by decide, ⟨rfl, rfl⟩⟩
  · simp only [List.cons.injEq, and_true] at hc
    subst hc
    simp only [if_true] at hzl
    obtain ⟨E', h', v, k1, k2, k3, k4, k5, k6, k7, k8⟩ := openCells H hB (a := a) (len := len) (cap := cap) ((zs.take len).map I) (by simp; omega) (fun hp => by
        have := hcell 0 (by omega)
        obtain ⟨_, _, _, _, h2, _⟩ := cell_block this
        unfold Addr.add at h2
        simpa using h2) hlc (fun i v hv => by
        have hil : i < len ∧ i < zs.length := by
          have := (List.getElem?_eq_some_iff.1 hv).1
          simp at this
          exact ⟨by omega, by omega⟩
        have := hcell i hil.2
        rw [this]
        rw [List.getElem?_map, List.getElem?_take, if_pos hil.1, List.getElem?_eq_getElem hil.2] at hv
        simp only [Option.map_some, Option.some.injEq] at hv
        subst hv
        rw [List.getD_eq_getElem?_getD, List.getElem?_eq_getElem hil.2]
        simp [con]) (by rw [scL_iff]; intro v hv; obtain ⟨z, _, rfl⟩ := List.mem_map.1 hv; rfl) (fun v hv => by obtain ⟨z, _, rfl⟩ := List.mem_map.1 hv; rfl)
    refine ⟨E', h', v, zs.take len, k1, k2, k3, k4, k5, k6, k7, ?_, k8⟩
    have : maxLen = 2 ^ 63 - 1 := rfl
    rw [List.length_take]
    omega
end
end Go.Proofs.YtkfbfgcflnkllaaGreatDoor
namespace Go.Proofs.YtkfbfgcflnkllaaGreatDoor
open Go Go.Eng Nim
set_option maxRecDepth 100000
set_option maxHeartbeats 8000000
theorem rmarks_of (lf m : Nat) (hlf : 2000 ≤ lf) (n : Nat) (hn : n ≤ 10) (l : List Nat) (hl : l.length ≤ 1024) (hb : ∀ x ∈ l, x < 2 ^ n) (v : Value) (h : Hp) (hv : Rds h v (l.map J)) :
    ∃ v' h', Ev lf (m + 1) 81 [J n, v] h = some (v', h') ∧ ∃ b, v' = .slice (some ⟨b, 0, none⟩) (2 ^ n) (2 * 2 ^ n) ∧ Sto h h' [(b, .cells (cellsF (2 ^ n) fun k => .bool (decide (k ∈ l))) 4 false)] := by
  refine fnS_ok (Q := fun v' h' => ∃ b, v' = .slice (some ⟨b, 0, none⟩) (2 ^ n) (2 * 2 ^ n) ∧ Sto h h' [(b, .cells (cellsF (2 ^ n) fun k => .bool (decide (k ∈ l))) 4 false)]) ?_
  have hsh := one_shl n (by omega)
  have h2n : 2 ^ n ≤ 1024 := Nat.pow_le_pow_right (by decide) hn
  obtain ⟨va, vc, hvs⟩ := hv.shape
  rw [List.length_map] at hvs
  subst hvs
  have W := Sto.start h
  refine ok_go 2 ?_
  refine sy_call 0 (r := makeSliceOp Tryz.prog h 37 (I (IntKind.i64.wrap (1 * 2 ^ min (IntKind.u64.wrap (Int.ofNat n)).toNat IntKind.i64.bits))) (I (IntKind.i64.wrap (1 * 2 ^ min (IntKind.u64.wrap (Int.ofNat n)).toNat IntKind.i64.bits)))) (by kernel_rfl) (by rw [hsh]; exact mkB (2 ^ n) h2n h) ?_
  have W := W.new (.cells (cellsF (2 ^ n) fun _ => .bool false) 4 false)
  generalize h.new (.cells (cellsF (2 ^ n) fun _ => .bool false) 4 false) = h1 at *
  refine ok_go 0 ?_
  refine sy_loop 0 lf h1 (α := Nat) (fun i => [(1, .slice va l.length vc), (5, .slice (some ⟨h.next, 0, none⟩) (2 ^ n) (2 * 2 ^ n)), (6, J i)]) (fun i g => i ≤ l.length ∧ Sto h g [(h.next, .cells (cellsF (2 ^ n) fun k => .bool (decide (k ∈ l.take i))) 4 false)]) (fun i _ => l.length - i) 0 (by kernel_rfl) (by kernel_rfl)
    ⟨by kernel_rfl, by kernel_rfl, by kernel_rfl, trivial⟩ (show l.length - 0 < lf by omega) ⟨Nat.zero_le _, by simpa using W⟩ ?_
  clear W
  rintro m1 i F1 g ⟨hi, W⟩ ih
  have hw : IntKind.wrap .i64 (Int.ofNat (i + 1)) = Int.ofNat (i + 1) := wrap_nat (by omega)
  refine ok_go 2 ?_
  refine sy_test 0 (decide (Int.ofNat i < Int.ofNat l.length)) (by kernel_rfl) ?_ ?_
  · intro hlt
    have hlt : i < l.length := ok_nat hlt
    have hx : l[i]? = some l[i] := List.getElem?_eq_getElem hlt
    have hxb := hb _ (List.mem_of_getElem? hx)
    obtain ⟨p, hp1, hp2⟩ := rdN (hv.ext W.ext) hlt
    generalize hxe : l[i] = x at *
    refine ok_go 0 ?_
    refine sy_load 0 (r := indexAddrOp Tryz.prog 28 (.slice va l.length vc) (J i)) (h' := g) (by kernel_rfl) hp1 ?_
    refine ok_go 0 ?_
    refine sy_load 0 (r := loadT Tryz.prog g 3 p) (h' := g) (by kernel_rfl) hp2 ?_
    refine ok_go 0 ?_
    refine sy_load 0 (r := indexAddrOp Tryz.prog 37 (.slice (some ⟨h.next, 0, none⟩) (2 ^ n) (2 * 2 ^ n)) (J x)) (h' := g) (v := ptr h.next x) (by kernel_rfl) (idxS0 (e := 4) (by kernel_rfl) zB hxb) ?_
    refine ok_go 0 ?_
    refine ow_storeF (P := Tryz.prog) (T := 4) (v := .bool true) 0 0 W rfl hxb zB rfl (by kernel_rfl) fun g2 ng2 W => ?_
    rw [mk97_set] at W
    have W : Sto h g2 [(h.next, .cells (cellsF (2 ^ n) fun k => .bool (decide (k ∈ l.take (i + 1)))) 4 false)] := by
      rw [show (fun k => Value.bool (decide (k ∈ l.take (i + 1)))) = fun k => .bool (if k = x then true else decide (k ∈ l.take i)) from by
        funext k
        rw [List.take_succ_eq_append_getElem hlt, hxe]
        by_cases hk : k = x
        · simp [hk]
        · simp [hk]]
      exact W
    refine ok_go 1 ?_
    exact sy_next 0 _ g2 (by kernel_rfl) (by kernel_rfl) (ih (i + 1) _ g2 ⟨hlt, W⟩ (show l.length - (i + 1) < l.length - i by omega) ⟨by kernel_rfl, by kernel_rfl, (by kernel_rfl : _ = Value.int .i64 (IntKind.wrap .i64 (Int.ofNat (i + 1)))).trans (by rw [hw]), trivial⟩)
  · intro hlt
    have hlt : i = l.length := Nat.le_antisymm hi (no_nat hlt)
    subst hlt
    rw [List.take_length] at W
    refine ok_go 0 ?_
    exact sy_done 0 (v := .slice (some ⟨h.next, 0, none⟩) (2 ^ n) (2 * 2 ^ n)) (h := g) (by kernel_rfl) ⟨h.next, rfl, W⟩
end Go.Proofs.YtkfbfgcflnkllaaGreatDoor
namespace Go.Proofs.YtkfbfgcflnkllaaGreatDoor
open Go Go.Eng Nim
set_option maxRecDepth 100000
set_option maxHeartbeats 8000000
end Go.Proofs.YtkfbfgcflnkllaaGreatDoor
namespace Go.Proofs.YtkfbfgcflnkllaaGreatDoor
open Go Go.Eng Nim
set_option maxRecDepth 100000
set_option maxHeartbeats 8000000
/-! Plain. -/
end Go.Proofs.YtkfbfgcflnkllaaGreatDoor
namespace Go.Proofs.YtkfbfgcflnkllaaGreatDoor
open Go Go.Eng Nim
set_option maxRecDepth 100000
end Go.Proofs.YtkfbfgcflnkllaaGreatDoor
namespace Go.Proofs.YtkfbfgcflnkllaaGreatDoor
open Go Go.Eng Nim
set_option maxRecDepth 100000
set_option maxHeartbeats 8000000
end Go.Proofs.YtkfbfgcflnkllaaGreatDoor
namespace Go.Proofs.YtkfbfgcflnkllaaGreatDoor
open Go Go.Eng Nim
set_option maxRecDepth 100000
set_option maxHeartbeats 8000000
end Go.Proofs.YtkfbfgcflnkllaaGreatDoor
namespace Go.Proofs.YtkfbfgcflnkllaaGreatDoor
open Go Go.Eng Nim
set_option maxRecDepth 100000
set_option maxHeartbeats 8000000
end Go.Proofs.YtkfbfgcflnkllaaGreatDoor
namespace Go.Proofs.YtkfbfgcflnkllaaGreatDoor
open Go Go.Eng Nim
set_option maxRecDepth 100000
set_option maxHeartbeats 8000000
end Go.Proofs.YtkfbfgcflnkllaaGreatDoor
namespace Go.Proofs.YtkfbfgcflnkllaaGreatDoor
open Go Go.Eng Nim Oct
end Go.Proofs.YtkfbfgcflnkllaaGreatDoor
namespace Go.Proofs.YtkfbfgcflnkllaaGreatDoor
open Go Go.Eng Nim
set_option maxRecDepth 100000
set_option maxHeartbeats 8000000
end Go.Proofs.YtkfbfgcflnkllaaGreatDoor
namespace Go.Proofs.YtkfbfgcflnkllaaGreatDoor
open Go Go.Eng Nim
set_option maxRecDepth 100000
set_option maxHeartbeats 8000000
end Go.Proofs.YtkfbfgcflnkllaaGreatDoor
namespace Go.Proofs.YtkfbfgcflnkllaaGreatDoor
open Go Go.Eng Nim
set_option maxRecDepth 100000
set_option maxHeartbeats 8000000
end Go.Proofs.YtkfbfgcflnkllaaGreatDoor
namespace Go.Proofs.YtkfbfgcflnkllaaGreatDoor
open Go Go.Eng Nim
set_option maxRecDepth 100000
set_option maxHeartbeats 8000000
end Go.Proofs.YtkfbfgcflnkllaaGreatDoor
namespace Go.Proofs.YtkfbfgcflnkllaaGreatDoor
open Go Go.Eng Nim
set_option maxRecDepth 100000
set_option maxHeartbeats 8000000
end Go.Proofs.YtkfbfgcflnkllaaGreatDoor
namespace Go.Proofs.YtkfbfgcflnkllaaGreatDoor
open Go Go.Eng Nim
set_option maxRecDepth 100000
set_option maxHeartbeats 8000000
end Go.Proofs.YtkfbfgcflnkllaaGreatDoor
namespace Go.Proofs.YtkfbfgcflnkllaaGreatDoor
open Go Go.Eng Nim
set_option maxRecDepth 100000
set_option maxHeartbeats 8000000
end Go.Proofs.YtkfbfgcflnkllaaGreatDoor
namespace Go.Proofs.YtkfbfgcflnkllaaGreatDoor
open Go Go.Eng Nim
set_option maxRecDepth 100000
set_option maxHeartbeats 8000000
end Go.Proofs.YtkfbfgcflnkllaaGreatDoor
namespace Go.Proofs.YtkfbfgcflnkllaaGreatDoor
open Go Go.Eng Nim
set_option maxRecDepth 100000
set_option maxHeartbeats 8000000
end Go.Proofs.YtkfbfgcflnkllaaGreatDoor
namespace Go.Proofs.YtkfbfgcflnkllaaGreatDoor
open Go Go.Eng Nim
set_option maxRecDepth 100000
set_option maxHeartbeats 8000000
end Go.Proofs.YtkfbfgcflnkllaaGreatDoor
namespace Go.Proofs.YtkfbfgcflnkllaaGreatDoor
open Go Go.Eng Nim
set_option maxRecDepth 100000
set_option maxHeartbeats 8000000
end Go.Proofs.YtkfbfgcflnkllaaGreatDoor
namespace Go.Proofs.YtkfbfgcflnkllaaGreatDoor
open Go Go.Eng Nim
set_option maxRecDepth 100000
set_option maxHeartbeats 8000000
end Go.Proofs.YtkfbfgcflnkllaaGreatDoor
namespace Go.Proofs.YtkfbfgcflnkllaaGreatDoor
open Go Go.Eng Nim
set_option maxRecDepth 100000
set_option maxHeartbeats 8000000
theorem yesT {lf n f : Nat} {args : List Value} {h : Hp} (hk : Ok (fun v _ => v = .bool true) (fnS Tryz.prog orc lf n f args h)) : ∃ H, Ev lf (n + 1) f args h = some (.bool true, H) := by
  obtain ⟨v, h', h1, rfl⟩ := fnS_ok hk
  exact ⟨h', h1⟩
theorem sameT (m : Nat) (l : List Nat) (hl : l.length ≤ 1024) (x y : Value) (g : Hp) (hx : Rds g x (l.map J)) (hy : Rds g y (l.map J)) : Ev 100000 (m + 1) 16 [x, y] g = some (.bool true, g) := by
  have e := same_of 100000 m (l.map Int.ofNat) (l.map Int.ofNat) (by rw [List.length_map]; omega) (by rw [List.length_map]; omega) x y g (by rw [List.map_map]; exact hx) (by rw [List.map_map]; exact hy)
  rw [decide_eq_true rfl] at e
  exact e
end Go.Proofs.YtkfbfgcflnkllaaGreatDoor
namespace Go.Proofs.YtkfbfgcflnkllaaGreatDoor
open Go Go.Eng Nim
set_option maxRecDepth 100000
set_option maxHeartbeats 8000000
end Go.Proofs.YtkfbfgcflnkllaaGreatDoor
namespace Go.Proofs.YtkfbfgcflnkllaaGreatDoor
open Go Go.Eng Nim
set_option maxRecDepth 100000
set_option maxHeartbeats 8000000
def Core (S : List Nat) (c : Nat) : Prop := ∀ s ∈ S, ∀ t ∈ S, s ≠ t → s &&& t = c
end Go.Proofs.YtkfbfgcflnkllaaGreatDoor
namespace Go.Proofs.YtkfbfgcflnkllaaGreatDoor
open Go Go.Eng Nim
set_option maxRecDepth 100000
set_option maxHeartbeats 8000000
theorem lst_ins1 (f : Nat → Bool) (k : Nat) : ∀ N, (lst (fun j => if j = k then true else f j) N).length ≤ (lst f N).length + if k < N then 1 else 0
  | 0 => Nat.zero_le _
  | N + 1 => by
    have ih := lst_ins1 f k N
    rw [lst_succ, lst_succ]
    by_cases hN : N = k
    · subst hN
      rw [if_neg (Nat.lt_irrefl _)] at ih
      rw [if_pos (if_pos rfl), if_pos (Nat.lt_succ_self _), List.length_append, List.length_singleton]
      cases f N with
      | true => rw [if_pos rfl, List.length_append, List.length_singleton]; omega
      | false => rw [if_neg (by decide)]; omega
    · have e : (if N = k then true else f N) = f N := if_neg hN
      have e2 : (if k < N + 1 then 1 else 0) = if k < N then 1 else 0 := by
        by_cases h : k < N
        · rw [if_pos h, if_pos (by omega)]
        · rw [if_neg h, if_neg (by omega)]
      rw [e, e2]
      cases f N with
      | true => rw [if_pos rfl, if_pos rfl, List.length_append, List.length_append, List.length_singleton]; omega
      | false => rw [if_neg (by decide), if_neg (by decide)]; exact ih
theorem lst_ins {f : Nat → Bool} {k N i : Nat} (h : (lst f N).length ≤ i) : (lst (fun j => if j = k then true else f j) N).length ≤ i + 1 := by
  have := lst_ins1 f k N
  split at this <;> omega
theorem tame2_of (lf m : Nat) (hlf : 2000 ≤ lf) (n most : Nat) (hn : n ≤ 10) (hm : most ≤ 1000) (zs : List Int) (hzs : zs.length < 2 ^ 63) (v : Value) (h : Hp) (hv : Rds h v (zs.map I)) :
    ∃ v' h', Ev lf (m + 1) 20 [J n, v, J most] h = some (v', h') ∧ ∃ f q, (lst f (2 ^ n)).length ≤ most ∧ v' = oslV q (lst f (2 ^ n)).length ∧ Sto h h' (oent q 3 ((lst f (2 ^ n)).map J)) := by
  refine fnS_ok (Q := fun v' h' => ∃ f q, (lst f (2 ^ n)).length ≤ most ∧ v' = oslV q (lst f (2 ^ n)).length ∧ Sto h h' (oent q 3 ((lst f (2 ^ n)).map J))) ?_
  have hsh := one_shl n (by omega)
  have h2n : 2 ^ n ≤ 1024 := Nat.pow_le_pow_right (by decide) hn
  have hpos := Nat.two_pow_pos n
  obtain ⟨va, vc, hvs⟩ := hv.shape
  rw [List.length_map] at hvs
  subst hvs
  have W := Sto.start h
  refine ok_go 2 ?_
  refine sy_call 0 (r := makeSliceOp Tryz.prog h 37 (I (IntKind.i64.wrap (1 * 2 ^ min (IntKind.u64.wrap (Int.ofNat n)).toNat IntKind.i64.bits))) (I (IntKind.i64.wrap (1 * 2 ^ min (IntKind.u64.wrap (Int.ofNat n)).toNat IntKind.i64.bits)))) (by kernel_rfl) (by rw [hsh]; exact mkB (2 ^ n) h2n h) ?_
  have W := W.new (.cells (cellsF (2 ^ n) fun _ => .bool false) 4 false)
  generalize h.new (.cells (cellsF (2 ^ n) fun _ => .bool false) 4 false) = h1 at *
  refine ok_go 0 ?_
  refine sy_loop 0 lf h1 (α := Nat × (Nat → Bool)) (fun x => [(1, .slice va zs.length vc), (2, J most), (7, .slice (some ⟨h.next, 0, none⟩) (2 ^ n) (2 * 2 ^ n)), (8, J x.1)]) (fun x g => (x.1 ≤ most ∧ (lst x.2 (2 ^ n)).length ≤ x.1) ∧ Sto h g [(h.next, .cells (cellsF (2 ^ n) fun k => .bool (x.2 k)) 4 false)]) (fun x _ => most - x.1) (0, fun _ => false) (by kernel_rfl) (by kernel_rfl)
    ⟨by kernel_rfl, by kernel_rfl, by kernel_rfl, by kernel_rfl, trivial⟩ (show most - 0 < lf by omega) ⟨⟨Nat.zero_le _, by unfold lst; simp⟩, W⟩ ?_
  clear W
  rintro m1 ⟨i, f⟩ F1 g ⟨⟨hi, hcn⟩, W⟩ ih
  dsimp only at hi hcn W
  have hw : IntKind.wrap .i64 (Int.ofNat (i + 1)) = Int.ofNat (i + 1) := wrap_nat (by omega)
  refine ok_go 2 ?_
  by_cases h1 : i < zs.length
  · refine sy_yes 0 (b := decide (Int.ofNat i < Int.ofNat zs.length)) (by kernel_rfl) (decide_eq_true (by show (i : Int) < (zs.length : Int); omega)) ?_
    refine ok_go 4 ?_
    by_cases h2 : i < most
    · refine sy_yes 0 (b := decide (Int.ofNat i < Int.ofNat most)) (by kernel_rfl) (decide_eq_true (by show (i : Int) < (most : Int); omega)) ?_
      obtain ⟨p, hp1, hp2⟩ := rdI (hv.ext W.ext) h1
      generalize zs[i] = x at *
      obtain ⟨k, hk, hrem⟩ := rem_u x (2 ^ n) hpos (by omega)
      refine ok_go 0 ?_
      refine sy_load 0 (r := indexAddrOp Tryz.prog 28 (.slice va zs.length vc) (J i)) (h' := g) (by kernel_rfl) hp1 ?_
      refine ok_go 0 ?_
      refine sy_load 0 (r := loadT Tryz.prog g 3 p) (h' := g) (by kernel_rfl) hp2 ?_
      refine ok_go 3 ?_
      refine sy_load 0 (r := pureX (binOp .rem 36 (.int .u64 (IntKind.wrap .u64 x)) (.int .u64 (IntKind.wrap .u64 (Int.ofNat (2 ^ n)))))) (h' := g) (by kernel_rfl) (x_rem (wrap_ne (2 ^ n) hpos (by omega))) ?_
      refine ok_go 0 ?_
      refine sy_load 0 (r := indexAddrOp Tryz.prog 37 (.slice (some ⟨h.next, 0, none⟩) (2 ^ n) (2 * 2 ^ n)) (.int .u64 ((IntKind.wrap .u64 x).tmod (IntKind.wrap .u64 (Int.ofNat (2 ^ n)))))) (h' := g) (v := ptr h.next k) (by kernel_rfl) (by rw [hrem]; exact idxS0 (e := 4) (by kernel_rfl) zB hk) ?_
      refine ok_go 0 ?_
      refine ow_storeF (P := Tryz.prog) (T := 4) (v := .bool true) 0 0 W rfl hk zB rfl (by kernel_rfl) fun g2 ng2 W => ?_
      rw [mk97_set] at W
      refine ok_go 1 ?_
      exact sy_next 0 _ g2 (by kernel_rfl) (by kernel_rfl) (ih (i + 1, fun j => if j = k then true else f j) _ g2 ⟨⟨h2, lst_ins hcn⟩, W⟩ (show most - (i + 1) < most - i by omega) ⟨by kernel_rfl, by kernel_rfl, by kernel_rfl, (by kernel_rfl : _ = Value.int .i64 (IntKind.wrap .i64 (Int.ofNat (i + 1)))).trans (by rw [hw]), trivial⟩)
    · refine sy_no 0 (b := decide (Int.ofNat i < Int.ofNat most)) (by kernel_rfl) (decide_eq_false (by show ¬ (i : Int) < (most : Int); omega)) ?_
      refine ok_go 0 ?_
      refine sy_loop 0 lf g (α := Nat × Nat × Option Addr × Nat) (fun x => [(7, .slice (some ⟨h.next, 0, none⟩) (2 ^ n) (2 * 2 ^ n)), (9, .slice x.2.2.1 (lst f x.1).length x.2.2.2), (10, J x.1)]) (fun x g => x.1 ≤ 2 ^ n ∧ .slice x.2.2.1 (lst f x.1).length x.2.2.2 = oslV x.2.1 (lst f x.1).length ∧ Sto h g ((h.next, .cells (cellsF (2 ^ n) fun k => .bool (f k)) 4 false) :: oent x.2.1 3 ((lst f x.1).map J))) (fun x _ => 2 ^ n - x.1) (0, 0, none, 0) (by kernel_rfl) (by kernel_rfl)
        ⟨by kernel_rfl, by kernel_rfl, by kernel_rfl, trivial⟩ (show 2 ^ n - 0 < lf by omega) ⟨Nat.zero_le _, rfl, W⟩ ?_
      clear W
      rintro m2 ⟨k, q, oa, oc⟩ F2 g2 ⟨hk, hos, W⟩ ih2
      dsimp only at hk hos W
      have hw2 : IntKind.wrap .i64 (Int.ofNat (k + 1)) = Int.ofNat (k + 1) := wrap_nat (by omega)
      have hll := lst_len f k
      have hls := lst_succ f k
      refine ok_go 2 ?_
      refine sy_test 0 (decide (Int.ofNat k < Int.ofNat (2 ^ n))) (by kernel_rfl) ?_ ?_
      · intro hlt
        have hlt : k < 2 ^ n := ok_nat hlt
        refine ok_go 0 ?_
        refine sy_load 0 (r := indexAddrOp Tryz.prog 37 (.slice (some ⟨h.next, 0, none⟩) (2 ^ n) (2 * 2 ^ n)) (J k)) (h' := g2) (v := ptr h.next k) (by kernel_rfl) (idxS0 (e := 4) (by kernel_rfl) zB hlt) ?_
        refine ok_go 0 ?_
        refine ow_loadF (P := Tryz.prog) (T := 4) 0 0 W rfl hlt agB (by kernel_rfl) ?_
        refine ok_go 0 ?_
        cases hf : f k with
        | true =>
          rw [hf, if_pos rfl] at hls
          generalize lst f k = L at *
          refine ow_new 1 W (AObj.cells [Value.int IntKind.i64 (Int.ofNat (Prod.fst (k, q, oa, oc)))] 3 false) (fun q => Value.slice (some { block := q, off := 0 }) 1 2) (by kernel_rfl) fun k1 nk1 Wk1 => ?_
          have W := Wk1
          have W : Sto h k1 ((g2.next, .cells [J k] 3 false) :: ([(h.next, .cells (cellsF (2 ^ n) fun k => .bool (f k)) 4 false)] ++ oent q 3 (L.map J))) := W
          refine ow_app (P := Tryz.prog) (t := 28) (e := 3) (z := 1) (c := L.length) (i := q) 0 W slz28 (by rw [List.length_map, Nat.mul_one]) rfl rfl (by omega) (by rw [← hos]; kernel_rfl) fun k2 sl nk2 hsl hsc W => ?_
          obtain ⟨oa2, oc2, ho2⟩ := osl_shape k1.next (L.length + 1)
          rw [ho2] at hsl
          subst hsl
          have W : Sto h k2 ((h.next, .cells (cellsF (2 ^ n) fun k => .bool (f k)) 4 false) :: oent k1.next 3 ((L ++ [k]).map J)) := by rw [List.map_append]; exact W
          refine ok_go 1 ?_
          exact sy_next 0 _ k2 (by kernel_rfl) (by kernel_rfl) (ih2 (k + 1, k1.next, oa2, oc2) _ k2 ⟨hlt, by dsimp only; rw [hls, List.length_append]; exact ho2.symm, by dsimp only; rw [hls]; exact W⟩ (show 2 ^ n - (k + 1) < 2 ^ n - k by omega) ⟨by kernel_rfl, (by kernel_rfl : _ = Value.slice oa2 (L.length + 1) oc2).trans (by dsimp only; rw [hls, List.length_append]; rfl), (by kernel_rfl : _ = Value.int .i64 (IntKind.wrap .i64 (Int.ofNat (k + 1)))).trans (by rw [hw2]), trivial⟩)
        | false =>
          rw [hf, if_neg Bool.false_ne_true] at hls
          generalize lst f k = L at *
          refine ok_go 2 ?_
          exact sy_next 0 _ g2 (by kernel_rfl) (by kernel_rfl) (ih2 (k + 1, q, oa, oc) _ g2 ⟨hlt, by dsimp only; rw [hls]; exact hos, by dsimp only; rw [hls]; exact W⟩ (show 2 ^ n - (k + 1) < 2 ^ n - k by omega) ⟨by kernel_rfl, (by kernel_rfl : _ = Value.slice oa L.length oc).trans (by dsimp only; rw [hls]), (by kernel_rfl : _ = Value.int .i64 (IntKind.wrap .i64 (Int.ofNat (k + 1)))).trans (by rw [hw2]), trivial⟩)
      · intro hlt
        have hlt : k = 2 ^ n := Nat.le_antisymm hk (no_nat hlt)
        subst hlt
        refine ok_go 0 ?_
        exact sy_done 0 (v := .slice oa (lst f (2 ^ n)).length oc) (h := g2) (by kernel_rfl) ⟨f, q, by omega, hos, W.drop 1⟩
  · refine sy_no 0 (b := decide (Int.ofNat i < Int.ofNat zs.length)) (by kernel_rfl) (decide_eq_false (by show ¬ (i : Int) < (zs.length : Int); omega)) ?_
    refine ok_go 4 ?_
    refine sy_loop 0 lf g (α := Nat × Nat × Option Addr × Nat) (fun x => [(7, .slice (some ⟨h.next, 0, none⟩) (2 ^ n) (2 * 2 ^ n)), (9, .slice x.2.2.1 (lst f x.1).length x.2.2.2), (10, J x.1)]) (fun x g => x.1 ≤ 2 ^ n ∧ .slice x.2.2.1 (lst f x.1).length x.2.2.2 = oslV x.2.1 (lst f x.1).length ∧ Sto h g ((h.next, .cells (cellsF (2 ^ n) fun k => .bool (f k)) 4 false) :: oent x.2.1 3 ((lst f x.1).map J))) (fun x _ => 2 ^ n - x.1) (0, 0, none, 0) (by kernel_rfl) (by kernel_rfl)
      ⟨by kernel_rfl, by kernel_rfl, by kernel_rfl, trivial⟩ (show 2 ^ n - 0 < lf by omega) ⟨Nat.zero_le _, rfl, W⟩ ?_
    clear W
    rintro m2 ⟨k, q, oa, oc⟩ F2 g2 ⟨hk, hos, W⟩ ih2
    dsimp only at hk hos W
    have hw2 : IntKind.wrap .i64 (Int.ofNat (k + 1)) = Int.ofNat (k + 1) := wrap_nat (by omega)
    have hll := lst_len f k
    have hls := lst_succ f k
    refine ok_go 2 ?_
    refine sy_test 0 (decide (Int.ofNat k < Int.ofNat (2 ^ n))) (by kernel_rfl) ?_ ?_
    · intro hlt
      have hlt : k < 2 ^ n := ok_nat hlt
      refine ok_go 0 ?_
      refine sy_load 0 (r := indexAddrOp Tryz.prog 37 (.slice (some ⟨h.next, 0, none⟩) (2 ^ n) (2 * 2 ^ n)) (J k)) (h' := g2) (v := ptr h.next k) (by kernel_rfl) (idxS0 (e := 4) (by kernel_rfl) zB hlt) ?_
      refine ok_go 0 ?_
      refine ow_loadF (P := Tryz.prog) (T := 4) 0 0 W rfl hlt agB (by kernel_rfl) ?_
      refine ok_go 0 ?_
      cases hf : f k with
      | true =>
        rw [hf, if_pos rfl] at hls
        generalize lst f k = L at *
        refine ow_new 1 W (AObj.cells [Value.int IntKind.i64 (Int.ofNat (Prod.fst (k, q, oa, oc)))] 3 false) (fun q => Value.slice (some { block := q, off := 0 }) 1 2) (by kernel_rfl) fun k1 nk1 Wk1 => ?_
        have W := Wk1
        have W : Sto h k1 ((g2.next, .cells [J k] 3 false) :: ([(h.next, .cells (cellsF (2 ^ n) fun k => .bool (f k)) 4 false)] ++ oent q 3 (L.map J))) := W
        refine ow_app (P := Tryz.prog) (t := 28) (e := 3) (z := 1) (c := L.length) (i := q) 0 W slz28 (by rw [List.length_map, Nat.mul_one]) rfl rfl (by omega) (by rw [← hos]; kernel_rfl) fun k2 sl nk2 hsl hsc W => ?_
        obtain ⟨oa2, oc2, ho2⟩ := osl_shape k1.next (L.length + 1)
        rw [ho2] at hsl
        subst hsl
        have W : Sto h k2 ((h.next, .cells (cellsF (2 ^ n) fun k => .bool (f k)) 4 false) :: oent k1.next 3 ((L ++ [k]).map J)) := by rw [List.map_append]; exact W
        refine ok_go 1 ?_
        exact sy_next 0 _ k2 (by kernel_rfl) (by kernel_rfl) (ih2 (k + 1, k1.next, oa2, oc2) _ k2 ⟨hlt, by dsimp only; rw [hls, List.length_append]; exact ho2.symm, by dsimp only; rw [hls]; exact W⟩ (show 2 ^ n - (k + 1) < 2 ^ n - k by omega) ⟨by kernel_rfl, (by kernel_rfl : _ = Value.slice oa2 (L.length + 1) oc2).trans (by dsimp only; rw [hls, List.length_append]; rfl), (by kernel_rfl : _ = Value.int .i64 (IntKind.wrap .i64 (Int.ofNat (k + 1)))).trans (by rw [hw2]), trivial⟩)
      | false =>
        rw [hf, if_neg Bool.false_ne_true] at hls
        generalize lst f k = L at *
        refine ok_go 2 ?_
        exact sy_next 0 _ g2 (by kernel_rfl) (by kernel_rfl) (ih2 (k + 1, q, oa, oc) _ g2 ⟨hlt, by dsimp only; rw [hls]; exact hos, by dsimp only; rw [hls]; exact W⟩ (show 2 ^ n - (k + 1) < 2 ^ n - k by omega) ⟨by kernel_rfl, (by kernel_rfl : _ = Value.slice oa L.length oc).trans (by dsimp only; rw [hls]), (by kernel_rfl : _ = Value.int .i64 (IntKind.wrap .i64 (Int.ofNat (k + 1)))).trans (by rw [hw2]), trivial⟩)
    · intro hlt
      have hlt : k = 2 ^ n := Nat.le_antisymm hk (no_nat hlt)
      subst hlt
      refine ok_go 0 ?_
      exact sy_done 0 (v := .slice oa (lst f (2 ^ n)).length oc) (h := g2) (by kernel_rfl) ⟨f, q, by omega, hos, W.drop 1⟩
end Go.Proofs.YtkfbfgcflnkllaaGreatDoor
namespace Go.Proofs.YtkfbfgcflnkllaaGreatDoor
open Go Go.Eng Nim
set_option maxRecDepth 100000
set_option maxHeartbeats 8000000
/-- The pairs of the set in place i with those in the first j places. -/
def flP (s : List Nat) (i j : Nat) : Bool := (List.range j).all fun k => Nat.beq (s.getD i 0 &&& s.getD k 0) (s.getD 0 0 &&& s.getD 1 0)
def flR (s : List Nat) (i : Nat) : Bool := (List.range i).all fun k => flP s k k
def isF (s : List Nat) : Bool := flR s s.length
theorem flP_succ (s : List Nat) (i j : Nat) : flP s i (j + 1) = (flP s i j && Nat.beq (s.getD i 0 &&& s.getD j 0) (s.getD 0 0 &&& s.getD 1 0)) := by
  unfold flP; rw [List.range_succ, List.all_append]; simp
theorem flR_succ (s : List Nat) (i : Nat) : flR s (i + 1) = (flR s i && flP s i i) := by
  unfold flR; rw [List.range_succ, List.all_append]; simp
theorem flP_false {s : List Nat} {i j k : Nat} (h : flP s i j = false) (hj : j ≤ k) : flP s i k = false := by
  obtain ⟨x, hx, h1⟩ := List.all_eq_false.1 h
  exact List.all_eq_false.2 ⟨x, List.mem_range.2 (by have := List.mem_range.1 hx; omega), h1⟩
theorem flR_false {s : List Nat} {i k : Nat} (h : flR s i = false) (hj : i ≤ k) : flR s k = false := by
  obtain ⟨x, hx, h1⟩ := List.all_eq_false.1 h
  exact List.all_eq_false.2 ⟨x, List.mem_range.2 (by have := List.mem_range.1 hx; omega), h1⟩
theorem isflower_of (lf m : Nat) (hlf : 2000 ≤ lf) (s : List Nat) (hl : s.length ≤ 1024) (hb : ∀ x ∈ s, x < 2 ^ 62) (v : Value) (h : Hp) (hwf : WfS v) (hv : Rds h v (s.map J)) : Ev lf (m + 1) 83 [v] h = some (.bool (isF s), h) := by
  refine fn_eq ?_
  obtain ⟨va, vc, hvs⟩ := hv.shape
  rw [List.length_map] at hvs
  subst hvs
  have hgd : ∀ {k : Nat} (hk : k < s.length), s.getD k 0 = s[k] := fun hk => by
    rw [List.getD_eq_getElem?_getD, List.getElem?_eq_getElem hk]; rfl
  have hbd : ∀ k, s.getD k 0 < 2 ^ 62 := fun k => by
    rcases Nat.lt_or_ge k s.length with hk | hk
    · rw [hgd hk]; exact hb _ (List.getElem_mem hk)
    · rw [List.getD_eq_getElem?_getD, List.getElem?_eq_none hk]; decide
  refine ok_go 1 ?_
  refine sy_loop 0 lf h (α := Nat) (fun i => [(0, .slice va s.length vc), (7, .slice va s.length vc), (8, J s.length), (9, J i)]) (fun i g => (i ≤ s.length ∧ flR s i = true) ∧ g = h) (fun i _ => s.length - i) 0 (by kernel_rfl) (by kernel_rfl)
    ⟨by kernel_rfl, by kernel_rfl, by kernel_rfl, by kernel_rfl, trivial⟩ (show s.length - 0 < lf by omega) ⟨⟨Nat.zero_le _, rfl⟩, rfl⟩ ?_
  rintro m1 i F1 g ⟨⟨hi, hR⟩, rfl⟩ ih
  have hw : IntKind.wrap .i64 (Int.ofNat (i + 1)) = Int.ofNat (i + 1) := wrap_nat (by omega)
  refine ok_go 1 ?_
  refine sy_test 0 (decide (Int.ofNat i < Int.ofNat s.length)) (by kernel_rfl) ?_ ?_
  · intro hlt
    have hlt : i < s.length := ok_nat hlt
    obtain ⟨p, hp1, hp2⟩ := rdN hv hlt
    rw [← hgd hlt] at hp2
    have hRs := flR_succ s i
    rw [hR, Bool.true_and] at hRs
    refine ok_go 0 ?_
    refine sy_load 0 (r := indexAddrOp Tryz.prog 28 (.slice va s.length vc) (J i)) (h' := g) (by kernel_rfl) hp1 ?_
    refine ok_go 0 ?_
    refine sy_load 0 (r := loadT Tryz.prog g 3 p) (h' := g) (by kernel_rfl) hp2 ?_
    obtain ⟨ra, rfl⟩ : ∃ ra, va = some ra := by
      rcases hv with ⟨⟨a, _⟩, h2⟩ | ⟨q, off, c, h2, _⟩
      · rw [List.map_eq_nil_iff] at h2
        subst h2
        exact absurd hlt (Nat.not_lt_zero _)
      · injection h2 with h3
        exact ⟨_, h3⟩
    refine ok_go 0 ?_
    obtain ⟨y, hy1, hy2⟩ := cut_row hwf hv (K := i) (by rw [List.length_map]; omega)
    rw [← List.map_take] at hy2
    obtain ⟨ya, yc, hys⟩ := hy2.shape
    rw [List.length_map, List.length_take, Nat.min_eq_left (by omega)] at hys
    subst hys
    refine sy_load 0 (r := sliceOp Tryz.prog 28 (.slice (some ra) s.length vc) none (some (J i)) none) (h' := g) (by kernel_rfl) hy1 ?_
    refine ok_go 1 ?_
    refine sy_loop 0 lf g (α := Nat) (fun j => [(0, .slice (some ra) s.length vc), (4, J (s.getD i 0)), (7, .slice (some ra) s.length vc), (8, J s.length), (9, J i), (16, .slice ya i yc), (17, J i), (18, J j)]) (fun j g' => (j ≤ i ∧ flP s i j = true) ∧ g' = g) (fun j _ => i - j) 0 (by kernel_rfl) (by kernel_rfl)
      ⟨by kernel_rfl, by kernel_rfl, by kernel_rfl, by kernel_rfl, by kernel_rfl, by kernel_rfl, by kernel_rfl, by kernel_rfl, trivial⟩ (show i - 0 < lf by omega) ⟨⟨Nat.zero_le _, rfl⟩, rfl⟩ ?_
    rintro m2 j F2 g ⟨⟨hj, hP⟩, rfl⟩ ih2
    have hwj : IntKind.wrap .i64 (Int.ofNat (j + 1)) = Int.ofNat (j + 1) := wrap_nat (by omega)
    refine ok_go 1 ?_
    refine sy_test 0 (decide (Int.ofNat j < Int.ofNat i)) (by kernel_rfl) ?_ ?_
    · intro hlj
      have hlj : j < i := ok_nat hlj
      obtain ⟨p2, h21, h22⟩ := rdN (r := s.take i) hy2 (k := j) (by rw [List.length_take]; omega)
      rw [List.getElem_take, ← hgd (show j < s.length by omega)] at h22
      obtain ⟨p3, h31, h32⟩ := rdN hv (k := 0) (by omega)
      rw [← hgd (show 0 < s.length by omega)] at h32
      obtain ⟨p4, h41, h42⟩ := rdN hv (k := 1) (by omega)
      rw [← hgd (show 1 < s.length by omega)] at h42
      have hPs := flP_succ s i j
      rw [hP, Bool.true_and] at hPs
      have b0 := hbd i
      have b1 := hbd j
      have b2 := hbd 0
      have b3 := hbd 1
      generalize hsi : s.getD i 0 = si at *
      generalize s.getD j 0 = sj at *
      generalize s.getD 0 0 = s0 at *
      generalize s.getD 1 0 = s1 at *
      refine ok_go 0 ?_
      refine sy_load 0 (r := indexAddrOp Tryz.prog 28 (.slice ya i yc) (J j)) (h' := g) (by kernel_rfl) h21 ?_
      refine ok_go 0 ?_
      refine sy_load 0 (r := loadT Tryz.prog g 3 p2) (h' := g) (by kernel_rfl) h22 ?_
      refine ok_go 1 ?_
      refine sy_load 0 (r := indexAddrOp Tryz.prog 28 (.slice (some ra) s.length vc) (J 0)) (h' := g) (by kernel_rfl) h31 ?_
      refine ok_go 0 ?_
      refine sy_load 0 (r := loadT Tryz.prog g 3 p3) (h' := g) (by kernel_rfl) h32 ?_
      refine ok_go 0 ?_
      refine sy_load 0 (r := indexAddrOp Tryz.prog 28 (.slice (some ra) s.length vc) (J 1)) (h' := g) (by kernel_rfl) h41 ?_
      refine ok_go 0 ?_
      refine sy_load 0 (r := loadT Tryz.prog g 3 p4) (h' := g) (by kernel_rfl) h42 ?_
      refine ok_go 2 ?_
      have hb2 : (andI (Int.ofNat si) (Int.ofNat sj) != andI (Int.ofNat s0) (Int.ofNat s1)) = !Nat.beq (si &&& sj) (s0 &&& s1) := by
        rw [and_nat (by omega), and_nat (by omega)]
        cases hc : Nat.beq (si &&& sj) (s0 &&& s1) with
        | true => rw [Nat.eq_of_beq_eq_true hc]; simp
        | false =>
          have : si &&& sj ≠ s0 &&& s1 := fun e => by rw [e, Nat.beq_refl] at hc; cases hc
          exact bne_iff_ne.2 fun e => this (Int.ofNat.inj e)
      cases hc : Nat.beq (si &&& sj) (s0 &&& s1) with
      | true =>
        rw [hc] at hb2 hPs
        refine sy_no 0 (b := andI (Int.ofNat si) (Int.ofNat sj) != andI (Int.ofNat s0) (Int.ofNat s1)) (by kernel_rfl) hb2 ?_
        refine ok_go 1 ?_
        exact sy_next 0 _ g (by kernel_rfl) (by kernel_rfl) (ih2 (j + 1) _ g ⟨⟨hlj, hPs⟩, rfl⟩ (show i - (j + 1) < i - j by omega) ⟨by kernel_rfl, by kernel_rfl, by kernel_rfl, by kernel_rfl, by kernel_rfl, by kernel_rfl, by kernel_rfl, (by kernel_rfl : _ = I (IntKind.wrap .i64 (Int.ofNat (j + 1)))).trans (by rw [hwj]), trivial⟩)
      | false =>
        rw [hc] at hb2 hPs
        have hF : isF s = false := flR_false (i := i + 1) (by rw [hRs]; exact flP_false hPs hlj) hlt
        refine sy_yes 0 (b := andI (Int.ofNat si) (Int.ofNat sj) != andI (Int.ofNat s0) (Int.ofNat s1)) (by kernel_rfl) hb2 ?_
        refine ok_go 0 ?_
        exact sy_done 0 (v := .bool false) (h := g) (by kernel_rfl) ⟨by rw [hF], rfl⟩
    · intro hlj
      have hlj : j = i := Nat.le_antisymm hj (no_nat hlj)
      subst hlj
      refine ok_go 1 ?_
      exact sy_next 0 _ g (by kernel_rfl) (by kernel_rfl) (ih (j + 1) _ g ⟨⟨hlt, by rw [hRs]; exact hP⟩, rfl⟩ (show s.length - (j + 1) < s.length - j by omega) ⟨by kernel_rfl, by kernel_rfl, by kernel_rfl, (by kernel_rfl : _ = I (IntKind.wrap .i64 (Int.ofNat (j + 1)))).trans (by rw [hw]), trivial⟩)
  · intro hlt
    have hlt : i = s.length := Nat.le_antisymm hi (no_nat hlt)
    subst hlt
    have hR : isF s = true := hR
    refine ok_go 0 ?_
    exact sy_done 0 (v := .bool true) (h := g) (by kernel_rfl) ⟨by rw [hR], rfl⟩
end Go.Proofs.YtkfbfgcflnkllaaGreatDoor
namespace Go.Proofs.YtkfbfgcflnkllaaGreatDoor
open Go Go.Eng Nim Ch
set_option maxRecDepth 100000
set_option maxHeartbeats 8000000
theorem os_app2 {h H : Hp} {l : List (Nat × AObj)} {q len j : Nat} {cs : List Value} {v x : Value} (W : Sto h H ((j, .cells [x] 3 false) :: (l ++ oent q 3 cs))) (hO : OSv q cs.length len v) (hx : scalar x = true) (hc : cs.length < 1000) :
    ∃ v' H' q' cs', appendOp Tryz.prog H 28 v (.slice (some ⟨j, 0, none⟩) 1 2) = some (v', H') ∧ OSv q' cs'.length (len + 1) v' ∧ cs'.length ≤ max cs.length (len + 1) ∧ cs'.take (len + 1) = cs.take len ++ [x] ∧ scalar v' = true ∧ Sto h H' (l ++ oent q' 3 cs') := by
  have hj : H.get j = some (.cells [x] 3 false) := W.get 0 rfl
  by_cases hlc : len < cs.length
  · obtain ⟨h1, h2, rfl⟩ : 0 < cs.length ∧ len ≤ cs.length ∧ v = .slice (some ⟨q, 0, none⟩) len (2 * cs.length + 1) := by
      rcases hO with ⟨a, b, _⟩ | hh
      · omega
      · exact hh
    have W1 : Sto h H (((j, .cells [x] 3 false) :: l) ++ oent q 3 cs) := W
    obtain ⟨hg, _, _⟩ := oent_get W1 h1
    have hne : oent q 3 cs = [(q, .cells cs 3 true)] := by
      cases cs with
      | nil => cases h1
      | cons a r => rfl
    have hne2 : oent q 3 (cs.set len x) = [(q, .cells (cs.set len x) 3 true)] := by
      have : (cs.set len x).length = cs.length := List.length_set
      cases hcs : cs.set len x with
      | nil => rw [hcs] at this; simp at this; omega
      | cons a r => rfl
    rw [hne] at W
    have hset : ((j, AObj.cells [x] 3 false) :: (l ++ [(q, AObj.cells cs 3 true)])).set (l.length + 1) (q, .cells (cs.set len x) 3 true) = (j, .cells [x] 3 false) :: (l ++ [(q, .cells (cs.set len x) 3 true)]) := by
      simp
    refine ⟨.slice (some ⟨q, 0, none⟩) (len + 1) (2 * cs.length + 1), H.put q (.cells (cs.set len x) 3 true), q, cs.set len x, ?_, .inr ⟨by rw [List.length_set]; exact h1, by rw [List.length_set]; omega, by rw [List.length_set]⟩, by rw [List.length_set]; omega, set_take _ _ _ hlc, rfl, ?_⟩
    · obtain ⟨inf, hi1, hi2⟩ := slz28.i
      obtain ⟨z, hz1, hz2⟩ := slz28.zr
      have he : elems H 1 1 (.slice (some ⟨j, 0, none⟩) 1 2) = some [x] := by simp only [elems, loadN, hj]; rfl
      have hst : storeN H q (0 + len * 1) [x] = some (H.put q (.cells (cs.set len x) 3 true)) := by
        simp only [storeN, hg, Nat.zero_add, Nat.mul_one, List.length_singleton, Nat.ble_eq_true_of_le (show len + 1 ≤ cs.length by omega), List.all_cons, hx, List.all_nil, Bool.and_true, splice1 hlc]
      simp only [appendOp, slz28.u, slz28.s, hi1, hz1, show lenV (.slice (some ⟨j, 0, none⟩) 1 2) = some 1 from rfl, he, hz2, hi2, List.all_cons, hx, List.all_nil, Bool.and_true, (odd_half cs.length).1,
        Nat.ble_eq_true_of_le (show len + 1 ≤ most by unfold most; omega), Nat.ble_eq_true_of_le (show len + 1 ≤ cs.length by omega), hst]
    · rw [hne2]
      have W3 := W.put (l.length + 1) (show ((j, AObj.cells [x] 3 false) :: (l ++ [(q, AObj.cells cs 3 true)]))[l.length + 1]? = some (q, .cells cs 3 true) by simp) (.cells (cs.set len x) 3 true)
      rw [hset] at W3
      exact W3.drop 1
  · have hlen : len = cs.length ∧ v = oslV q cs.length := by
      rcases hO with ⟨a, b, c⟩ | ⟨a, b, c⟩
      · exact ⟨by omega, by rw [a]; exact c⟩
      · obtain rfl : len = cs.length := by omega
        refine ⟨rfl, ?_⟩
        rw [c]
        cases hcs : cs.length with
        | zero => omega
        | succ k => rfl
    obtain ⟨rfl, rfl⟩ := hlen
    obtain ⟨H', e1, e2, W'⟩ := append_sto (P := Tryz.prog) (t := 28) (x := .slice (some ⟨j, 0, none⟩) 1 2) (n := cs.length) (m := 0) (W.sub (List.sublist_cons_self ..)) slz28 (by simp) rfl rfl (by simp only [elems, loadN, hj]; rfl) (by simp [hx]) (by omega)
    refine ⟨_, H', H.next, cs ++ [x], e1, ?_, by simp, by rw [List.take_length, List.take_of_length_le (by simp)], rfl, W'⟩
    rw [List.length_append]
    exact .inr ⟨by simp, by simp, rfl⟩
/-- The search: the first flower of k sets that begins with s and goes on with the rest. -/
def srF (k : Nat) : List Nat → List Nat → Option (List Nat)
  | [], s => if s.length = k then some s else none
  | x :: r, s => if s.length = k then some s else if isF (s ++ [x]) then (match srF k r (s ++ [x]) with | some f => some f | none => srF k r s) else srF k r s
theorem srF_full {k : Nat} {s : List Nat} (h : s.length = k) : ∀ r, srF k r s = some s
  | [] => if_pos h
  | _ :: _ => if_pos h
theorem srF_nil {k : Nat} {s : List Nat} (h : s.length ≠ k) : srF k [] s = none := if_neg h
theorem srF_cons {k : Nat} {s : List Nat} (h : s.length ≠ k) (x : Nat) (r : List Nat) : srF k (x :: r) s = if isF (s ++ [x]) then (match srF k r (s ++ [x]) with | some f => some f | none => srF k r s) else srF k r s := if_neg h
theorem osv_wf {q c n : Nat} {v : Value} (k : OSv q c n v) : WfS v := by
  rcases k with ⟨_, rfl, rfl⟩ | ⟨_, h, rfl⟩
  · exact ⟨rfl, rfl⟩
  · exact .inl ⟨rfl, by omega⟩
theorem osv_sc {q c n : Nat} {v : Value} (k : OSv q c n v) : scalar v = true := by
  rcases k with ⟨_, rfl, rfl⟩ | ⟨_, h, rfl⟩ <;> rfl
theorem osv_rds {h0 H : Hp} {l : List (Nat × AObj)} {q : Nat} {cs : List Value} {v : Value} {s : List Nat} (k : OSv q cs.length s.length v) (ht : cs.take s.length = s.map J) (W : Sto h0 H (l ++ oent q 3 cs)) : Rds H v (s.map J) := by
  rcases k with ⟨h1, h2, rfl⟩ | ⟨h1, h2, rfl⟩
  · exact .inl ⟨⟨none, rfl⟩, by rw [List.length_eq_zero_iff.1 h2]; rfl⟩
  · obtain ⟨hg, hn, _⟩ := oent_get W h1
    refine .inr ⟨q, 0, 2 * cs.length + 1, by rw [List.length_map], fun _ => ⟨hn, ?_⟩⟩
    simp only [loadN, hg, List.drop_zero, List.length_map]
    rw [takeN_take (takeN_all cs) s.length h2, ht]
end Go.Proofs.YtkfbfgcflnkllaaGreatDoor
namespace Go.Proofs.YtkfbfgcflnkllaaGreatDoor
open Go Go.Eng Nim Ch
set_option maxRecDepth 100000
set_option maxHeartbeats 8000000
theorem srch_of (lf m : Nat) (hlf : 2000 ≤ lf) (L : List Nat) (hL : L.length ≤ 60) (hb : ∀ x ∈ L, x < 1024) (la : Option Addr) (lc : Nat) (h0 : Hp) (hv : Rds h0 (.slice la L.length lc) (L.map J)) (k a1 a2 a3 a4 : Nat) (hk : k ≤ 5) :
    ∀ (j : Nat) (s : List Nat) (fr q : Nat) (cs : List Value) (v : Value) (g : Hp), s.length + j = k → fr ≤ L.length → OSv q cs.length s.length v → cs.length ≤ 5 → cs.take s.length = s.map J → (∀ x ∈ s, x < 1024) →
      Sto h0 g ((a1, .cells [v] 28 false) :: (a2, .cells [J k] 3 false) :: (a3, .cells [.slice la L.length lc] 28 false) :: (a4, .cells [.func (.func 82) #[] #[ptr a1 0, ptr a2 0, ptr a3 0, ptr a4 0]] 31 false) :: oent q 3 cs) →
      ∃ w g', Ev lf (m + j + 2) 82 [J fr, ptr a1 0, ptr a2 0, ptr a3 0, ptr a4 0] g = some (w, g') ∧ ∃ s' q' cs' v', w = .bool (srF k (L.drop fr) s).isSome ∧ s' = (srF k (L.drop fr) s).getD s ∧ OSv q' cs'.length s'.length v' ∧ cs'.length ≤ 5 ∧ cs'.take s'.length = s'.map J ∧
        Sto h0 g' ((a1, .cells [v'] 28 false) :: (a2, .cells [J k] 3 false) :: (a3, .cells [.slice la L.length lc] 28 false) :: (a4, .cells [.func (.func 82) #[] #[ptr a1 0, ptr a2 0, ptr a3 0, ptr a4 0]] 31 false) :: oent q' 3 cs') := by
  intro j
  induction j with
  | zero =>
    intro s fr q cs v g hj hfr hO hc ht _ W
    have hsk : s.length = k := by omega
    rw [srF_full hsk]
    obtain ⟨oa, oc, rfl⟩ := hO.shape
    refine fnS_ok (Q := fun w g' => ∃ s' q' cs' v', w = .bool (some s : Option (List Nat)).isSome ∧ s' = (some s : Option (List Nat)).getD s ∧ OSv q' cs'.length s'.length v' ∧ cs'.length ≤ 5 ∧ cs'.take s'.length = s'.map J ∧
        Sto h0 g' ((a1, .cells [v'] 28 false) :: (a2, .cells [J k] 3 false) :: (a3, .cells [.slice la L.length lc] 28 false) :: (a4, .cells [.func (.func 82) #[] #[ptr a1 0, ptr a2 0, ptr a3 0, ptr a4 0]] 31 false) :: oent q' 3 cs')) ?_
    refine ow_load (P := Tryz.prog) (T := 28) (off := 0) 0 0 W rfl rfl (by kernel_rfl) (by kernel_rfl) ?_
    refine ow_load (P := Tryz.prog) (T := 3) (off := 0) 1 1 W rfl rfl (by kernel_rfl) (by kernel_rfl) ?_
    refine ok_go 1 ?_
    refine sy_yes 0 (b := Int.ofNat s.length == Int.ofNat k) (by kernel_rfl) (by rw [hsk, beq_self_eq_true]) ?_
    refine ok_go 0 ?_
    exact sy_done 0 (v := .bool true) (h := g) (by kernel_rfl) ⟨s, q, cs, _, rfl, rfl, hO, hc, ht, W⟩
  | succ j ih0 =>
    intro s fr q cs v g hj hfr hO hc ht hs W
    have hsk : s.length ≠ k := by omega
    generalize hres : srF k (L.drop fr) s = res
    obtain ⟨oa, oc, rfl⟩ := hO.shape
    refine fnS_ok (Q := fun w g' => ∃ s' q' cs' v', w = .bool res.isSome ∧ s' = res.getD s ∧ OSv q' cs'.length s'.length v' ∧ cs'.length ≤ 5 ∧ cs'.take s'.length = s'.map J ∧
        Sto h0 g' ((a1, .cells [v'] 28 false) :: (a2, .cells [J k] 3 false) :: (a3, .cells [.slice la L.length lc] 28 false) :: (a4, .cells [.func (.func 82) #[] #[ptr a1 0, ptr a2 0, ptr a3 0, ptr a4 0]] 31 false) :: oent q' 3 cs')) ?_
    refine ow_load (P := Tryz.prog) (T := 28) (off := 0) 0 0 W rfl rfl (by kernel_rfl) (by kernel_rfl) ?_
    refine ow_load (P := Tryz.prog) (T := 3) (off := 0) 1 1 W rfl rfl (by kernel_rfl) (by kernel_rfl) ?_
    refine ok_go 1 ?_
    refine sy_no 0 (b := Int.ofNat s.length == Int.ofNat k) (by kernel_rfl) (beq_eq_false_iff_ne.2 fun h => hsk (Int.ofNat.inj h)) ?_
    refine ok_go 0 ?_
    refine sy_loop 0 lf g (α := Nat × Nat × List Value × Option Addr × Nat) (fun x => [(1, ptr a1 0), (2, ptr a2 0), (3, ptr a3 0), (4, ptr a4 0), (7, J x.1)]) (fun x g => (x.1 ≤ L.length ∧ srF k (L.drop x.1) s = res) ∧ OSv x.2.1 x.2.2.1.length s.length (.slice x.2.2.2.1 s.length x.2.2.2.2) ∧ x.2.2.1.length ≤ 5 ∧ x.2.2.1.take s.length = s.map J ∧
        Sto h0 g ((a1, .cells [.slice x.2.2.2.1 s.length x.2.2.2.2] 28 false) :: (a2, .cells [J k] 3 false) :: (a3, .cells [.slice la L.length lc] 28 false) :: (a4, .cells [.func (.func 82) #[] #[ptr a1 0, ptr a2 0, ptr a3 0, ptr a4 0]] 31 false) :: oent x.2.1 3 x.2.2.1)) (fun x _ => L.length - x.1) (fr, q, cs, oa, oc) (by kernel_rfl) (by kernel_rfl)
      ⟨by kernel_rfl, by kernel_rfl, by kernel_rfl, by kernel_rfl, by kernel_rfl, trivial⟩ (show L.length - fr < lf by omega) ⟨⟨hfr, hres⟩, hO, hc, ht, W⟩ ?_
    clear W hO hc ht hres
    rintro m1 ⟨i, q, cs, oa, oc⟩ F1 g ⟨⟨hi, hres⟩, hO, hc, ht, W⟩ ih
    dsimp only at hi hres hO hc ht W
    have hw : IntKind.wrap .i64 (Int.ofNat (i + 1)) = Int.ofNat (i + 1) := wrap_nat (by omega)
    refine ow_load (P := Tryz.prog) (T := 28) (off := 0) 0 2 W rfl rfl (by kernel_rfl) (by kernel_rfl) ?_
    refine ok_go 2 ?_
    refine sy_test 0 (decide (Int.ofNat i < Int.ofNat L.length)) (by kernel_rfl) ?_ ?_
    · intro hlt
      have hlt : i < L.length := ok_nat hlt
      obtain ⟨p, hp1, hp2⟩ := rdN (hv.ext W.ext) hlt
      have hxb := hb _ (List.getElem_mem hlt)
      have hdr : L.drop i = L[i] :: L.drop (i + 1) := List.drop_eq_getElem_cons hlt
      rw [hdr, srF_cons hsk] at hres
      generalize L[i] = x at *
      refine ow_load (P := Tryz.prog) (T := 28) (off := 0) 0 0 W rfl rfl (by kernel_rfl) (by kernel_rfl) ?_
      refine ow_load (P := Tryz.prog) (T := 28) (off := 0) 0 2 W rfl rfl (by kernel_rfl) (by kernel_rfl) ?_
      refine sy_load 0 (r := indexAddrOp Tryz.prog 28 (.slice la L.length lc) (J i)) (h' := g) (by kernel_rfl) hp1 ?_
      refine ok_go 0 ?_
      refine sy_load 0 (r := loadT Tryz.prog g 3 p) (h' := g) (by kernel_rfl) hp2 ?_
      refine ow_new 0 W (AObj.cells [Value.int IntKind.i64 (Int.ofNat x)] 3 false) (fun q => Value.slice (some { block := q, off := 0 }) 1 2) (by kernel_rfl) fun c1 nc1 Wc1 => ?_
      have W := Wc1
      have W : Sto h0 c1 ((g.next, .cells [J x] 3 false) :: ([(a1, .cells [.slice oa s.length oc] 28 false), (a2, .cells [J k] 3 false), (a3, .cells [.slice la L.length lc] 28 false), (a4, .cells [.func (.func 82) #[] #[ptr a1 0, ptr a2 0, ptr a3 0, ptr a4 0]] 31 false)] ++ oent q 3 cs)) := W
      obtain ⟨v2, c2, q2, cs2, e2, hO2, hc2, ht2, hsv, W⟩ := os_app2 W hO rfl (by omega)
      have hc2 : cs2.length ≤ 5 := by omega
      have ht2 : cs2.take (s ++ [x]).length = (s ++ [x]).map J := by
        rw [List.length_append, List.length_singleton, ht2, ht, List.map_append]; rfl
      have hO2 : OSv q2 cs2.length (s ++ [x]).length v2 := by rw [List.length_append]; exact hO2
      have hsx : ∀ y ∈ s ++ [x], y < 1024 := fun y hy => by
        rcases List.mem_append.1 hy with h1 | h1
        · exact hs y h1
        · rw [List.mem_singleton.1 h1]; exact hxb
      refine sy_call 0 (by kernel_rfl) e2 ?_
      have W : Sto h0 c2 ((a1, .cells [.slice oa s.length oc] 28 false) :: (a2, .cells [J k] 3 false) :: (a3, .cells [.slice la L.length lc] 28 false) :: (a4, .cells [.func (.func 82) #[] #[ptr a1 0, ptr a2 0, ptr a3 0, ptr a4 0]] 31 false) :: oent q2 3 cs2) := W
      refine ok_go 0 ?_
      refine ow_store (P := Tryz.prog) (T := 28) (off := 0) (v := v2) 0 0 W rfl (Nat.le_of_ble_eq_true (by kernel_rfl)) (by kernel_rfl) hsv (by kernel_rfl) fun c3 nc3 W => ?_
      have W : Sto h0 c3 ((a1, .cells [v2] 28 false) :: (a2, .cells [J k] 3 false) :: (a3, .cells [.slice la L.length lc] 28 false) :: (a4, .cells [.func (.func 82) #[] #[ptr a1 0, ptr a2 0, ptr a3 0, ptr a4 0]] 31 false) :: oent q2 3 cs2) := W
      have W' : Sto h0 c3 ([(a1, .cells [v2] 28 false), (a2, .cells [J k] 3 false), (a3, .cells [.slice la L.length lc] 28 false), (a4, .cells [.func (.func 82) #[] #[ptr a1 0, ptr a2 0, ptr a3 0, ptr a4 0]] 31 false)] ++ oent q2 3 cs2) := W
      have e3 := isflower_of lf (m + j + 1) hlf (s ++ [x]) (by rw [List.length_append]; have : ([x] : List Nat).length = 1 := rfl; omega) (fun y hy => by have := hsx y hy; omega) v2 c3 (osv_wf hO2) (osv_rds hO2 ht2 W')
      obtain ⟨hcp, hcl, rfl⟩ : 0 < cs2.length ∧ (s ++ [x]).length ≤ cs2.length ∧ v2 = .slice (some ⟨q2, 0, none⟩) (s ++ [x]).length (2 * cs2.length + 1) := by
        rcases hO2 with ⟨_, h2, _⟩ | hh
        · rw [List.length_append, List.length_singleton] at h2; omega
        · exact hh
      have hlen : (s ++ [x]).length = s.length + 1 := by rw [List.length_append, List.length_singleton]
      have hsl2 : s.length ≤ cs2.length := by omega
      have hm1 : IntKind.i64.wrap (Int.ofNat (s ++ [x]).length - 1) = Int.ofNat s.length := by rw [hlen]; exact wrap_sub (a := s.length + 1) (b := 1) (by omega) (by omega)
      have hcut : ∀ (n : Nat) (cs : List Value), 0 < cs.length → s.length ≤ cs.length → ∀ q n, sliceOp Tryz.prog 28 (.slice (some ⟨q, 0, none⟩) n (2 * cs.length + 1)) none (some (I (Int.ofNat s.length))) none = some (.slice (some ⟨q, 0, none⟩) s.length (2 * cs.length + 1)) := fun _ cs h1 h2 q n => gl_hi (e := 3) (by kernel_rfl) (by kernel_rfl) h2 h1
      have htk : ∀ cs : List Value, cs.take (s ++ [x]).length = (s ++ [x]).map J → cs.take s.length = s.map J := fun cs h => by
        have := congrArg (List.take s.length) h
        rw [List.take_take, hlen, Nat.min_eq_left (by omega), List.map_append, List.take_left' (by rw [List.length_map])] at this
        exact this
      refine ow_load (P := Tryz.prog) (T := 28) (off := 0) 0 0 W rfl rfl (by kernel_rfl) (by kernel_rfl) ?_
      refine sy_call 0 (by kernel_rfl) e3 ?_
      by_cases hF : isF (s ++ [x]) = true
      · rw [if_pos hF] at hres
        refine ok_go 1 ?_
        refine sy_no 0 (b := !isF (s ++ [x])) (by kernel_rfl) (by rw [hF]; rfl) ?_
        obtain ⟨_, c4, e4, s4, q4, cs4, v4, rfl, hs4, hO4, hc4, ht4, W4⟩ := ih0 (s ++ [x]) (i + 1) q2 cs2 _ c3 (by rw [hlen]; omega) hlt hO2 hc2 ht2 hsx W
        rw [show J (i + 1) = I (IntKind.wrap .i64 (Int.ofNat (i + 1))) by rw [hw]] at e4
        refine ow_load (P := Tryz.prog) (T := 31) (off := 0) 0 3 W rfl rfl (by kernel_rfl) (by kernel_rfl) ?_
        refine ok_go 1 ?_
        refine sy_call 0 (by kernel_rfl) e4 ?_
        have W := W4
        cases hr4 : srF k (L.drop (i + 1)) (s ++ [x]) with
        | some f =>
          rw [hr4] at hres hs4
          have hs4 : s4 = f := hs4
          have hres : some f = res := hres
          refine ok_go 1 ?_
          exact sy_done 0 (v := .bool true) (h := c4) (by kernel_rfl) ⟨s4, q4, cs4, v4, by rw [← hres]; rfl, by rw [← hres]; exact hs4, hO4, hc4, ht4, W⟩
        | none =>
          rw [hr4] at hres hs4
          have hs4 : s4 = s ++ [x] := hs4
          have hres : srF k (L.drop (i + 1)) s = res := hres
          subst hs4
          obtain ⟨hcp4, hcl4, rfl⟩ : 0 < cs4.length ∧ (s ++ [x]).length ≤ cs4.length ∧ v4 = .slice (some ⟨q4, 0, none⟩) (s ++ [x]).length (2 * cs4.length + 1) := by
            rcases hO4 with ⟨_, h2, _⟩ | hh
            · rw [hlen] at h2; omega
            · exact hh
          have hsl4 : s.length ≤ cs4.length := by omega
          refine ow_load (P := Tryz.prog) (T := 28) (off := 0) 1 0 W rfl rfl (by kernel_rfl) (by kernel_rfl) ?_
          refine ow_load (P := Tryz.prog) (T := 28) (off := 0) 0 0 W rfl rfl (by kernel_rfl) (by kernel_rfl) ?_
          refine ok_go 2 ?_
          refine sy_load 0 (r := sliceOp Tryz.prog 28 (.slice (some ⟨q4, 0, none⟩) (s ++ [x]).length (2 * cs4.length + 1)) none (some (I (IntKind.i64.wrap (Int.ofNat (s ++ [x]).length - 1)))) none) (h' := c4) (by kernel_rfl) (by rw [hm1]; exact hcut 0 cs4 hcp4 hsl4 q4 _) ?_
          refine ok_go 0 ?_
          refine ow_store (P := Tryz.prog) (T := 28) (off := 0) (v := .slice (some ⟨q4, 0, none⟩) s.length (2 * cs4.length + 1)) 0 0 W rfl (Nat.le_of_ble_eq_true (by kernel_rfl)) (by kernel_rfl) rfl (by kernel_rfl) fun c9 nc9 W => ?_
          have W : Sto h0 c9 ((a1, .cells [.slice (some ⟨q4, 0, none⟩) s.length (2 * cs4.length + 1)] 28 false) :: (a2, .cells [J k] 3 false) :: (a3, .cells [.slice la L.length lc] 28 false) :: (a4, .cells [.func (.func 82) #[] #[ptr a1 0, ptr a2 0, ptr a3 0, ptr a4 0]] 31 false) :: oent q4 3 cs4) := W
          refine ok_go 1 ?_
          exact sy_next 0 _ c9 (by kernel_rfl) (by kernel_rfl) (ih (i + 1, q4, cs4, some ⟨q4, 0, none⟩, 2 * cs4.length + 1) _ c9 ⟨⟨hlt, hres⟩, .inr ⟨hcp4, hsl4, rfl⟩, hc4, htk cs4 ht4, W⟩ (show L.length - (i + 1) < L.length - i by omega) ⟨by kernel_rfl, by kernel_rfl, by kernel_rfl, by kernel_rfl, (by kernel_rfl : _ = I (IntKind.wrap .i64 (Int.ofNat (i + 1)))).trans (by rw [hw]), trivial⟩)
      · rw [if_neg hF] at hres
        refine ok_go 1 ?_
        refine sy_yes 0 (b := !isF (s ++ [x])) (by kernel_rfl) (by rw [Bool.eq_false_iff.2 hF]; rfl) ?_
        refine ow_load (P := Tryz.prog) (T := 28) (off := 0) 0 0 W rfl rfl (by kernel_rfl) (by kernel_rfl) ?_
        refine ow_load (P := Tryz.prog) (T := 28) (off := 0) 0 0 W rfl rfl (by kernel_rfl) (by kernel_rfl) ?_
        refine ok_go 2 ?_
        refine sy_load 0 (r := sliceOp Tryz.prog 28 (.slice (some ⟨q2, 0, none⟩) (s ++ [x]).length (2 * cs2.length + 1)) none (some (I (IntKind.i64.wrap (Int.ofNat (s ++ [x]).length - 1)))) none) (h' := c3) (by kernel_rfl) (by rw [hm1]; exact hcut 0 cs2 hcp hsl2 q2 _) ?_
        refine ok_go 0 ?_
        refine ow_store (P := Tryz.prog) (T := 28) (off := 0) (v := .slice (some ⟨q2, 0, none⟩) s.length (2 * cs2.length + 1)) 0 0 W rfl (Nat.le_of_ble_eq_true (by kernel_rfl)) (by kernel_rfl) rfl (by kernel_rfl) fun c9 nc9 W => ?_
        have W : Sto h0 c9 ((a1, .cells [.slice (some ⟨q2, 0, none⟩) s.length (2 * cs2.length + 1)] 28 false) :: (a2, .cells [J k] 3 false) :: (a3, .cells [.slice la L.length lc] 28 false) :: (a4, .cells [.func (.func 82) #[] #[ptr a1 0, ptr a2 0, ptr a3 0, ptr a4 0]] 31 false) :: oent q2 3 cs2) := W
        refine ok_go 1 ?_
        exact sy_next 0 _ c9 (by kernel_rfl) (by kernel_rfl) (ih (i + 1, q2, cs2, some ⟨q2, 0, none⟩, 2 * cs2.length + 1) _ c9 ⟨⟨hlt, hres⟩, .inr ⟨hcp, hsl2, rfl⟩, hc2, htk cs2 ht2, W⟩ (show L.length - (i + 1) < L.length - i by omega) ⟨by kernel_rfl, by kernel_rfl, by kernel_rfl, by kernel_rfl, (by kernel_rfl : _ = I (IntKind.wrap .i64 (Int.ofNat (i + 1)))).trans (by rw [hw]), trivial⟩)
    · intro hlt
      have hlt : i = L.length := Nat.le_antisymm hi (no_nat hlt)
      subst hlt
      rw [List.drop_length, srF_nil hsk] at hres
      refine ok_go 0 ?_
      exact sy_done 0 (v := .bool false) (h := g) (by kernel_rfl) ⟨s, q, cs, _, by rw [← hres]; rfl, by rw [← hres]; rfl, hO, hc, ht, W⟩
end Go.Proofs.YtkfbfgcflnkllaaGreatDoor
namespace Go.Proofs.YtkfbfgcflnkllaaGreatDoor
open Go Go.Eng Nim Ch
set_option maxRecDepth 100000
set_option maxHeartbeats 8000000
theorem flw_arg (lf m : Nat) (hlf : 2000 ≤ lf) (n : Nat) (hn : n ≤ 10) (z : Int) (hz : z < 1 ∨ z > 5) (f : Nat → Bool) (v : Value) (h : Hp) (hv : Rds h v ((lst f (2 ^ n)).map J)) :
    ∃ v' h', Ev lf (m + 2) 43 [J n, v, I z] h = some (v', h') ∧ v' = .tuple #[.slice none 0 0, .bool false, J 1] ∧ h.Ext h' := by
  refine fnS_ok (Q := fun v' h' => v' = .tuple #[.slice none 0 0, .bool false, J 1] ∧ h.Ext h') ?_
  have e1 := fun g (X : h.Ext g) => chk_lst lf m hlf n hn f v g (hv.ext X)
  obtain ⟨va, vc, hvs⟩ := hv.shape
  subst hvs
  have W := Sto.start h
  refine ow_new 0 W (AObj.cells [Value.slice va (List.length (List.map J (lst f (2 ^ n)))) vc] 28 false) (fun q => Value.pointer (some { block := q, off := 0 })) (by kernel_rfl) fun g1 ng1 Wg1 => ?_
  have W := Wg1
  refine ow_new 0 W (AObj.cells [Value.int IntKind.i64 z] 3 false) (fun q => Value.pointer (some { block := q, off := 0 })) (by kernel_rfl) fun g2 ng2 Wg2 => ?_
  have W := Wg2
  refine ow_new 0 W (AObj.cells [Value.slice none 0 0] 28 false) (fun q => Value.pointer (some { block := q, off := 0 })) (by kernel_rfl) fun g3 ng3 Wg3 => ?_
  have W := Wg3
  refine ow_load (P := Tryz.prog) (T := 28) (off := 0) 0 2 W rfl rfl (by kernel_rfl) (by kernel_rfl) ?_
  refine sy_call 0 (by kernel_rfl) (e1 _ W.ext) ?_
  refine ow_load (P := Tryz.prog) (T := 3) (off := 0) 2 1 W rfl rfl (by kernel_rfl) (by kernel_rfl) ?_
  refine ok_go 1 ?_
  by_cases h1 : z < 1
  · refine sy_yes 0 (b := decide (z < 1)) (by kernel_rfl) (decide_eq_true h1) ?_
    refine ow_store (P := Tryz.prog) (T := 28) (off := 0) (v := Value.slice none 0 0) 3 0 W rfl (Nat.le_of_ble_eq_true (by kernel_rfl)) (by kernel_rfl) (by first | rfl | assumption) (by kernel_rfl) fun g9 ng9 Wg9 => ?_
    have W := Wg9
    refine ow_load (P := Tryz.prog) (T := 28) (off := 0) 0 0 W rfl rfl (by kernel_rfl) (by kernel_rfl) ?_
    exact sy_done 0 (v := .tuple #[.slice none 0 0, .bool false, J 1]) (h := g9) (by kernel_rfl) ⟨rfl, W.ext⟩
  · refine sy_no 0 (b := decide (z < 1)) (by kernel_rfl) (decide_eq_false h1) ?_
    refine ow_load (P := Tryz.prog) (T := 3) (off := 0) 0 1 W rfl rfl (by kernel_rfl) (by kernel_rfl) ?_
    refine ok_go 3 ?_
    refine sy_yes 0 (b := decide (z > 5)) (by kernel_rfl) (decide_eq_true (hz.resolve_left h1)) ?_
    refine ow_store (P := Tryz.prog) (T := 28) (off := 0) (v := Value.slice none 0 0) 0 0 W rfl (Nat.le_of_ble_eq_true (by kernel_rfl)) (by kernel_rfl) (by first | rfl | assumption) (by kernel_rfl) fun g9 ng9 Wg9 => ?_
    have W := Wg9
    refine ow_load (P := Tryz.prog) (T := 28) (off := 0) 0 0 W rfl rfl (by kernel_rfl) (by kernel_rfl) ?_
    exact sy_done 0 (v := .tuple #[.slice none 0 0, .bool false, J 1]) (h := g9) (by kernel_rfl) ⟨rfl, W.ext⟩
theorem flw_long (lf m : Nat) (hlf : 2000 ≤ lf) (n : Nat) (hn : n ≤ 10) (k : Nat) (hk1 : 1 ≤ k) (hk5 : k ≤ 5) (f : Nat → Bool) (hl : 60 < (lst f (2 ^ n)).length) (v : Value) (h : Hp) (hv : Rds h v ((lst f (2 ^ n)).map J)) :
    ∃ v' h', Ev lf (m + 2) 43 [J n, v, J k] h = some (v', h') ∧ v' = .tuple #[.slice none 0 0, .bool false, J 2] ∧ h.Ext h' := by
  refine fnS_ok (Q := fun v' h' => v' = .tuple #[.slice none 0 0, .bool false, J 2] ∧ h.Ext h') ?_
  have e1 := fun g (X : h.Ext g) => chk_lst lf m hlf n hn f v g (hv.ext X)
  obtain ⟨va, vc, hvs⟩ := hv.shape
  rw [List.length_map] at hvs
  subst hvs
  generalize lst f (2 ^ n) = L at *
  have W := Sto.start h
  refine ow_new 0 W (AObj.cells [Value.slice va (List.length L) vc] 28 false) (fun q => Value.pointer (some { block := q, off := 0 })) (by kernel_rfl) fun g1 ng1 Wg1 => ?_
  have W := Wg1
  refine ow_new 0 W (AObj.cells [Value.int IntKind.i64 (Int.ofNat k)] 3 false) (fun q => Value.pointer (some { block := q, off := 0 })) (by kernel_rfl) fun g2 ng2 Wg2 => ?_
  have W := Wg2
  refine ow_new 0 W (AObj.cells [Value.slice none 0 0] 28 false) (fun q => Value.pointer (some { block := q, off := 0 })) (by kernel_rfl) fun g3 ng3 Wg3 => ?_
  have W := Wg3
  refine ow_load (P := Tryz.prog) (T := 28) (off := 0) 0 2 W rfl rfl (by kernel_rfl) (by kernel_rfl) ?_
  refine sy_call 0 (by kernel_rfl) (e1 _ W.ext) ?_
  refine ow_load (P := Tryz.prog) (T := 3) (off := 0) 2 1 W rfl rfl (by kernel_rfl) (by kernel_rfl) ?_
  refine ok_go 1 ?_
  refine sy_no 0 (b := decide (Int.ofNat k < 1)) (by kernel_rfl) (decide_eq_false (by show ¬ (k : Int) < 1; omega)) ?_
  refine ow_load (P := Tryz.prog) (T := 3) (off := 0) 0 1 W rfl rfl (by kernel_rfl) (by kernel_rfl) ?_
  refine ok_go 3 ?_
  refine sy_no 0 (b := decide (Int.ofNat k > 5)) (by kernel_rfl) (decide_eq_false (by show ¬ (5 : Int) < (k : Int); omega)) ?_
  refine ow_load (P := Tryz.prog) (T := 28) (off := 0) 0 2 W rfl rfl (by kernel_rfl) (by kernel_rfl) ?_
  refine ok_go 2 ?_
  refine sy_yes 0 (b := decide (Int.ofNat L.length > 60)) (by kernel_rfl) (decide_eq_true (by show (60 : Int) < (L.length : Int); omega)) ?_
  refine ow_store (P := Tryz.prog) (T := 28) (off := 0) (v := Value.slice none 0 0) 0 0 W rfl (Nat.le_of_ble_eq_true (by kernel_rfl)) (by kernel_rfl) (by first | rfl | assumption) (by kernel_rfl) fun g9 ng9 Wg9 => ?_
  have W := Wg9
  refine ow_load (P := Tryz.prog) (T := 28) (off := 0) 0 0 W rfl rfl (by kernel_rfl) (by kernel_rfl) ?_
  exact sy_done 0 (v := .tuple #[.slice none 0 0, .bool false, J 2]) (h := g9) (by kernel_rfl) ⟨rfl, W.ext⟩
theorem flw_of (lf m : Nat) (hlf : 2000 ≤ lf) (n : Nat) (hn : n ≤ 10) (k : Nat) (hk1 : 1 ≤ k) (hk5 : k ≤ 5) (f : Nat → Bool) (hl : (lst f (2 ^ n)).length ≤ 60) (v : Value) (h : Hp) (hv : Rds h v ((lst f (2 ^ n)).map J)) :
    ∃ v' h', Ev lf (m + k + 3) 43 [J n, v, J k] h = some (v', h') ∧ h.Ext h' ∧ ((srF k (lst f (2 ^ n)) [] = none ∧ v' = .tuple #[.slice none 0 0, .bool false, J 0]) ∨ ∃ fl w, srF k (lst f (2 ^ n)) [] = some fl ∧ v' = .tuple #[w, .bool true, J 0] ∧ Rds h' w (fl.map J) ∧ WfS w) := by
  refine fnS_ok (Q := fun v' h' => h.Ext h' ∧ ((srF k (lst f (2 ^ n)) [] = none ∧ v' = .tuple #[.slice none 0 0, .bool false, J 0]) ∨ ∃ fl w, srF k (lst f (2 ^ n)) [] = some fl ∧ v' = .tuple #[w, .bool true, J 0] ∧ Rds h' w (fl.map J) ∧ WfS w)) ?_
  have h2n : 2 ^ n ≤ 1024 := Nat.pow_le_pow_right (by decide) hn
  have e1 := fun g (X : h.Ext g) => chk_lst lf (m + k + 1) hlf n hn f v g (hv.ext X)
  have hlm : ∀ x ∈ lst f (2 ^ n), x < 1024 := fun x hx => by have := (lst_mem.1 hx).1; omega
  obtain ⟨va, vc, hvs⟩ := hv.shape
  rw [List.length_map] at hvs
  subst hvs
  generalize lst f (2 ^ n) = L at *
  have W := Sto.start h
  refine ow_new 0 W (AObj.cells [Value.slice va (List.length L) vc] 28 false) (fun q => Value.pointer (some { block := q, off := 0 })) (by kernel_rfl) fun g1 ng1 Wg1 => ?_
  have W := Wg1
  refine ow_new 0 W (AObj.cells [Value.int IntKind.i64 (Int.ofNat k)] 3 false) (fun q => Value.pointer (some { block := q, off := 0 })) (by kernel_rfl) fun g2 ng2 Wg2 => ?_
  have W := Wg2
  refine ow_new 0 W (AObj.cells [Value.slice none 0 0] 28 false) (fun q => Value.pointer (some { block := q, off := 0 })) (by kernel_rfl) fun g3 ng3 Wg3 => ?_
  have W := Wg3
  refine ow_load (P := Tryz.prog) (T := 28) (off := 0) 0 2 W rfl rfl (by kernel_rfl) (by kernel_rfl) ?_
  refine sy_call 0 (by kernel_rfl) (e1 _ W.ext) ?_
  refine ow_load (P := Tryz.prog) (T := 3) (off := 0) 2 1 W rfl rfl (by kernel_rfl) (by kernel_rfl) ?_
  refine ok_go 1 ?_
  refine sy_no 0 (b := decide (Int.ofNat k < 1)) (by kernel_rfl) (decide_eq_false (by show ¬ (k : Int) < 1; omega)) ?_
  refine ow_load (P := Tryz.prog) (T := 3) (off := 0) 0 1 W rfl rfl (by kernel_rfl) (by kernel_rfl) ?_
  refine ok_go 3 ?_
  refine sy_no 0 (b := decide (Int.ofNat k > 5)) (by kernel_rfl) (decide_eq_false (by show ¬ (5 : Int) < (k : Int); omega)) ?_
  refine ow_load (P := Tryz.prog) (T := 28) (off := 0) 0 2 W rfl rfl (by kernel_rfl) (by kernel_rfl) ?_
  refine ok_go 2 ?_
  refine sy_no 0 (b := decide (Int.ofNat L.length > 60)) (by kernel_rfl) (decide_eq_false (by show ¬ (60 : Int) < (L.length : Int); omega)) ?_
  refine ow_new 0 W (AObj.cells [Value.nilFunc] 31 false) (fun q => Value.pointer (some { block := q, off := 0 })) (by kernel_rfl) fun c1 nc1 Wc1 => ?_
  have W := Wc1
  refine ow_store (P := Tryz.prog) (T := 31) (off := 0) (v := Value.func (Fn.func 82) { toList := [] } { toList := [Value.pointer (some { block := Hp.next g2, off := 0 }), Value.pointer (some { block := Hp.next g1, off := 0 }), Value.pointer (some { block := Hp.next h, off := 0 }), Value.pointer (some { block := Hp.next g3, off := 0 })] }) 1 0 W rfl (Nat.le_of_ble_eq_true (by kernel_rfl)) (by kernel_rfl) (by first | rfl | assumption) (by kernel_rfl) fun c2 nc2 Wc2 => ?_
  have W := Wc2
  refine ow_load (P := Tryz.prog) (T := 31) (off := 0) 0 0 W rfl rfl (by kernel_rfl) (by kernel_rfl) ?_
  have W : Sto h c2 ((g3.next, .cells [.func (.func 82) #[] #[ptr g2.next 0, ptr g1.next 0, ptr h.next 0, ptr g3.next 0]] 31 false) :: [(g2.next, .cells [.slice none 0 0] 28 false), (g1.next, .cells [J k] 3 false), (h.next, .cells [.slice va L.length vc] 28 false)]) := W
  have W := W.perm (List.perm_append_comm (l₁ := [_]) (l₂ := [_, _, _]))
  obtain ⟨_, c3, e3, s', q', cs', v', rfl, hs', hO', _, ht', W3⟩ := srch_of lf m hlf L hl hlm va vc h hv k g2.next g1.next h.next g3.next hk5 k [] 0 0 [] (.slice none 0 0) c2 (by rw [List.length_nil]; omega) (Nat.zero_le _) (.inl ⟨rfl, rfl, rfl⟩) (Nat.zero_le _) rfl (fun x hx => absurd hx (List.not_mem_nil)) W
  rw [List.drop_zero] at e3 hs'
  refine sy_call 0 (by kernel_rfl) e3 ?_
  have W := W3
  have hsc := osv_sc hO'
  cases hr : srF k L [] with
  | some fl =>
    rw [hr] at hs'
    have hs' : s' = fl := hs'
    subst hs'
    have W' : Sto h c3 ([(g2.next, .cells [v'] 28 false), (g1.next, .cells [J k] 3 false), (h.next, .cells [.slice va L.length vc] 28 false), (g3.next, .cells [.func (.func 82) #[] #[ptr g2.next 0, ptr g1.next 0, ptr h.next 0, ptr g3.next 0]] 31 false)] ++ oent q' 3 cs') := W3
    refine ow_load (P := Tryz.prog) (T := 28) (off := 0) 2 0 W rfl rfl (by kernel_rfl) (by kernel_rfl) ?_
    refine ow_store (P := Tryz.prog) (T := 28) (off := 0) (v := v') 0 0 W rfl (Nat.le_of_ble_eq_true (by kernel_rfl)) (by kernel_rfl) (by first | rfl | assumption) (by kernel_rfl) fun d1 nd1 Wd1 => ?_
    have W := Wd1
    refine ow_load (P := Tryz.prog) (T := 28) (off := 0) 0 0 W rfl rfl (by kernel_rfl) (by kernel_rfl) ?_
    have W' : Sto h d1 ([(g2.next, .cells [v'] 28 false), (g1.next, .cells [J k] 3 false), (h.next, .cells [.slice va L.length vc] 28 false), (g3.next, .cells [.func (.func 82) #[] #[ptr g2.next 0, ptr g1.next 0, ptr h.next 0, ptr g3.next 0]] 31 false)] ++ oent q' 3 cs') := W
    exact sy_done 0 (v := .tuple #[v', .bool true, J 0]) (h := d1) (by kernel_rfl) ⟨W.ext, .inr ⟨s', v', rfl, rfl, osv_rds hO' ht' W', osv_wf hO'⟩⟩
  | none =>
    refine ow_store (P := Tryz.prog) (T := 28) (off := 0) (v := Value.slice none 0 0) 2 0 W rfl (Nat.le_of_ble_eq_true (by kernel_rfl)) (by kernel_rfl) (by first | rfl | assumption) (by kernel_rfl) fun d1 nd1 Wd1 => ?_
    have W := Wd1
    refine ow_load (P := Tryz.prog) (T := 28) (off := 0) 0 0 W rfl rfl (by kernel_rfl) (by kernel_rfl) ?_
    exact sy_done 0 (v := .tuple #[.slice none 0 0, .bool false, J 0]) (h := d1) (by kernel_rfl) ⟨W.ext, .inl ⟨rfl, rfl⟩⟩
end Go.Proofs.YtkfbfgcflnkllaaGreatDoor
namespace Go.Proofs.YtkfbfgcflnkllaaGreatDoor
open Go Go.Eng Nim
set_option maxRecDepth 100000
set_option maxHeartbeats 8000000
theorem less_nat (lf m a b : Nat) (h : Hp) : Ev lf (m + 2) 110 [J a, J b] h = some (.bool (decide (Int.ofNat a < Int.ofNat b)), h) := by
  refine fn_eq ?_
  refine ok_go 1 ?_
  refine sy_no 0 (b := Int.ofNat a != Int.ofNat a) (by kernel_rfl) (bne_self_eq_false _) ?_
  refine ok_go 8 ?_
  exact sy_done 0 (v := .bool (decide (Int.ofNat a < Int.ofNat b))) (h := h) (by kernel_rfl) ⟨rfl, rfl⟩
theorem bs_of (lf m : Nat) (hlf : 2000 ≤ lf) (s : List Nat) (hl : s.length ≤ 1024) (hr : s.Pairwise (· < ·)) (x : Nat) (v : Value) (h : Hp) (hv : Rds h v (s.map J)) : ∃ p : Nat, Ev lf (m + 3) 85 [v, J x] h = some (.tuple #[J p, .bool (decide (x ∈ s))], h) := by
  suffices hk : ∃ w h', Ev lf (m + 3) 85 [v, J x] h = some (w, h') ∧ ∃ p : Nat, w = .tuple #[J p, .bool (decide (x ∈ s))] ∧ h' = h by
    obtain ⟨w, h', e, p, rfl, rfl⟩ := hk
    exact ⟨p, e⟩
  refine fnS_ok (Q := fun w h' => ∃ p : Nat, w = .tuple #[J p, .bool (decide (x ∈ s))] ∧ h' = h) ?_
  obtain ⟨va, vc, hvs⟩ := hv.shape
  rw [List.length_map] at hvs
  subst hvs
  refine ok_go 1 ?_
  refine sy_loop 0 lf h (α := Nat × Nat) (fun y => [(0, .slice va s.length vc), (1, J x), (6, J s.length), (7, J y.1), (8, J y.2)]) (fun y g => (y.1 ≤ y.2 ∧ y.2 ≤ s.length ∧ (∀ j (hj : j < s.length), j < y.1 → s[j] < x) ∧ ∀ j (hj : j < s.length), y.2 ≤ j → x ≤ s[j]) ∧ g = h) (fun y _ => y.2 - y.1) (0, s.length) (by kernel_rfl) (by kernel_rfl)
    ⟨by kernel_rfl, by kernel_rfl, by kernel_rfl, by kernel_rfl, by kernel_rfl, trivial⟩ (show s.length - 0 < lf by omega) ⟨⟨Nat.zero_le _, Nat.le_refl _, fun j hj h1 => absurd h1 (Nat.not_lt_zero _), fun j hj h1 => absurd h1 (by show ¬ s.length ≤ j; omega)⟩, rfl⟩ ?_
  rintro m1 ⟨lo, hi⟩ F1 g ⟨⟨h1, h2, h3, h4⟩, rfl⟩ ih
  dsimp only at h1 h2 h3 h4
  refine ok_go 1 ?_
  refine sy_test 0 (decide (Int.ofNat lo < Int.ofNat hi)) (by kernel_rfl) ?_ ?_
  · intro hlt
    have hlt : lo < hi := ok_nat hlt
    have hmid : IntKind.i64.wrap ((IntKind.u64.wrap (IntKind.i64.wrap (Int.ofNat lo + Int.ofNat hi))).fdiv (2 ^ min (Int.toNat 1) IntKind.u64.bits)) = Int.ofNat ((lo + hi) / 2) := by
      rw [wrap_nat (n := lo + hi) (by omega) |> fun h => (h : IntKind.i64.wrap (Int.ofNat lo + Int.ofNat hi) = Int.ofNat (lo + hi))]
      have h5 : IntKind.u64.wrap (Int.ofNat (lo + hi)) = Int.ofNat (lo + hi) := Int.emod_eq_of_lt (Int.natCast_nonneg _) (show ((lo + hi : Nat) : Int) < 18446744073709551616 by omega)
      have h6 : (Int.ofNat (lo + hi)).fdiv (2 ^ min (Int.toNat 1) IntKind.u64.bits) = Int.ofNat ((lo + hi) / 2) := shr_nat (lo + hi) 1
      rw [h5, h6]
      exact wrap_nat (n := (lo + hi) / 2) (by omega)
    have hm1 : lo ≤ (lo + hi) / 2 := by omega
    have hm2 : (lo + hi) / 2 < hi := by omega
    obtain ⟨p, hp1, hp2⟩ := rdN hv (k := (lo + hi) / 2) (by omega)
    rw [show J ((lo + hi) / 2) = I (IntKind.i64.wrap ((IntKind.u64.wrap (IntKind.i64.wrap (Int.ofNat lo + Int.ofNat hi))).fdiv (2 ^ min (Int.toNat 1) IntKind.u64.bits))) by rw [hmid]] at hp1
    refine ok_go 4 ?_
    refine sy_load 0 (r := indexAddrOp Tryz.prog 28 (.slice va s.length vc) (I (IntKind.i64.wrap ((IntKind.u64.wrap (IntKind.i64.wrap (Int.ofNat lo + Int.ofNat hi))).fdiv (2 ^ min (Int.toNat 1) IntKind.u64.bits))))) (h' := g) (by kernel_rfl) hp1 ?_
    refine ok_go 0 ?_
    refine sy_load 0 (r := loadT Tryz.prog g 3 p) (h' := g) (by kernel_rfl) hp2 ?_
    have e1 := less_nat lf m s[(lo + hi) / 2] x g
    generalize hsm : s[(lo + hi) / 2]'(by omega) = sm at *
    refine ok_go 0 ?_
    refine sy_call 0 (by kernel_rfl) e1 ?_
    refine ok_go 0 ?_
    by_cases hc : sm < x
    · refine sy_yes 0 (b := decide (Int.ofNat sm < Int.ofNat x)) (by kernel_rfl) (decide_eq_true (by show (sm : Int) < (x : Int); omega)) ?_
      refine ok_go 1 ?_
      have hw : IntKind.i64.wrap (IntKind.i64.wrap ((IntKind.u64.wrap (IntKind.i64.wrap (Int.ofNat lo + Int.ofNat hi))).fdiv (2 ^ min (Int.toNat 1) IntKind.u64.bits)) + 1) = Int.ofNat ((lo + hi) / 2 + 1) := by rw [hmid]; exact wrap_nat (n := (lo + hi) / 2 + 1) (by omega)
      exact sy_next 0 _ g (by kernel_rfl) (by kernel_rfl) (ih ((lo + hi) / 2 + 1, hi) _ g ⟨⟨by show (lo + hi) / 2 + 1 ≤ hi; omega, h2, fun j hj h5 => by
        rcases Nat.eq_or_lt_of_le (show j ≤ (lo + hi) / 2 by omega) with h6 | h6
        · subst h6; rw [hsm]; exact hc
        · have := List.pairwise_iff_getElem.1 hr j ((lo + hi) / 2) hj (by omega) h6; rw [hsm] at this; omega, h4⟩, rfl⟩ (show hi - ((lo + hi) / 2 + 1) < hi - lo by omega) ⟨by kernel_rfl, by kernel_rfl, by kernel_rfl, (by kernel_rfl : _ = I (IntKind.i64.wrap (IntKind.i64.wrap ((IntKind.u64.wrap (IntKind.i64.wrap (Int.ofNat lo + Int.ofNat hi))).fdiv (2 ^ min (Int.toNat 1) IntKind.u64.bits)) + 1))).trans (by rw [hw]), by kernel_rfl, trivial⟩)
    · refine sy_no 0 (b := decide (Int.ofNat sm < Int.ofNat x)) (by kernel_rfl) (decide_eq_false (by show ¬ (sm : Int) < (x : Int); omega)) ?_
      refine ok_go 0 ?_
      exact sy_next 0 _ g (by kernel_rfl) (by kernel_rfl) (ih (lo, (lo + hi) / 2) _ g ⟨⟨hm1, by show (lo + hi) / 2 ≤ s.length; omega, h3, fun j hj h5 => by
        rcases Nat.eq_or_lt_of_le h5 with h6 | h6
        · have h6 : (lo + hi) / 2 = j := h6
          subst h6; rw [hsm]; omega
        · have h6 : (lo + hi) / 2 < j := h6
          have := List.pairwise_iff_getElem.1 hr ((lo + hi) / 2) j (by omega) hj h6; rw [hsm] at this; omega⟩, rfl⟩ (show (lo + hi) / 2 - lo < hi - lo by omega) ⟨by kernel_rfl, by kernel_rfl, by kernel_rfl, by kernel_rfl, (by kernel_rfl : _ = I (IntKind.i64.wrap ((IntKind.u64.wrap (IntKind.i64.wrap (Int.ofNat lo + Int.ofNat hi))).fdiv (2 ^ min (Int.toNat 1) IntKind.u64.bits)))).trans (by rw [hmid]), trivial⟩)
  · intro hlt
    have hlt : lo = hi := Nat.le_antisymm h1 (no_nat hlt)
    subst hlt
    refine ok_go 1 ?_
    by_cases hn : lo < s.length
    · refine sy_yes 0 (b := decide (Int.ofNat lo < Int.ofNat s.length)) (by kernel_rfl) (decide_eq_true (by show (lo : Int) < (s.length : Int); omega)) ?_
      obtain ⟨p, hp1, hp2⟩ := rdN hv hn
      have hsx := h4 lo hn (Nat.le_refl _)
      have hmem : x ∈ s ↔ s[lo] = x := by
        constructor
        · intro hx
          obtain ⟨j, hj, hje⟩ := List.getElem_of_mem hx
          rcases Nat.lt_trichotomy j lo with h5 | h5 | h5
          · have := h3 j hj h5; omega
          · subst h5; exact hje
          · have := List.pairwise_iff_getElem.1 hr lo j hn hj h5; omega
        · intro hx; rw [← hx]; exact List.getElem_mem hn
      generalize s[lo] = sm at *
      refine ok_go 2 ?_
      refine sy_load 0 (r := indexAddrOp Tryz.prog 28 (.slice va s.length vc) (J lo)) (h' := g) (by kernel_rfl) hp1 ?_
      refine ok_go 1 ?_
      refine sy_load 0 (r := loadT Tryz.prog g 3 p) (h' := g) (by kernel_rfl) hp2 ?_
      refine ok_go 4 ?_
      by_cases hc : sm = x
      · refine sy_yes 0 (b := Int.ofNat sm == Int.ofNat x) (by kernel_rfl) (by rw [hc, beq_self_eq_true]) ?_
        refine ok_go 9 ?_
        exact sy_done 0 (v := .tuple #[J lo, .bool true]) (h := g) (by kernel_rfl) ⟨lo, by rw [decide_eq_true (hmem.2 hc)], rfl⟩
      · refine sy_no 0 (b := Int.ofNat sm == Int.ofNat x) (by kernel_rfl) (beq_eq_false_iff_ne.2 fun h => hc (Int.ofNat.inj h)) ?_
        refine ok_go 2 ?_
        refine sy_load 0 (r := indexAddrOp Tryz.prog 28 (.slice va s.length vc) (J lo)) (h' := g) (by kernel_rfl) hp1 ?_
        refine ok_go 1 ?_
        refine sy_load 0 (r := loadT Tryz.prog g 3 p) (h' := g) (by kernel_rfl) hp2 ?_
        refine ok_go 3 ?_
        refine sy_no 0 (b := Int.ofNat sm != Int.ofNat sm) (by kernel_rfl) (bne_self_eq_false _) ?_
        refine ok_go 6 ?_
        exact sy_done 0 (v := .tuple #[J lo, .bool false]) (h := g) (by kernel_rfl) ⟨lo, by rw [decide_eq_false fun h => hc (hmem.1 h)], rfl⟩
    · refine sy_no 0 (b := decide (Int.ofNat lo < Int.ofNat s.length)) (by kernel_rfl) (decide_eq_false (by show ¬ (lo : Int) < (s.length : Int); omega)) ?_
      have hmem : ¬ x ∈ s := fun hx => by
        obtain ⟨j, hj, hje⟩ := List.getElem_of_mem hx
        have := h3 j hj (by omega); omega
      refine ok_go 8 ?_
      exact sy_done 0 (v := .tuple #[J lo, .bool false]) (h := g) (by kernel_rfl) ⟨lo, by rw [decide_eq_false hmem], rfl⟩
end Go.Proofs.YtkfbfgcflnkllaaGreatDoor
namespace Go.Proofs.YtkfbfgcflnkllaaGreatDoor
open Go Go.Eng Nim
set_option maxRecDepth 100000
set_option maxHeartbeats 8000000
theorem isfl_ok (lf m : Nat) (hlf : 2000 ≤ lf) (n : Nat) (hn : n ≤ 10) (f : Nat → Bool) (v : Value) (s : List Nat) (hl : s.length ≤ 1024) (hne : s ≠ []) (hb : ∀ x ∈ s, x < 1024) (y : Value) (h : Hp) (hv : Rds h v ((lst f (2 ^ n)).map J)) (hwf : WfS y) (hy : Rds h y (s.map J)) (hck : Ev lf (m + 3) 57 [J n, y] h = some (J 0, h)) :
    Ev lf (m + 4) 47 [J n, v, y] h = some (.bool (decide (∀ x ∈ s, x ∈ lst f (2 ^ n)) && isF s), h) := by
  refine fn_eq ?_
  have h2n : 2 ^ n ≤ 1024 := Nat.pow_le_pow_right (by decide) hn
  have hll := lst_len f (2 ^ n)
  have e1 := chk_lst lf (m + 2) hlf n hn f v h hv
  have hbs := fun x => bs_of lf m hlf (lst f (2 ^ n)) (by omega) (lst_rise f (2 ^ n)) x v h hv
  have e3 := isflower_of lf (m + 2) hlf s hl (fun x hx => by have := hb x hx; omega) y h hwf hy
  obtain ⟨ya, yc, hys⟩ := hy.shape
  rw [List.length_map] at hys
  subst hys
  obtain ⟨va, vc, hvs⟩ := hv.shape
  rw [List.length_map] at hvs
  subst hvs
  have hpos : 0 < s.length := List.length_pos_iff.2 hne
  generalize lst f (2 ^ n) = L at *
  refine ok_go 0 ?_
  refine sy_call 0 (by kernel_rfl) e1 ?_
  refine ok_go 7 ?_
  refine sy_no 0 (b := Int.ofNat s.length == 0) (by kernel_rfl) (beq_eq_false_iff_ne.2 fun h => by have h : Int.ofNat s.length = Int.ofNat 0 := h; have := Int.ofNat.inj h; omega) ?_
  refine ok_go 2 ?_
  refine sy_call 0 (by kernel_rfl) hck ?_
  refine ok_go 5 ?_
  refine sy_loop 0 lf h (α := Nat) (fun i => [(1, .slice va L.length vc), (2, .slice ya s.length yc), (26, .slice ya s.length yc), (27, J s.length), (28, J i)]) (fun i g => (i ≤ s.length ∧ ∀ j (hj : j < s.length), j < i → s[j] ∈ L) ∧ g = h) (fun i _ => s.length - i) 0 (by kernel_rfl) (by kernel_rfl)
    ⟨by kernel_rfl, by kernel_rfl, by kernel_rfl, by kernel_rfl, by kernel_rfl, trivial⟩ (show s.length - 0 < lf by omega) ⟨⟨Nat.zero_le _, fun j _ h => absurd h (Nat.not_lt_zero _)⟩, rfl⟩ ?_
  rintro m1 i F1 g ⟨⟨hi, hall⟩, rfl⟩ ih
  have hw : IntKind.wrap .i64 (Int.ofNat (i + 1)) = Int.ofNat (i + 1) := wrap_nat (by omega)
  refine ok_go 1 ?_
  refine sy_test 0 (decide (Int.ofNat i < Int.ofNat s.length)) (by kernel_rfl) ?_ ?_
  · intro hlt
    have hlt : i < s.length := ok_nat hlt
    obtain ⟨p, hp1, hp2⟩ := rdN hy hlt
    obtain ⟨b, eb⟩ := hbs s[i]
    have hxm : s[i] ∈ s := List.getElem_mem hlt
    have hnx : s[i] ∈ L → ∀ j (hj : j < s.length), j < i + 1 → s[j] ∈ L := fun h1 j hj h2 => by
      rcases Nat.eq_or_lt_of_le (Nat.le_of_lt_succ h2) with h3 | h3
      · subst h3; exact h1
      · exact hall j hj h3
    generalize s[i] = x at *
    refine ok_go 0 ?_
    refine sy_load 0 (r := indexAddrOp Tryz.prog 28 (.slice ya s.length yc) (J i)) (h' := g) (by kernel_rfl) hp1 ?_
    refine ok_go 0 ?_
    refine sy_load 0 (r := loadT Tryz.prog g 3 p) (h' := g) (by kernel_rfl) hp2 ?_
    refine ok_go 0 ?_
    refine sy_call 0 (by kernel_rfl) eb ?_
    refine ok_go 3 ?_
    by_cases hx : x ∈ L
    · refine sy_no 0 (b := !decide (x ∈ L)) (by kernel_rfl) (by rw [decide_eq_true hx]; rfl) ?_
      refine ok_go 1 ?_
      exact sy_next 0 _ g (by kernel_rfl) (by kernel_rfl) (ih (i + 1) _ g ⟨⟨hlt, hnx hx⟩, rfl⟩ (show s.length - (i + 1) < s.length - i by omega) ⟨by kernel_rfl, by kernel_rfl, by kernel_rfl, by kernel_rfl, (by kernel_rfl : _ = I (IntKind.wrap .i64 (Int.ofNat (i + 1)))).trans (by rw [hw]), trivial⟩)
    · refine sy_yes 0 (b := !decide (x ∈ L)) (by kernel_rfl) (by rw [decide_eq_false hx]; rfl) ?_
      refine ok_go 0 ?_
      exact sy_done 0 (v := .bool false) (h := g) (by kernel_rfl) ⟨by rw [decide_eq_false fun h => hx (h x hxm)]; rfl, rfl⟩
  · intro hlt
    have hlt : i = s.length := Nat.le_antisymm hi (no_nat hlt)
    subst hlt
    have hal : ∀ x ∈ s, x ∈ L := fun x hx => by
      obtain ⟨j, hj, rfl⟩ := List.getElem_of_mem hx
      exact hall j hj hj
    refine ok_go 0 ?_
    refine sy_call 0 (by kernel_rfl) e3 ?_
    refine ok_go 0 ?_
    exact sy_done 0 (v := .bool (isF s)) (h := g) (by kernel_rfl) ⟨by rw [decide_eq_true hal, Bool.true_and], rfl⟩
end Go.Proofs.YtkfbfgcflnkllaaGreatDoor
namespace Go.Proofs.YtkfbfgcflnkllaaGreatDoor
open Go Go.Eng Nim
set_option maxRecDepth 100000
set_option maxHeartbeats 8000000
end Go.Proofs.YtkfbfgcflnkllaaGreatDoor
namespace Go.Proofs.YtkfbfgcflnkllaaGreatDoor
open Go Go.Eng Nim
set_option maxRecDepth 100000
set_option maxHeartbeats 8000000
theorem nodup_le : ∀ {l1 l2 : List Nat}, l1.Nodup → (∀ x ∈ l1, x ∈ l2) → l1.length ≤ l2.length
  | [], _, _, _ => Nat.zero_le _
  | a :: r, l2, h, hs => by
    rw [List.nodup_cons] at h
    have ha := hs a (List.mem_cons_self ..)
    have := nodup_le (l2 := l2.erase a) h.2 fun x hx => (List.mem_erase_of_ne (by intro e; subst e; exact h.1 hx)).2 (hs x (List.mem_cons_of_mem _ hx))
    rw [List.length_erase_of_mem ha] at this
    have hp : 0 < l2.length := List.length_pos_of_mem ha
    rw [List.length_cons]; omega
theorem srF_some {k : Nat} : ∀ {r s f : List Nat}, srF k r s = some f → isF s = true → f.length = k ∧ isF f = true ∧ ∃ t, t.Sublist r ∧ f = s ++ t
  | [], s, f, h, hF => by
    unfold srF at h
    split at h
    · cases h; exact ⟨by assumption, hF, [], List.Sublist.slnil, by simp⟩
    · cases h
  | x :: r, s, f, h, hF => by
    by_cases hs : s.length = k
    · rw [srF_full hs] at h; cases h
      exact ⟨hs, hF, [], List.nil_sublist _, by simp⟩
    · rw [srF_cons hs] at h
      have hskip : srF k r s = some f → f.length = k ∧ isF f = true ∧ ∃ t, t.Sublist (x :: r) ∧ f = s ++ t := fun h => by
        obtain ⟨h1, h2, t, h3, h4⟩ := srF_some h hF
        exact ⟨h1, h2, t, h3.cons x, h4⟩
      split at h
      · rename_i hF2
        cases h1 : srF k r (s ++ [x]) with
        | some f' =>
          rw [h1] at h
          cases h
          obtain ⟨h2, h3, t, h4, h5⟩ := srF_some h1 hF2
          exact ⟨h2, h3, x :: t, h4.cons_cons x, by rw [h5]; simp⟩
        | none => rw [h1] at h; exact hskip h
      · exact hskip h
end Go.Proofs.YtkfbfgcflnkllaaGreatDoor
namespace Go.Proofs.YtkfbfgcflnkllaaGreatDoor
open Go Go.Eng Nim
set_option maxRecDepth 100000
set_option maxHeartbeats 8000000
theorem rise_eq : ∀ {l1 l2 : List Nat}, l1.Pairwise (· < ·) → l2.Pairwise (· < ·) → (∀ x, x ∈ l1 ↔ x ∈ l2) → l1 = l2
  | [], [], _, _, _ => rfl
  | [], b :: q, _, _, h => absurd ((h b).2 (List.mem_cons_self ..)) (List.not_mem_nil)
  | a :: r, [], _, _, h => absurd ((h a).1 (List.mem_cons_self ..)) (List.not_mem_nil)
  | a :: r, b :: q, h1, h2, h => by
    rw [List.pairwise_cons] at h1 h2
    have hab : a = b := by
      rcases List.mem_cons.1 ((h a).1 (List.mem_cons_self ..)) with h3 | h3
      · exact h3
      · rcases List.mem_cons.1 ((h b).2 (List.mem_cons_self ..)) with h4 | h4
        · exact h4.symm
        · have := h1.1 b h4; have := h2.1 a h3; omega
    subst hab
    rw [rise_eq h1.2 h2.2 fun x => ?_]
    constructor
    · intro hx
      rcases List.mem_cons.1 ((h x).1 (List.mem_cons_of_mem _ hx)) with h3 | h3
      · subst h3; exact absurd (h1.1 _ hx) (Nat.lt_irrefl _)
      · exact h3
    · intro hx
      rcases List.mem_cons.1 ((h x).2 (List.mem_cons_of_mem _ hx)) with h3 | h3
      · subst h3; exact absurd (h2.1 _ hx) (Nat.lt_irrefl _)
      · exact h3
theorem rise_lst {s : List Nat} {N : Nat} (hr : s.Pairwise (· < ·)) (hb : ∀ x ∈ s, x < N) : lst (fun j => decide (j ∈ s)) N = s :=
  rise_eq (lst_rise _ _) hr fun x => by
    rw [lst_mem, decide_eq_true_eq]
    exact ⟨fun h => h.2, fun h => ⟨hb x h, h⟩⟩
end Go.Proofs.YtkfbfgcflnkllaaGreatDoor
namespace Go.Proofs.YtkfbfgcflnkllaaGreatDoor
open Go Go.Eng Nim
set_option maxRecDepth 100000
set_option maxHeartbeats 8000000
theorem wf_osl (q n : Nat) : WfS (oslV q n) := by
  cases n with
  | zero => exact ⟨rfl, rfl⟩
  | succ k => exact .inl ⟨rfl, by omega⟩
theorem risfl_ok (lf m : Nat) (hlf : 2000 ≤ lf) (n : Nat) (hn : n ≤ 10) (L : List Nat) (hLl : L.length ≤ 1024) (hLb : ∀ x ∈ L, x < 2 ^ n) (v : Value) (s : List Nat) (hl : s.length ≤ 1024) (hne : s ≠ []) (hb : ∀ x ∈ s, x < 2 ^ n) (y : Value) (h : Hp) (hv : Rds h v (L.map J)) (hy : Rds h y (s.map J)) (hc1 : Ev lf (m + 3) 54 [J n, v] h = some (J 0, h)) (hck : Ev lf (m + 3) 54 [J n, y] h = some (J 0, h)) :
    ∃ w h', Ev lf (m + 4) 45 [J n, v, y] h = some (w, h') ∧ w = .bool (decide (∀ x ∈ s, x ∈ L) && isF s) ∧ h.Ext h' := by
  refine fnS_ok (Q := fun w h' => w = .bool (decide (∀ x ∈ s, x ∈ L) && isF s) ∧ h.Ext h') ?_
  have h2n : 2 ^ n ≤ 1024 := Nat.pow_le_pow_right (by decide) hn
  obtain ⟨_, g1, e3, b, rfl, W⟩ := rmarks_of lf (m + 2) hlf n hn L hLl hLb v h hv
  have hyg := hy
  obtain ⟨ya, yc, hys⟩ := hy.shape
  rw [List.length_map] at hys
  subst hys
  obtain ⟨va, vc, hvs⟩ := hv.shape
  rw [List.length_map] at hvs
  subst hvs
  have hpos : 0 < s.length := List.length_pos_iff.2 hne
  have hgd : ∀ {k : Nat} (hk : k < s.length), s.getD k 0 = s[k] := fun hk => by
    rw [List.getD_eq_getElem?_getD, List.getElem?_eq_getElem hk]; rfl
  have hbd : ∀ k, s.getD k 0 < 2 ^ 62 := fun k => by
    rcases Nat.lt_or_ge k s.length with hk | hk
    · rw [hgd hk]; have := hb _ (List.getElem_mem hk); omega
    · rw [List.getD_eq_getElem?_getD, List.getElem?_eq_none hk]; decide
  refine ok_go 0 ?_
  refine sy_call 0 (by kernel_rfl) hc1 ?_
  refine ok_go 4 ?_
  refine sy_call 0 (by kernel_rfl) hck ?_
  refine ok_go 9 ?_
  refine sy_no 0 (b := Int.ofNat s.length == 0) (by kernel_rfl) (beq_eq_false_iff_ne.2 fun h => by have h : Int.ofNat s.length = Int.ofNat 0 := h; have := Int.ofNat.inj h; omega) ?_
  refine ok_go 0 ?_
  refine sy_call 0 (by kernel_rfl) e3 ?_
  refine ok_go 0 ?_
  have R := hy.ext W.ext
  have X := W.ext
  have hgb : g1.get b = some (.cells (cellsF (2 ^ n) fun k => .bool (decide (k ∈ L))) 4 false) := W.get 0 rfl
  refine sy_loop 0 lf g1 (α := Nat) (fun i => [(2, .slice ya s.length yc), (7, .slice (some ⟨b, 0, none⟩) (2 ^ n) (2 * 2 ^ n)), (8, J i)]) (fun i g => (i ≤ s.length ∧ flR s i = true ∧ ∀ j (hj : j < s.length), j < i → s[j] ∈ L) ∧ g = g1) (fun i _ => s.length - i) 0 (by kernel_rfl) (by kernel_rfl)
    ⟨by kernel_rfl, by kernel_rfl, by kernel_rfl, trivial⟩ (show s.length - 0 < lf by omega) ⟨⟨Nat.zero_le _, rfl, fun j _ h => absurd h (Nat.not_lt_zero _)⟩, rfl⟩ ?_
  rintro m1 i F1 g ⟨⟨hi, hR, hall⟩, rfl⟩ ih
  have hw : IntKind.wrap .i64 (Int.ofNat (i + 1)) = Int.ofNat (i + 1) := wrap_nat (by omega)
  refine ok_go 2 ?_
  refine sy_test 0 (decide (Int.ofNat i < Int.ofNat s.length)) (by kernel_rfl) ?_ ?_
  · intro hlt
    have hlt : i < s.length := ok_nat hlt
    obtain ⟨p, hp1, hp2⟩ := rdN R hlt
    have hxm : s[i] ∈ s := List.getElem_mem hlt
    have hxb := hb _ hxm
    have hnx : s[i] ∈ L → ∀ j (hj : j < s.length), j < i + 1 → s[j] ∈ L := fun h1 j hj h2 => by
      rcases Nat.eq_or_lt_of_le (Nat.le_of_lt_succ h2) with h3 | h3
      · subst h3; exact h1
      · exact hall j hj h3
    rw [← hgd hlt] at hp2 hxm hxb hnx
    have hRs := flR_succ s i
    rw [hR, Bool.true_and] at hRs
    refine ok_go 0 ?_
    refine sy_load 0 (r := indexAddrOp Tryz.prog 28 (.slice ya s.length yc) (J i)) (h' := g) (by kernel_rfl) hp1 ?_
    refine ok_go 0 ?_
    refine sy_load 0 (r := loadT Tryz.prog g 3 p) (h' := g) (by kernel_rfl) hp2 ?_
    refine ok_go 0 ?_
    refine sy_load 0 (r := indexAddrOp Tryz.prog 37 (.slice (some ⟨b, 0, none⟩) (2 ^ n) (2 * 2 ^ n)) (J (s.getD i 0))) (h' := g) (v := ptr b (s.getD i 0)) (by kernel_rfl) (idxS0 (e := 4) (by kernel_rfl) zB hxb) ?_
    refine ok_go 0 ?_
    refine sy_load 0 (r := loadT Tryz.prog g 4 (ptr b (s.getD i 0))) (h' := g) (v := .bool (decide (s.getD i 0 ∈ L))) (by kernel_rfl) (load1 agB hgb (cellsF_get hxb)) ?_
    refine ok_go 1 ?_
    by_cases hx : s.getD i 0 ∈ L
    · refine sy_no 0 (b := !decide (s.getD i 0 ∈ L)) (by kernel_rfl) (by rw [decide_eq_true hx]; rfl) ?_
      refine ok_go 0 ?_
      refine sy_loop 0 lf g (α := Nat) (fun j => [(2, .slice ya s.length yc), (7, .slice (some ⟨b, 0, none⟩) (2 ^ n) (2 * 2 ^ n)), (8, J i), (9, J j)]) (fun j g' => (j ≤ i ∧ flP s i j = true) ∧ g' = g) (fun j _ => i - j) 0 (by kernel_rfl) (by kernel_rfl)
        ⟨by kernel_rfl, by kernel_rfl, by kernel_rfl, by kernel_rfl, trivial⟩ (show i - 0 < lf by omega) ⟨⟨Nat.zero_le _, rfl⟩, rfl⟩ ?_
      rintro m2 j F2 g ⟨⟨hj, hP⟩, rfl⟩ ih2
      have hwj : IntKind.wrap .i64 (Int.ofNat (j + 1)) = Int.ofNat (j + 1) := wrap_nat (by omega)
      refine ok_go 1 ?_
      refine sy_test 0 (decide (Int.ofNat j < Int.ofNat i)) (by kernel_rfl) ?_ ?_
      · intro hlj
        have hlj : j < i := ok_nat hlj
        obtain ⟨p2, h21, h22⟩ := rdN R (k := j) (by omega)
        rw [← hgd (show j < s.length by omega)] at h22
        obtain ⟨p3, h31, h32⟩ := rdN R (k := 0) (by omega)
        rw [← hgd (show 0 < s.length by omega)] at h32
        obtain ⟨p4, h41, h42⟩ := rdN R (k := 1) (by omega)
        rw [← hgd (show 1 < s.length by omega)] at h42
        have hPs := flP_succ s i j
        rw [hP, Bool.true_and] at hPs
        have b0 := hbd i
        have b1 := hbd j
        have b2 := hbd 0
        have b3 := hbd 1
        generalize hsi : s.getD i 0 = si at *
        generalize s.getD j 0 = sj at *
        generalize s.getD 0 0 = s0 at *
        generalize s.getD 1 0 = s1 at *
        refine ok_go 0 ?_
        refine sy_load 0 (r := indexAddrOp Tryz.prog 28 (.slice ya s.length yc) (J i)) (h' := g) (by kernel_rfl) hp1 ?_
        refine ok_go 0 ?_
        refine sy_load 0 (r := loadT Tryz.prog g 3 p) (h' := g) (by kernel_rfl) hp2 ?_
        refine ok_go 0 ?_
        refine sy_load 0 (r := indexAddrOp Tryz.prog 28 (.slice ya s.length yc) (J j)) (h' := g) (by kernel_rfl) h21 ?_
        refine ok_go 0 ?_
        refine sy_load 0 (r := loadT Tryz.prog g 3 p2) (h' := g) (by kernel_rfl) h22 ?_
        refine ok_go 1 ?_
        refine sy_load 0 (r := indexAddrOp Tryz.prog 28 (.slice ya s.length yc) (J 0)) (h' := g) (by kernel_rfl) h31 ?_
        refine ok_go 0 ?_
        refine sy_load 0 (r := loadT Tryz.prog g 3 p3) (h' := g) (by kernel_rfl) h32 ?_
        refine ok_go 0 ?_
        refine sy_load 0 (r := indexAddrOp Tryz.prog 28 (.slice ya s.length yc) (J 1)) (h' := g) (by kernel_rfl) h41 ?_
        refine ok_go 0 ?_
        refine sy_load 0 (r := loadT Tryz.prog g 3 p4) (h' := g) (by kernel_rfl) h42 ?_
        refine ok_go 2 ?_
        have hb2 : (andI (Int.ofNat si) (Int.ofNat sj) != andI (Int.ofNat s0) (Int.ofNat s1)) = !Nat.beq (si &&& sj) (s0 &&& s1) := by
          rw [and_nat (by omega), and_nat (by omega)]
          cases hc : Nat.beq (si &&& sj) (s0 &&& s1) with
          | true => rw [Nat.eq_of_beq_eq_true hc]; simp
          | false =>
            have : si &&& sj ≠ s0 &&& s1 := fun e => by rw [e, Nat.beq_refl] at hc; cases hc
            exact bne_iff_ne.2 fun e => this (Int.ofNat.inj e)
        cases hc : Nat.beq (si &&& sj) (s0 &&& s1) with
        | true =>
          rw [hc] at hb2 hPs
          refine sy_no 0 (b := andI (Int.ofNat si) (Int.ofNat sj) != andI (Int.ofNat s0) (Int.ofNat s1)) (by kernel_rfl) hb2 ?_
          refine ok_go 1 ?_
          exact sy_next 0 _ g (by kernel_rfl) (by kernel_rfl) (ih2 (j + 1) _ g ⟨⟨hlj, hPs⟩, rfl⟩ (show i - (j + 1) < i - j by omega) ⟨by kernel_rfl, by kernel_rfl, by kernel_rfl, (by kernel_rfl : _ = I (IntKind.wrap .i64 (Int.ofNat (j + 1)))).trans (by rw [hwj]), trivial⟩)
        | false =>
          rw [hc] at hb2 hPs
          have hF : isF s = false := flR_false (i := i + 1) (by rw [hRs]; exact flP_false hPs hlj) hlt
          refine sy_yes 0 (b := andI (Int.ofNat si) (Int.ofNat sj) != andI (Int.ofNat s0) (Int.ofNat s1)) (by kernel_rfl) hb2 ?_
          refine ok_go 0 ?_
          exact sy_done 0 (v := .bool false) (h := g) (by kernel_rfl) ⟨by rw [hF, Bool.and_false], X⟩
      · intro hlj
        have hlj : j = i := Nat.le_antisymm hj (no_nat hlj)
        subst hlj
        refine ok_go 1 ?_
        exact sy_next 0 _ g (by kernel_rfl) (by kernel_rfl) (ih (j + 1) _ g ⟨⟨hlt, by rw [hRs]; exact hP, hnx hx⟩, rfl⟩ (show s.length - (j + 1) < s.length - j by omega) ⟨by kernel_rfl, by kernel_rfl, (by kernel_rfl : _ = I (IntKind.wrap .i64 (Int.ofNat (j + 1)))).trans (by rw [hw]), trivial⟩)
    · refine sy_yes 0 (b := !decide (s.getD i 0 ∈ L)) (by kernel_rfl) (by rw [decide_eq_false hx]; rfl) ?_
      refine ok_go 0 ?_
      exact sy_done 0 (v := .bool false) (h := g) (by kernel_rfl) ⟨by rw [decide_eq_false fun h => hx (h _ hxm)]; rfl, X⟩
  · intro hlt
    have hlt : i = s.length := Nat.le_antisymm hi (no_nat hlt)
    subst hlt
    have hal : ∀ x ∈ s, x ∈ L := fun x hx => by
      obtain ⟨j, hj, rfl⟩ := List.getElem_of_mem hx
      exact hall j hj hj
    have hR : isF s = true := hR
    refine ok_go 0 ?_
    exact sy_done 0 (v := .bool true) (h := g) (by kernel_rfl) ⟨by rw [decide_eq_true hal, hR]; rfl, X⟩
end Go.Proofs.YtkfbfgcflnkllaaGreatDoor
namespace Go.Proofs.YtkfbfgcflnkllaaGreatDoor
open Go Go.Eng Nim
set_option maxRecDepth 100000
set_option maxHeartbeats 8000000
theorem good_nat {N : Nat} {zs : List Int} (h : GoodTo N zs zs.length) : ∃ s : List Nat, zs = s.map Int.ofNat ∧ s.Pairwise (· < ·) ∧ ∀ x ∈ s, x < 2 ^ N := by
  have hp2 : (2 : Int) ^ N = Int.ofNat (2 ^ N) := by simp
  have hgd : ∀ {k : Nat} (hk : k < zs.length), zs.getD k 0 = zs[k] := fun hk => by
    rw [List.getD_eq_getElem?_getD, List.getElem?_eq_getElem hk]; rfl
  have h1 : ∀ i (hi : i < zs.length), lastI zs i < zs[i] ∧ zs[i] < 2 ^ N := fun i hi => by
    have := h i hi
    unfold badAt at this
    rw [hgd hi] at this
    exact ⟨Int.not_le.1 fun h => this (.inl h), Int.not_le.1 fun h => this (.inr h)⟩
  have h0 : ∀ i (hi : i < zs.length), 0 ≤ zs[i] := fun i => by
    induction i with
    | zero => intro hi; have := (h1 0 hi).1; unfold lastI at this; rw [if_pos rfl] at this; omega
    | succ i ih =>
      intro hi
      have := (h1 (i + 1) hi).1
      unfold lastI at this
      rw [if_neg (by omega), Nat.add_sub_cancel, hgd (show i < zs.length by omega)] at this
      have := ih (by omega)
      omega
  have hst : ∀ i d (hi : i + d + 1 < zs.length), zs[i] < zs[i + d + 1] := fun i d => by
    induction d with
    | zero =>
      intro hi
      have := (h1 (i + 1) hi).1
      unfold lastI at this
      rw [if_neg (by omega), Nat.add_sub_cancel, hgd (show i < zs.length by omega)] at this
      exact this
    | succ d ih =>
      intro hi
      have h2 := ih (by omega)
      have := (h1 (i + d + 1 + 1) hi).1
      unfold lastI at this
      rw [if_neg (by omega), Nat.add_sub_cancel, hgd (show i + d + 1 < zs.length by omega)] at this
      exact Int.lt_trans h2 this
  refine ⟨zs.map Int.toNat, ?_, ?_, ?_⟩
  · rw [List.map_map]
    refine (List.map_congr_left (g := id) fun z hz => ?_).symm.symm.trans ?_ |>.symm
    · obtain ⟨i, hi, rfl⟩ := List.getElem_of_mem hz
      exact Int.toNat_of_nonneg (h0 i hi)
    · exact List.map_id _
  · rw [List.pairwise_map, List.pairwise_iff_getElem]
    intro i j hi hj hij
    obtain ⟨d, rfl⟩ : ∃ d, j = i + d + 1 := ⟨j - i - 1, by omega⟩
    have h2 := hst i d hj
    have h3 := h0 i hi
    omega
  · intro x hx
    obtain ⟨z, hz, rfl⟩ := List.mem_map.1 hx
    obtain ⟨i, hi, rfl⟩ := List.getElem_of_mem hz
    have h2 := (h1 i hi).2
    have h3 := h0 i hi
    rw [hp2] at h2
    have h2 : zs[i] < ((2 ^ N : Nat) : Int) := h2
    omega
theorem isfl_nil (lf m : Nat) (n : Nat) (va : Option Addr) (vn vc : Nat) (ya : Option Addr) (yc : Nat) (h : Hp) (h1 : Ev lf (m + 3) 57 [J n, .slice va vn vc] h = some (J 0, h)) : Ev lf (m + 4) 47 [J n, .slice va vn vc, .slice ya 0 yc] h = some (.bool false, h) := by
  refine fn_eq ?_
  refine ok_go 0 ?_
  refine sy_call 0 (by kernel_rfl) h1 ?_
  refine ok_go 13 ?_
  exact sy_done 0 (v := .bool false) (h := h) (by kernel_rfl) ⟨rfl, rfl⟩
theorem isfl_bad (lf m : Nat) (n : Nat) (va : Option Addr) (vn vc : Nat) (ya : Option Addr) (yn yc e : Nat) (hyn : yn ≠ 0) (he : e ≠ 0) (h : Hp) (h1 : Ev lf (m + 3) 57 [J n, .slice va vn vc] h = some (J 0, h)) (h2 : Ev lf (m + 3) 57 [J n, .slice ya yn yc] h = some (J e, h)) : Ev lf (m + 4) 47 [J n, .slice va vn vc, .slice ya yn yc] h = some (.bool false, h) := by
  refine fn_eq ?_
  refine ok_go 0 ?_
  refine sy_call 0 (by kernel_rfl) h1 ?_
  refine ok_go 7 ?_
  refine sy_no 0 (b := Int.ofNat yn == 0) (by kernel_rfl) (beq_eq_false_iff_ne.2 fun h => hyn (Int.ofNat.inj (h : Int.ofNat yn = Int.ofNat 0))) ?_
  refine ok_go 2 ?_
  refine sy_call 0 (by kernel_rfl) h2 ?_
  refine ok_go 3 ?_
  refine sy_yes 0 (b := Int.ofNat e != 0) (by kernel_rfl) (bne_iff_ne.2 fun h => he (Int.ofNat.inj (h : Int.ofNat e = Int.ofNat 0))) ?_
  refine ok_go 0 ?_
  exact sy_done 0 (v := .bool false) (h := h) (by kernel_rfl) ⟨rfl, rfl⟩
theorem risfl_nil (lf m : Nat) (n : Nat) (va : Option Addr) (vn vc : Nat) (ya : Option Addr) (yc : Nat) (h : Hp) (h1 : Ev lf (m + 3) 54 [J n, .slice va vn vc] h = some (J 0, h)) (h2 : Ev lf (m + 3) 54 [J n, .slice ya 0 yc] h = some (J 0, h)) : Ev lf (m + 4) 45 [J n, .slice va vn vc, .slice ya 0 yc] h = some (.bool false, h) := by
  refine fn_eq ?_
  refine ok_go 0 ?_
  refine sy_call 0 (by kernel_rfl) h1 ?_
  refine ok_go 4 ?_
  refine sy_call 0 (by kernel_rfl) h2 ?_
  refine ok_go 10 ?_
  exact sy_done 0 (v := .bool false) (h := h) (by kernel_rfl) ⟨rfl, rfl⟩
theorem risfl_bad (lf m : Nat) (n : Nat) (va : Option Addr) (vn vc : Nat) (ya : Option Addr) (yn yc e : Nat) (he : e ≠ 0) (h : Hp) (h1 : Ev lf (m + 3) 54 [J n, .slice va vn vc] h = some (J 0, h)) (h2 : Ev lf (m + 3) 54 [J n, .slice ya yn yc] h = some (J e, h)) : Ev lf (m + 4) 45 [J n, .slice va vn vc, .slice ya yn yc] h = some (.bool false, h) := by
  refine fn_eq ?_
  refine ok_go 0 ?_
  refine sy_call 0 (by kernel_rfl) h1 ?_
  refine ok_go 4 ?_
  refine sy_call 0 (by kernel_rfl) h2 ?_
  refine ok_go 3 ?_
  refine sy_yes 0 (b := Int.ofNat e != 0) (by kernel_rfl) (bne_iff_ne.2 fun h => he (Int.ofNat.inj (h : Int.ofNat e = Int.ofNat 0))) ?_
  refine ok_go 4 ?_
  exact sy_done 0 (v := .bool false) (h := h) (by kernel_rfl) ⟨rfl, rfl⟩
theorem fam_nat {n : Nat} (hn : n ≤ 10) {s : List Nat} (hr : s.Pairwise (· < ·)) (hb : ∀ x ∈ s, x < 2 ^ n) : FamR (Int.ofNat n) (s.map Int.ofNat) 0 := by
  refine .inr ⟨n, rfl, hn, .inr ⟨rfl, ?_⟩⟩
  intro i hi hbad
  rw [List.length_map] at hi
  have hget : ∀ k (hk : k < s.length), (s.map Int.ofNat).getD k 0 = Int.ofNat s[k] := fun k hk => by
    rw [List.getD_eq_getElem?_getD, List.getElem?_map, List.getElem?_eq_getElem hk]
    rfl
  have hlt := hb _ (List.getElem_mem hi)
  have hp2 : (2 : Int) ^ n = Int.ofNat (2 ^ n) := by simp
  rcases hbad with hb | hb
  · rw [hget i hi] at hb
    unfold lastI at hb
    split at hb
    · have : Int.ofNat s[i] ≥ 0 := Int.natCast_nonneg _
      omega
    · have hr := List.pairwise_iff_getElem.1 hr (i - 1) i (by omega) hi (by omega)
      rw [hget (i - 1) (by omega)] at hb
      have : s[i] ≤ s[i - 1] := Int.ofNat_le.1 hb
      omega
  · rw [hget i hi, hp2] at hb
    have : 2 ^ n ≤ s[i] := Int.ofNat_le.1 hb
    omega
theorem rchk_nat (lf m : Nat) (hlf : 2000 ≤ lf) (n : Nat) (hn : n ≤ 10) (s : List Nat) (hl : s.length ≤ 1024) (hr : s.Pairwise (· < ·)) (hb : ∀ x ∈ s, x < 2 ^ n) (v : Value) (h : Hp) (hv : Rds h v (s.map J)) : Ev lf (m + 1) 54 [J n, v] h = some (J 0, h) := by
  obtain ⟨e, he, e1⟩ := rchk_of lf m (Int.ofNat n) (s.map Int.ofNat) (by rw [List.length_map]; omega) (by rw [List.length_map]; omega) v h (by rw [List.map_map]; exact hv)
  rw [he.uniq (fam_nat hn hr hb)] at e1
  exact e1
/-- Both say the same of any numbers. -/
theorem both_isfl (lf m : Nat) (hlf : 2000 ≤ lf) (n : Nat) (hn : n ≤ 10) (L : List Nat) (hLr : L.Pairwise (· < ·)) (hLb : ∀ x ∈ L, x < 2 ^ n) (hLl : L.length ≤ 1024) (v : Value) (zs : List Int) (hz : zs.length ≤ 1000) (y : Value) (h : Hp) (hv : Rds h v (L.map J)) (hwf : WfS y) (hy : Rds h y (zs.map I)) :
    ∃ b, Ev lf (m + 4) 47 [J n, v, y] h = some (.bool b, h) ∧ ∃ w h', Ev lf (m + 4) 45 [J n, v, y] h = some (w, h') ∧ w = .bool b ∧ h.Ext h' := by
  have hLe : lst (fun j => decide (j ∈ L)) (2 ^ n) = L := rise_lst hLr hLb
  have c1 := chk_lst lf (m + 2) hlf n hn (fun j => decide (j ∈ L)) v h (by rw [hLe]; exact hv)
  have c2 := rchk_nat lf (m + 2) hlf n hn L hLl hLr hLb v h hv
  obtain ⟨e, he, d1⟩ := chk_of lf (m + 2) (Int.ofNat n) zs (by omega) (by omega) y h hy
  obtain ⟨e', he', d2⟩ := rchk_of lf (m + 2) (Int.ofNat n) zs (by omega) (by omega) y h hy
  rw [he'.uniq he] at d2
  by_cases h0 : e = 0
  · subst h0
    obtain ⟨N, hN, _, h2⟩ : ∃ N : Nat, Int.ofNat n = Int.ofNat N ∧ N ≤ 10 ∧ GoodTo N zs zs.length := by
      rcases he with ⟨_, h3⟩ | ⟨N, h4, h5, ⟨h6, _⟩ | ⟨_, h6⟩⟩
      · cases h3
      · cases h6
      · exact ⟨N, h4, h5, h6⟩
    obtain rfl : n = N := Int.ofNat.inj hN
    obtain ⟨s, rfl, hr, hb⟩ := good_nat h2
    rw [List.length_map] at hz
    have hy : Rds h y (s.map J) := by rw [List.map_map] at hy; exact hy
    by_cases hs : s = []
    · subst hs
      obtain ⟨va, vc, hvs⟩ := hv.shape
      obtain ⟨ya, yc, hys⟩ := hy.shape
      subst hvs
      subst hys
      exact ⟨false, isfl_nil lf m n va _ vc ya yc h c1, _, h, risfl_nil lf m n va _ vc ya yc h c2 d2, rfl, Hp.Ext.refl _⟩
    · have h2n : 2 ^ n ≤ 1024 := Nat.pow_le_pow_right (by decide) hn
      have a1 := isfl_ok lf m hlf n hn (fun j => decide (j ∈ L)) v s (by omega) hs (fun x hx => by have := hb x hx; omega) y h (by rw [hLe]; exact hv) hwf hy d1
      rw [hLe] at a1
      exact ⟨_, a1, risfl_ok lf m hlf n hn L hLl hLb v s (by omega) hs hb y h hv hy c2 d2⟩
  · obtain ⟨va, vc, hvs⟩ := hv.shape
    obtain ⟨ya, yc, hys⟩ := hy.shape
    subst hvs
    subst hys
    have hne : (zs.map I).length ≠ 0 := fun h1 => h0 (by
      have h3 : zs = [] := by rw [List.length_map] at h1; exact List.length_eq_zero_iff.1 h1
      subst h3
      exact he.uniq (fam_nat hn (s := []) List.Pairwise.nil fun x hx => absurd hx (List.not_mem_nil)))
    exact ⟨false, isfl_bad lf m n va _ vc ya _ yc e hne h0 h c1 d1, _, h, risfl_bad lf m n va _ vc ya _ yc e h0 h c2 d2, rfl, Hp.Ext.refl _⟩
end Go.Proofs.YtkfbfgcflnkllaaGreatDoor
namespace Go.Proofs.YtkfbfgcflnkllaaGreatDoor
open Go Go.Eng Nim
set_option maxRecDepth 100000
set_option maxHeartbeats 8000000
def oF (k : Nat) (r s : List Nat) : Option (List Nat) := if isF s then srF k r s else none
theorem lst_rds {h H : Hp} {q : Nat} {vs : List Value} (W : Sto h H (oent q 3 vs)) : Rds H (oslV q vs.length) vs := osl_rd fun p hp => W.hold p hp
theorem rflw_rec (lf m : Nat) (hlf : 2000 ≤ lf) (n : Nat) (hn : n ≤ 10) (L : List Nat) (hLr : L.Pairwise (· < ·)) (hLb : ∀ x ∈ L, x < 2 ^ n) (hLl : L.length ≤ 60) (va : Option Addr) (vc k : Nat) (hk : k ≤ 5) :
    ∀ (j : Nat) (s : List Nat) (fr : Nat) (y : Value) (h : Hp), s.length + j = k → fr ≤ L.length → s.Sublist (L.take fr) → Rds h (.slice va L.length vc) (L.map J) → Rds h y (s.map J) →
      ∃ w h', Ev lf (m + j + 5) 84 [J n, .slice va L.length vc, J k, y, J fr] h = some (w, h') ∧ h.Ext h' ∧ ((oF k (L.drop fr) s = none ∧ w = .tuple #[.slice none 0 0, .bool false]) ∨ ∃ fl u, oF k (L.drop fr) s = some fl ∧ w = .tuple #[u, .bool true] ∧ Rds h' u (fl.map J)) := by
  have h2n : 2 ^ n ≤ 1024 := Nat.pow_le_pow_right (by decide) hn
  intro j
  induction j with
  | zero =>
    intro s fr y h hj hfr hsub hv hy
    have hsk : s.length = k := by omega
    refine fnS_ok (Q := fun w h' => h.Ext h' ∧ ((oF k (L.drop fr) s = none ∧ w = .tuple #[.slice none 0 0, .bool false]) ∨ ∃ fl u, oF k (L.drop fr) s = some fl ∧ w = .tuple #[u, .bool true] ∧ Rds h' u (fl.map J))) ?_
    have hsL : s.Sublist L := hsub.trans (List.take_sublist ..)
    have hsr := hLr.sublist hsL
    have hsb : ∀ x ∈ s, x < 2 ^ n := fun x hx => hLb x (hsL.subset hx)
    have e4 : s ≠ [] → ∃ w h', Ev lf (m + 4) 45 [J n, .slice va L.length vc, y] h = some (w, h') ∧ w = .bool (isF s) ∧ h.Ext h' := fun hne => by
      have := risfl_ok lf m hlf n hn L (by omega) hLb (.slice va L.length vc) s (by omega) hne hsb y h hv hy (rchk_nat lf (m + 2) hlf n hn L (by omega) hLr hLb _ h hv) (rchk_nat lf (m + 2) hlf n hn s (by omega) hsr hsb _ h hy)
      rw [decide_eq_true fun x hx => hsL.subset hx, Bool.true_and] at this
      exact this
    have hys := hy
    obtain ⟨ya, yc, hye⟩ := hy.shape
    rw [List.length_map] at hye
    subst hye
    refine ok_go 2 ?_
    by_cases h0 : s.length = 0
    · have hnil : s = [] := List.length_eq_zero_iff.1 h0
      refine sy_no 0 (b := decide (Int.ofNat s.length > 0)) (by kernel_rfl) (decide_eq_false (by show ¬ (0 : Int) < (s.length : Int); omega)) ?_
      refine ok_go 8 ?_
      refine sy_yes 0 (b := Int.ofNat s.length == Int.ofNat k) (by kernel_rfl) (by rw [hsk, beq_self_eq_true]) ?_
      refine ok_go 0 ?_
      exact sy_done 0 (v := .tuple #[.slice ya s.length yc, .bool true]) (h := h) (by kernel_rfl) ⟨Hp.Ext.refl _, .inr ⟨s, _, by unfold oF; rw [srF_full hsk, hnil]; rfl, rfl, hys⟩⟩
    · obtain ⟨_, h1, e5, rfl, X⟩ := e4 fun h => h0 (by rw [h]; rfl)
      refine sy_yes 0 (b := decide (Int.ofNat s.length > 0)) (by kernel_rfl) (decide_eq_true (by show (0 : Int) < (s.length : Int); omega)) ?_
      refine ok_go 3 ?_
      refine sy_call 0 (by kernel_rfl) e5 ?_
      refine ok_go 3 ?_
      by_cases hF : isF s = true
      · refine sy_no 0 (b := !isF s) (by kernel_rfl) (by rw [hF]; rfl) ?_
        refine ok_go 2 ?_
        refine sy_yes 0 (b := Int.ofNat s.length == Int.ofNat k) (by kernel_rfl) (by rw [hsk, beq_self_eq_true]) ?_
        refine ok_go 0 ?_
        exact sy_done 0 (v := .tuple #[.slice ya s.length yc, .bool true]) (h := h1) (by kernel_rfl) ⟨X, .inr ⟨s, _, by unfold oF; rw [srF_full hsk, if_pos hF], rfl, hys.ext X⟩⟩
      · refine sy_yes 0 (b := !isF s) (by kernel_rfl) (by rw [Bool.eq_false_iff.2 hF]; rfl) ?_
        refine ok_go 0 ?_
        exact sy_done 0 (v := .tuple #[.slice none 0 0, .bool false]) (h := h1) (by kernel_rfl) ⟨X, .inl ⟨by unfold oF; rw [if_neg hF], rfl⟩⟩
  | succ j ih0 =>
    intro s fr y h hj hfr hsub hv hy
    have hsk : s.length ≠ k := by omega
    refine fnS_ok (Q := fun w h' => h.Ext h' ∧ ((oF k (L.drop fr) s = none ∧ w = .tuple #[.slice none 0 0, .bool false]) ∨ ∃ fl u, oF k (L.drop fr) s = some fl ∧ w = .tuple #[u, .bool true] ∧ Rds h' u (fl.map J))) ?_
    have hsL : s.Sublist L := hsub.trans (List.take_sublist ..)
    have hsr := hLr.sublist hsL
    have hsb : ∀ x ∈ s, x < 2 ^ n := fun x hx => hLb x (hsL.subset hx)
    have e4 : s ≠ [] → ∃ w h', Ev lf (m + j + 1 + 4) 45 [J n, .slice va L.length vc, y] h = some (w, h') ∧ w = .bool (isF s) ∧ h.Ext h' := fun hne => by
      have := risfl_ok lf (m + j + 1) hlf n hn L (by omega) hLb (.slice va L.length vc) s (by omega) hne hsb y h hv hy (rchk_nat lf (m + j + 1 + 2) hlf n hn L (by omega) hLr hLb _ h hv) (rchk_nat lf (m + j + 1 + 2) hlf n hn s (by omega) hsr hsb _ h hy)
      rw [decide_eq_true fun x hx => hsL.subset hx, Bool.true_and] at this
      exact this
    obtain ⟨ya, yc, hye⟩ := hy.shape
    rw [List.length_map] at hye
    subst hye
    refine ok_go 2 ?_
    by_cases h0 : s.length = 0
    · have hnil : s = [] := List.length_eq_zero_iff.1 h0
      have hF : isF s = true := by rw [hnil]; rfl
      refine sy_no 0 (b := decide (Int.ofNat s.length > 0)) (by kernel_rfl) (decide_eq_false (by show ¬ (0 : Int) < (s.length : Int); omega)) ?_
      refine ok_go 8 ?_
      refine sy_no 0 (b := Int.ofNat s.length == Int.ofNat k) (by kernel_rfl) (beq_eq_false_iff_ne.2 fun h => hsk (Int.ofNat.inj h)) ?_
      refine ok_go 0 ?_
      refine sy_loop 0 lf h (α := Nat) (fun i => [(0, J n), (1, .slice va L.length vc), (2, J k), (3, .slice ya s.length yc), (12, J i)]) (fun i g => (i ≤ L.length ∧ s.Sublist (L.take i) ∧ srF k (L.drop i) s = srF k (L.drop fr) s) ∧ h.Ext g) (fun i _ => L.length - i) fr (by kernel_rfl) (by kernel_rfl)
        ⟨by kernel_rfl, by kernel_rfl, by kernel_rfl, by kernel_rfl, by kernel_rfl, trivial⟩ (show L.length - fr < lf by omega) ⟨⟨hfr, hsub, rfl⟩, Hp.Ext.refl _⟩ ?_
      rintro m1 i F1 g ⟨⟨hi, hsi, hres⟩, X⟩ ih
      have hw : IntKind.wrap .i64 (Int.ofNat (i + 1)) = Int.ofNat (i + 1) := wrap_nat (by omega)
      refine ok_go 2 ?_
      refine sy_test 0 (decide (Int.ofNat i < Int.ofNat L.length)) (by kernel_rfl) ?_ ?_
      · intro hlt
        have hlt : i < L.length := ok_nat hlt
        have hdr : L.drop i = L[i] :: L.drop (i + 1) := List.drop_eq_getElem_cons hlt
        have htk : L.take (i + 1) = L.take i ++ [L[i]] := List.take_succ_eq_append_getElem hlt
        have hsx : (s ++ [L[i]]).Sublist (L.take (i + 1)) := by rw [htk]; exact hsi.append (List.Sublist.refl _)
        have hsn : s.Sublist (L.take (i + 1)) := by rw [htk]; exact hsi.trans (List.sublist_append_left _ _)
        rw [hdr, srF_cons hsk] at hres
        have W := Sto.start g
        refine ok_go 0 ?_
        refine ow_rds 0 W slz28 (hy.ext X) (all_J _) (by rw [List.length_map]; omega) (by kernel_rfl) fun g2 sl2 ng2 hsl2 hsc2 W => ?_
        rw [List.length_map] at hsl2
        obtain ⟨sa, sc, hse⟩ := osl_shape g.next s.length
        have hse2 := hsl2.trans hse
        have W : Sto g g2 (oent g.next 3 (s.map J)) := W
        obtain ⟨p, hp1, hp2⟩ := rdN ((hv.ext X).ext W.ext) hlt
        generalize L[i] = x at *
        subst hse2
        refine ok_go 0 ?_
        refine sy_load 0 (r := indexAddrOp Tryz.prog 28 (.slice va L.length vc) (J i)) (h' := g2) (by kernel_rfl) hp1 ?_
        refine ok_go 0 ?_
        refine sy_load 0 (r := loadT Tryz.prog g2 3 p) (h' := g2) (by kernel_rfl) hp2 ?_
        refine ow_new 0 W (AObj.cells [Value.int IntKind.i64 (Int.ofNat x)] 3 false) (fun q => Value.slice (some { block := q, off := 0 }) 1 2) (by kernel_rfl) fun c1 nc1 Wc1 => ?_
        have W := Wc1
        have W : Sto g c1 ((g2.next, .cells [J x] 3 false) :: ([] ++ oent g.next 3 (s.map J))) := W
        refine ow_app (P := Tryz.prog) (t := 28) (e := 3) (z := 1) (c := s.length) (i := g.next) 0 W slz28 (by rw [List.length_map, Nat.mul_one]) rfl rfl (by omega) (by rw [← hse]; kernel_rfl) fun c2 sl nc2 hsl hsc W => ?_
        obtain ⟨oa, oc, ho⟩ := osl_shape c1.next (s.length + 1)
        rw [ho] at hsl
        subst hsl
        have W : Sto g c2 (oent c1.next 3 (s.map J ++ [J x])) := W
        have hR2 : Rds c2 (.slice oa (s.length + 1) oc) ((s ++ [x]).map J) := by
          have := lst_rds W
          rw [List.length_append, List.length_map, List.length_singleton] at this
          rw [ho] at this
          rw [List.map_append]; exact this
        obtain ⟨_, c3, e6, X6, h6⟩ := ih0 (s ++ [x]) (i + 1) _ c2 (by rw [List.length_append, List.length_singleton]; omega) hlt hsx ((hv.ext X).ext W.ext) hR2
        rw [show J (i + 1) = I (IntKind.wrap .i64 (Int.ofNat (i + 1))) by rw [hw]] at e6
        have hXX := (X.trans W.ext).trans X6
        refine ok_go 1 ?_
        rcases h6 with ⟨h7, rfl⟩ | ⟨fl, u, h7, rfl, h8⟩
        · refine sy_call 0 (by kernel_rfl) e6 ?_
          have hres : srF k (L.drop (i + 1)) s = srF k (L.drop fr) s := by
            unfold oF at h7
            by_cases hFx : isF (s ++ [x]) = true
            · rw [if_pos hFx] at h7 hres; rw [h7] at hres; exact hres
            · rw [if_neg hFx] at hres; exact hres
          refine ok_go 4 ?_
          exact sy_next 0 _ c3 (by kernel_rfl) (by kernel_rfl) (ih (i + 1) _ c3 ⟨⟨hlt, hsn, hres⟩, hXX⟩ (show L.length - (i + 1) < L.length - i by omega) ⟨by kernel_rfl, by kernel_rfl, by kernel_rfl, by kernel_rfl, (by kernel_rfl : _ = I (IntKind.wrap .i64 (Int.ofNat (i + 1)))).trans (by rw [hw]), trivial⟩)
        · have hus := h8.shape
          obtain ⟨ua, uc, hus⟩ := hus
          have hres : some fl = srF k (L.drop fr) s := by
            unfold oF at h7
            by_cases hFx : isF (s ++ [x]) = true
            · rw [if_pos hFx] at h7 hres; rw [h7] at hres; exact hres
            · rw [if_neg hFx] at h7; cases h7
          refine sy_call 0 (by kernel_rfl) e6 ?_
          subst hus
          refine ok_go 3 ?_
          exact sy_done 0 (v := .tuple #[.slice ua (fl.map J).length uc, .bool true]) (h := c3) (by kernel_rfl) ⟨hXX, .inr ⟨fl, _, by unfold oF; rw [if_pos hF, ← hres], rfl, h8⟩⟩
      · intro hlt
        have hlt : i = L.length := Nat.le_antisymm hi (no_nat hlt)
        subst hlt
        rw [List.drop_length, srF_nil hsk] at hres
        refine ok_go 0 ?_
        exact sy_done 0 (v := .tuple #[.slice none 0 0, .bool false]) (h := g) (by kernel_rfl) ⟨X, .inl ⟨by unfold oF; rw [if_pos hF, ← hres], rfl⟩⟩
    · obtain ⟨_, h1, e5, rfl, X1⟩ := e4 fun h => h0 (by rw [h]; rfl)
      refine sy_yes 0 (b := decide (Int.ofNat s.length > 0)) (by kernel_rfl) (decide_eq_true (by show (0 : Int) < (s.length : Int); omega)) ?_
      refine ok_go 3 ?_
      refine sy_call 0 (by kernel_rfl) e5 ?_
      refine ok_go 3 ?_
      by_cases hF : isF s = true
      · refine sy_no 0 (b := !isF s) (by kernel_rfl) (by rw [hF]; rfl) ?_
        refine ok_go 2 ?_
        refine sy_no 0 (b := Int.ofNat s.length == Int.ofNat k) (by kernel_rfl) (beq_eq_false_iff_ne.2 fun h => hsk (Int.ofNat.inj h)) ?_
        refine ok_go 0 ?_
        refine sy_loop 0 lf h1 (α := Nat) (fun i => [(0, J n), (1, .slice va L.length vc), (2, J k), (3, .slice ya s.length yc), (12, J i)]) (fun i g => (i ≤ L.length ∧ s.Sublist (L.take i) ∧ srF k (L.drop i) s = srF k (L.drop fr) s) ∧ h.Ext g) (fun i _ => L.length - i) fr (by kernel_rfl) (by kernel_rfl)
          ⟨by kernel_rfl, by kernel_rfl, by kernel_rfl, by kernel_rfl, by kernel_rfl, trivial⟩ (show L.length - fr < lf by omega) ⟨⟨hfr, hsub, rfl⟩, X1⟩ ?_
        rintro m1 i F1 g ⟨⟨hi, hsi, hres⟩, X⟩ ih
        have hw : IntKind.wrap .i64 (Int.ofNat (i + 1)) = Int.ofNat (i + 1) := wrap_nat (by omega)
        refine ok_go 2 ?_
        refine sy_test 0 (decide (Int.ofNat i < Int.ofNat L.length)) (by kernel_rfl) ?_ ?_
        · intro hlt
          have hlt : i < L.length := ok_nat hlt
          have hdr : L.drop i = L[i] :: L.drop (i + 1) := List.drop_eq_getElem_cons hlt
          have htk : L.take (i + 1) = L.take i ++ [L[i]] := List.take_succ_eq_append_getElem hlt
          have hsx : (s ++ [L[i]]).Sublist (L.take (i + 1)) := by rw [htk]; exact hsi.append (List.Sublist.refl _)
          have hsn : s.Sublist (L.take (i + 1)) := by rw [htk]; exact hsi.trans (List.sublist_append_left _ _)
          rw [hdr, srF_cons hsk] at hres
          have W := Sto.start g
          refine ok_go 0 ?_
          refine ow_rds 0 W slz28 (hy.ext X) (all_J _) (by rw [List.length_map]; omega) (by kernel_rfl) fun g2 sl2 ng2 hsl2 hsc2 W => ?_
          rw [List.length_map] at hsl2
          obtain ⟨sa, sc, hse⟩ := osl_shape g.next s.length
          have hse2 := hsl2.trans hse
          have W : Sto g g2 (oent g.next 3 (s.map J)) := W
          obtain ⟨p, hp1, hp2⟩ := rdN ((hv.ext X).ext W.ext) hlt
          generalize L[i] = x at *
          subst hse2
          refine ok_go 0 ?_
          refine sy_load 0 (r := indexAddrOp Tryz.prog 28 (.slice va L.length vc) (J i)) (h' := g2) (by kernel_rfl) hp1 ?_
          refine ok_go 0 ?_
          refine sy_load 0 (r := loadT Tryz.prog g2 3 p) (h' := g2) (by kernel_rfl) hp2 ?_
          refine ow_new 0 W (AObj.cells [Value.int IntKind.i64 (Int.ofNat x)] 3 false) (fun q => Value.slice (some { block := q, off := 0 }) 1 2) (by kernel_rfl) fun c1 nc1 Wc1 => ?_
          have W := Wc1
          have W : Sto g c1 ((g2.next, .cells [J x] 3 false) :: ([] ++ oent g.next 3 (s.map J))) := W
          refine ow_app (P := Tryz.prog) (t := 28) (e := 3) (z := 1) (c := s.length) (i := g.next) 0 W slz28 (by rw [List.length_map, Nat.mul_one]) rfl rfl (by omega) (by rw [← hse]; kernel_rfl) fun c2 sl nc2 hsl hsc W => ?_
          obtain ⟨oa, oc, ho⟩ := osl_shape c1.next (s.length + 1)
          rw [ho] at hsl
          subst hsl
          have W : Sto g c2 (oent c1.next 3 (s.map J ++ [J x])) := W
          have hR2 : Rds c2 (.slice oa (s.length + 1) oc) ((s ++ [x]).map J) := by
            have := lst_rds W
            rw [List.length_append, List.length_map, List.length_singleton] at this
            rw [ho] at this
            rw [List.map_append]; exact this
          obtain ⟨_, c3, e6, X6, h6⟩ := ih0 (s ++ [x]) (i + 1) _ c2 (by rw [List.length_append, List.length_singleton]; omega) hlt hsx ((hv.ext X).ext W.ext) hR2
          rw [show J (i + 1) = I (IntKind.wrap .i64 (Int.ofNat (i + 1))) by rw [hw]] at e6
          have hXX := (X.trans W.ext).trans X6
          refine ok_go 1 ?_
          rcases h6 with ⟨h7, rfl⟩ | ⟨fl, u, h7, rfl, h8⟩
          · refine sy_call 0 (by kernel_rfl) e6 ?_
            have hres : srF k (L.drop (i + 1)) s = srF k (L.drop fr) s := by
              unfold oF at h7
              by_cases hFx : isF (s ++ [x]) = true
              · rw [if_pos hFx] at h7 hres; rw [h7] at hres; exact hres
              · rw [if_neg hFx] at hres; exact hres
            refine ok_go 4 ?_
            exact sy_next 0 _ c3 (by kernel_rfl) (by kernel_rfl) (ih (i + 1) _ c3 ⟨⟨hlt, hsn, hres⟩, hXX⟩ (show L.length - (i + 1) < L.length - i by omega) ⟨by kernel_rfl, by kernel_rfl, by kernel_rfl, by kernel_rfl, (by kernel_rfl : _ = I (IntKind.wrap .i64 (Int.ofNat (i + 1)))).trans (by rw [hw]), trivial⟩)
          · have hus := h8.shape
            obtain ⟨ua, uc, hus⟩ := hus
            have hres : some fl = srF k (L.drop fr) s := by
              unfold oF at h7
              by_cases hFx : isF (s ++ [x]) = true
              · rw [if_pos hFx] at h7 hres; rw [h7] at hres; exact hres
              · rw [if_neg hFx] at h7; cases h7
            refine sy_call 0 (by kernel_rfl) e6 ?_
            subst hus
            refine ok_go 3 ?_
            exact sy_done 0 (v := .tuple #[.slice ua (fl.map J).length uc, .bool true]) (h := c3) (by kernel_rfl) ⟨hXX, .inr ⟨fl, _, by unfold oF; rw [if_pos hF, ← hres], rfl, h8⟩⟩
        · intro hlt
          have hlt : i = L.length := Nat.le_antisymm hi (no_nat hlt)
          subst hlt
          rw [List.drop_length, srF_nil hsk] at hres
          refine ok_go 0 ?_
          exact sy_done 0 (v := .tuple #[.slice none 0 0, .bool false]) (h := g) (by kernel_rfl) ⟨X, .inl ⟨by unfold oF; rw [if_pos hF, ← hres], rfl⟩⟩
      · refine sy_yes 0 (b := !isF s) (by kernel_rfl) (by rw [Bool.eq_false_iff.2 hF]; rfl) ?_
        refine ok_go 0 ?_
        exact sy_done 0 (v := .tuple #[.slice none 0 0, .bool false]) (h := h1) (by kernel_rfl) ⟨X1, .inl ⟨by unfold oF; rw [if_neg hF], rfl⟩⟩
/-- The reference's Flower. -/
theorem rflw_of (lf m : Nat) (hlf : 2000 ≤ lf) (n : Nat) (hn : n ≤ 10) (L : List Nat) (hLr : L.Pairwise (· < ·)) (hLb : ∀ x ∈ L, x < 2 ^ n) (hLl : L.length ≤ 60) (v : Value) (k : Nat) (hk : k ≤ 5) (h : Hp) (hv : Rds h v (L.map J)) :
    ∃ w h', Ev lf (m + k + 6) 44 [J n, v, J k] h = some (w, h') ∧ h.Ext h' ∧ ((srF k L [] = none ∧ w = .tuple #[.slice none 0 0, .bool false]) ∨ ∃ fl u, srF k L [] = some fl ∧ w = .tuple #[u, .bool true] ∧ Rds h' u (fl.map J)) := by
  refine fnS_ok (Q := fun w h' => h.Ext h' ∧ ((srF k L [] = none ∧ w = .tuple #[.slice none 0 0, .bool false]) ∨ ∃ fl u, srF k L [] = some fl ∧ w = .tuple #[u, .bool true] ∧ Rds h' u (fl.map J))) ?_
  obtain ⟨va, vc, hvs⟩ := hv.shape
  rw [List.length_map] at hvs
  subst hvs
  obtain ⟨_, h1, e1, X, hc⟩ := rflw_rec lf m hlf n hn L hLr hLb hLl va vc k hk k [] 0 (.slice none 0 0) h (by rw [List.length_nil]; omega) (Nat.zero_le _) (List.nil_sublist _) hv (.inl ⟨⟨none, rfl⟩, rfl⟩)
  have ho : oF k (L.drop 0) [] = srF k L [] := rfl
  rw [ho] at hc
  refine ok_go 0 ?_
  rcases hc with ⟨h2, rfl⟩ | ⟨fl, u, h2, rfl, h3⟩
  · refine sy_call 0 (by kernel_rfl) e1 ?_
    refine ok_go 2 ?_
    exact sy_done 0 (v := .tuple #[.slice none 0 0, .bool false]) (h := h1) (by kernel_rfl) ⟨X, .inl ⟨h2, rfl⟩⟩
  · obtain ⟨ua, uc, hus⟩ := h3.shape
    subst hus
    refine sy_call 0 (by kernel_rfl) e1 ?_
    refine ok_go 2 ?_
    exact sy_done 0 (v := .tuple #[.slice ua (fl.map J).length uc, .bool true]) (h := h1) (by kernel_rfl) ⟨X, .inr ⟨fl, _, h2, rfl, h3⟩⟩
end Go.Proofs.YtkfbfgcflnkllaaGreatDoor
namespace Go.Proofs.YtkfbfgcflnkllaaGreatDoor
open Go Go.Eng Nim
set_option maxRecDepth 100000
set_option maxHeartbeats 8000000
theorem slice_val2 {i off len cap K : Nat} (h : K ≤ cap / 2) : ∃ c, sliceOp Tryz.prog 28 (.slice (some ⟨i, off, none⟩) len cap) none (some (J K)) none = some (.slice (some ⟨i, off, none⟩) K c) ∧ K ≤ c / 2 := by
  have hs : sizeT Tryz.prog 3 = some 1 := by kernel_rfl
  simp only [sliceOp, u28, hs, sliceV, Go.Eng.bound, Option.isSome_none, show natOf (J K) = some K from rfl, Bool.false_eq_true, if_false, Nat.ble_eq_true_of_le h, Nat.ble_eq_true_of_le (Nat.zero_le (cap / 2))]
  cases hb : Nat.beq (cap / 2) 0
  · cases hc : Nat.beq (cap % 2) 1
    · exact ⟨2 * (cap / 2), by simp, by omega⟩
    · exact ⟨2 * (cap / 2) + 1, by simp, by omega⟩
  · have := Nat.eq_of_beq_eq_true hb
    cases hc : Nat.beq (cap % 2) 1
    · exact ⟨0, by simp, by omega⟩
    · exact ⟨1, by simp, by omega⟩
theorem cut_row2 {h : Hp} {x : Value} {vs : List Value} (hw : WfS x) (hx : Rds h x vs) {K : Nat} (hK : K ≤ vs.length) : ∃ y, sliceOp Tryz.prog 28 x none (some (J K)) none = some y ∧ Rds h y (vs.take K) ∧ WfS y := by
  have hs : sizeT Tryz.prog 3 = some 1 := by kernel_rfl
  rcases hx with ⟨⟨a, rfl⟩, rfl⟩ | ⟨i, off, c, rfl, hr⟩
  · obtain rfl : K = 0 := by simpa using hK
    rcases a with _ | ⟨i, off, _ | q⟩
    · exact ⟨.slice none 0 0, rfl, .inl ⟨⟨_, rfl⟩, rfl⟩, rfl, rfl⟩
    · obtain ⟨c, e, e2⟩ := slice_val2 (i := i) (off := off) (len := 0) (cap := 0) (K := 0) (Nat.zero_le _)
      exact ⟨_, e, .inr ⟨i, off, c, rfl, fun h => absurd rfl h⟩, .inl ⟨rfl, e2⟩⟩
    · exact ⟨.slice (some ⟨i, off, some q⟩) 0 0, rfl, .inl ⟨⟨_, rfl⟩, rfl⟩, .inr ⟨rfl, rfl⟩⟩
  · have hc : vs.length ≤ c / 2 := by
      rcases hw with ⟨_, h⟩ | ⟨h, h2⟩
      · exact h
      · omega
    obtain ⟨c', e, e2⟩ := slice_val2 (i := i) (off := off) (len := vs.length) (cap := c) (K := K) (Nat.le_trans hK hc)
    refine ⟨_, e, .inr ⟨i, off, c', by rw [List.length_take, Nat.min_eq_left hK], fun hne => ?_⟩, .inl ⟨rfl, e2⟩⟩
    have hv : vs ≠ [] := fun h0 => by subst h0; simp at hne
    obtain ⟨h1, h2⟩ := hr hv
    refine ⟨h1, ?_⟩
    rw [List.length_take, Nat.min_eq_left hK]
    unfold loadN at h2 ⊢
    cases hg : h.get i with
    | none => rw [hg] at h2; cases h2
    | some o =>
      rw [hg] at h2
      cases o with
      | cells cs e opn => exact takeN_take h2 K hK
      | ro o cs e =>
        dsimp only at h2 ⊢
        cases hb : Nat.ble o off with
        | true => rw [hb] at h2; exact takeN_take h2 K hK
        | false => rw [hb] at h2; cases h2
      | fro cs e => exact takeN_take h2 K hK
      | _ => cases h2
theorem raw2_of (lf m : Nat) (k : Nat) (hk : k < 16777216) (zs : List Int) (x : Value) (h : Hp) (hx : Rds h x (zs.map I)) (hwf : WfS x) :
    ∃ v h', Ev lf (m + 1) 46 [x, J k] h = some (v, h') ∧ (Rds h' v ((zs.take k).map I) ∧ WfS v) ∧ h.Ext h' := by
  refine fnS_ok (Q := fun v h' => (Rds h' v ((zs.take k).map I) ∧ WfS v) ∧ h.Ext h') ?_
  have W := Sto.start h
  obtain ⟨xa, xc, hxs⟩ := hx.shape
  rw [List.length_map] at hxs
  subst hxs
  obtain ⟨K, hK, hK1, hK2, hK3⟩ : ∃ K : Nat, (if Int.ofNat k < Int.ofNat zs.length then Int.ofNat k else Int.ofNat zs.length) = Int.ofNat K ∧ K ≤ zs.length ∧ zs.take K = zs.take k ∧ K ≤ k := by
    by_cases h20 : k < zs.length
    · exact ⟨k, if_pos (by show (k : Int) < (zs.length : Int); omega), by omega, rfl, Nat.le_refl _⟩
    · exact ⟨zs.length, if_neg (by show ¬ (k : Int) < (zs.length : Int); omega), Nat.le_refl _, by rw [List.take_length, List.take_of_length_le (by omega)], by omega⟩
  obtain ⟨y, hy1, hy2⟩ := cut_row hwf hx (K := K) (by rw [List.length_map]; exact hK1)
  rw [← List.map_take, hK2] at hy2
  have hy1 : sliceOp Tryz.prog 28 (.slice xa zs.length xc) none (some (.int .i64 (Int.ofNat K))) none = some y := hy1
  rw [← hK] at hy1
  refine ok_go 2 ?_
  refine sy_any 0 (p := fun y => Rds h y ((zs.take k).map I)) (h' := h) ?_ ?_
  · cases xa with
    | none =>
      obtain ⟨h1, h2⟩ := hwf
      obtain rfl : zs = [] := List.eq_nil_of_length_eq_zero h1
      subst h2
      exact ⟨.slice none 0 0, .inl ⟨⟨_, rfl⟩, by rw [List.take_nil]; rfl⟩, by kernel_rfl⟩
    | some ra =>
      refine ⟨y, hy2, (by kernel_rfl : _ = (sliceOp Tryz.prog 28 (.slice (some ra) zs.length xc) none (some (.int .i64 (if Int.ofNat k < Int.ofNat zs.length then Int.ofNat k else Int.ofNat zs.length))) none).map (·, h)).trans ?_⟩
      rw [hy1]
      rfl
  intro y hy2
  obtain ⟨ya, yc, rfl⟩ := hy2.shape
  refine ok_go 0 ?_
  refine ow_rds 0 W slz28 hy2 (all_I _) (by rw [List.length_map, List.length_take]; omega) (by kernel_rfl) fun g2 sl2 ng2 hsl2 hsc2 W => ?_
  have RV : Rds g2 sl2 ((zs.take k).map I) := by
    rw [hsl2]
    exact osl_rd fun p hp => W.hold p (List.mem_append_right _ hp)
  have hwf2 : WfS sl2 := by rw [hsl2]; exact wf_osl _ _
  obtain ⟨oa, oc, hos⟩ := RV.shape
  subst hos
  refine ok_go 0 ?_
  exact sy_done 0 (v := _) (h := g2) (by kernel_rfl) ⟨⟨RV, hwf2⟩, W.ext⟩
end Go.Proofs.YtkfbfgcflnkllaaGreatDoor
namespace Go.Proofs.YtkfbfgcflnkllaaGreatDoor
open Go Go.Eng Nim
set_option maxRecDepth 100000
set_option maxHeartbeats 8000000
def zF (z : Int) : Int := IntKind.i64.wrap ((IntKind.u64.wrap z).tmod (IntKind.u64.wrap (IntKind.i64.wrap (8 + 1))))
theorem f_size (z : Int) : ∃ N : Nat, N ≤ 8 ∧ zF z = Int.ofNat N := by
  obtain ⟨k, hk, hr⟩ := rem_u z 9 (by decide) (by decide)
  have h9 : (IntKind.u64.wrap (IntKind.i64.wrap (8 + 1))) = IntKind.u64.wrap (Int.ofNat 9) := by decide
  refine ⟨k, by omega, ?_⟩
  unfold zF
  rw [h9, hr]
  exact wrap_nat (by omega)
def hE : Hp := ⟨.nil, 0⟩
/-- The first loop's body and what comes after it. -/
noncomputable def fam8 (m : Nat) : Nat → Fr → Hp → SA := cutFam (goS 9 (askK (goS 1 (askK (goS 0 (goS 1 (askK (goS 0 (fnS Tryz.prog orc 100000 (m + 11) 8 [J 0, .slice none 0 0, .agg #[.slice none 0 0, .slice none 0 0]] hE)) (ptr 0 0) hE))) (.slice none 0 0) hE)) (.slice none 0 0) hE))
def cutE (t : SA) (F : Nat → Fr → Hp → SA) : Prop := match t with
  | .cut _ fam _ _ => fam = F
  | _ => False
theorem cutE_eq {t : SA} {F : Nat → Fr → Hp → SA} (h : cutE t F = (F = F)) : cutFam t = F := by
  have h : cutE t F := by rw [h]
  cases t with
  | cut _ fam _ _ => exact h
  | _ => exact h.elim
theorem fam8A (m : Nat) (h g1 g2 : Hp) (z : Int) (wa ya : Option Addr) (wn wc yn yc xn xc on oc b : Nat) (xa oa : Option Addr) : cutE (goS 0 (testN (goS 0 (goS 2 (askK (goS 1 (askK (goS 0 (goS 1 (askK (goS 0 (fnS Tryz.prog orc 100000 (m + 11) 8 [I z, .slice xa xn xc, .agg #[.slice wa wn wc, .slice ya yn yc]] h)) (ptr b 0) g1))) (.slice oa on oc) g2)) (.slice wa wn wc) g2))))) (fam8 m) = (fam8 m = fam8 m) := by kernel_rfl
theorem fam8B (m : Nat) (h g1 g2 : Hp) (z x : Int) (p : Value) (wa ya : Option Addr) (wn wc yn yc xn xc on oc b : Nat) (xa oa : Option Addr) : cutE (goS 0 (askK (goS 0 (goS 0 (askK (goS 0 (askK (goS 1 (testY (goS 0 (goS 2 (askK (goS 1 (askK (goS 0 (goS 1 (askK (goS 0 (fnS Tryz.prog orc 100000 (m + 11) 8 [I z, .slice xa xn xc, .agg #[.slice wa wn wc, .slice ya yn yc]] h)) (ptr b 0) g1))) (.slice oa on oc) g2)) (.slice wa wn wc) g2))))) (.slice wa wn wc) g2)) p g2))) (I x) g2)) (fam8 m) = (fam8 m = fam8 m) := by kernel_rfl
theorem sy_loopF {Q : Value → Hp → Prop} (n : Nat) {t : SA} (lf : Nat) (h0 : Hp) {α : Type} (val : α → List (Nat × Value)) (I : α → Hp → Prop) (μ : α → Hp → Nat) (a0 : α) (FAM : Nat → Fr → Hp → SA)
    (hc : cutN (goS n t) = some lf) (hh : cutH (goS n t) = h0) (hF : cutE (goS n t) FAM = (FAM = FAM)) (hf : Has (cutF (goS n t)) (val a0)) (hm : μ a0 h0 < lf) (h0I : I a0 h0)
    (step : ∀ m a f h, I a h → (∀ a' f' h', I a' h' → μ a' h' < μ a h → Has f' (val a') → Ok Q (FAM m f' h')) → Ok Q (FAM (m + 1) (upds f (val a)) h)) : Ok Q t :=
  sy_loop n lf h0 val I μ a0 hc hh hf hm h0I (by rw [cutE_eq hF]; exact step)
abbrev St8 := Nat × Int × List Nat × Option Addr × Nat
def val8 (N b : Nat) (x : St8) : List (Nat × Value) := [(0, J N), (5, ptr b 0), (7, .slice x.2.2.2.1 x.2.2.1.length x.2.2.2.2), (8, I x.2.1), (9, J x.1)]
def Inv8 (N : Nat) (h1 : Hp) (x : St8) (g : Hp) : Prop := x.1 ≤ 2 ∧ x.2.2.1.Pairwise (· < ·) ∧ (∀ y ∈ x.2.2.1, y < 2 ^ N) ∧ x.2.2.1.length ≤ 64 ∧ Rds g (.slice x.2.2.2.1 x.2.2.1.length x.2.2.2.2) (x.2.2.1.map J) ∧ WfS (.slice x.2.2.2.1 x.2.2.1.length x.2.2.2.2) ∧ h1.Ext g
theorem step8 (m N : Nat) (hN8 : N ≤ 8) (ys : List Int) (hys : ys.length < 2 ^ 63) (u1 : Value) (ya : Option Addr) (yc b : Nat) (h1 : Hp) (hb : b < h1.next) (hg : h1.get b = some (.cells [u1, .slice ya ys.length yc] 75 false)) (hy : Rds h1 (.slice ya ys.length yc) (ys.map I)) (hwf : WfS (.slice ya ys.length yc)) :
    ∀ m1 (x : St8) f g, Inv8 N h1 x g → (∀ x' f' g', Inv8 N h1 x' g' → 2 - x'.1 < 2 - x.1 → Has f' (val8 N b x') → Ok (fun v _ => v = .bool true) (fam8 m m1 f' g')) → Ok (fun v _ => v = .bool true) (fam8 m (m1 + 1) (upds f (val8 N b x)) g) := by
  rintro m1 ⟨i, k, L, oa, oc⟩ F1 g ⟨hi, hr, hlb, hll, R, hwo, X⟩ ih
  dsimp only at hi hr hlb hll R hwo X
  have h2N : 2 ^ N ≤ 256 := Nat.pow_le_pow_right (by decide) hN8
  have hw : IntKind.wrap .i64 (Int.ofNat (i + 1)) = Int.ofNat (i + 1) := wrap_nat (by omega)
  have hLe : lst (fun j => decide (j ∈ L)) (2 ^ N) = L := rise_lst hr hlb
  have R0 : Rds g (.slice oa L.length oc) ((lst (fun j => decide (j ∈ L)) (2 ^ N)).map J) := by rw [hLe]; exact R
  have hsl : (oa = none ∧ L = [] ∧ oc = 0) ∨ ∃ ra y, oa = some ra ∧ sliceOp Tryz.prog 28 (.slice (some ra) L.length oc) none (some (I (if Int.ofNat 20 < Int.ofNat L.length then Int.ofNat 20 else Int.ofNat L.length))) none = some y ∧ Rds g y ((L.take 20).map J) ∧ WfS y := by
    cases oa with
    | none =>
      obtain ⟨h1, h2⟩ := hwo
      exact .inl ⟨rfl, List.eq_nil_of_length_eq_zero h1, h2⟩
    | some ra =>
      obtain ⟨K, hK, hK1, hK2⟩ : ∃ K : Nat, (if Int.ofNat 20 < Int.ofNat L.length then Int.ofNat 20 else Int.ofNat L.length) = Int.ofNat K ∧ K ≤ L.length ∧ L.take K = L.take 20 := by
        by_cases h20 : 20 < L.length
        · exact ⟨20, if_pos (by show ((20 : Nat) : Int) < (L.length : Int); omega), by omega, rfl⟩
        · exact ⟨L.length, if_neg (by show ¬ ((20 : Nat) : Int) < (L.length : Int); omega), Nat.le_refl _, by rw [List.take_length, List.take_of_length_le (by omega)]⟩
      obtain ⟨y, hy1, hy2, hy3⟩ := cut_row2 hwo R (K := K) (by rw [List.length_map]; exact hK1)
      rw [← List.map_take, hK2] at hy2
      exact .inr ⟨ra, y, rfl, by rw [hK]; exact hy1, hy2, hy3⟩
  refine ok_go 1 ?_
  refine sy_test 0 (decide (Int.ofNat i < 2)) (by kernel_rfl) ?_ ?_
  · intro hlt
    have hlt : i < 2 := ok_nat (b := 2) hlt
    by_cases hk : k < 1 ∨ k > 5
    · obtain ⟨_, g2, e2, rfl, X2⟩ := flw_arg 100000 (m + 9) (by decide) N (by omega) k hk (fun j => decide (j ∈ L)) (.slice oa L.length oc) g R0
      refine ok_go 0 ?_
      refine sy_call 0 (by kernel_rfl) e2 ?_
      refine ok_go 4 ?_
      by_cases h0 : k < 1
      · refine sy_yes 0 (b := decide (k < 1)) (by kernel_rfl) (decide_eq_true h0) ?_
        refine ok_go 19 ?_
        refine sy_any 0 (p := fun y => Rds g2 y ((L.take 20).map J) ∧ WfS y) (h' := g2) ?_ ?_
        · rcases hsl with ⟨rfl, rfl, rfl⟩ | ⟨ra, y, rfl, hy1, hy2, hy3⟩
          · exact ⟨.slice none 0 0, ⟨.inl ⟨⟨_, rfl⟩, rfl⟩, rfl, rfl⟩, by kernel_rfl⟩
          · exact ⟨y, ⟨hy2.ext (X2), hy3⟩, (by kernel_rfl : _ = (sliceOp Tryz.prog 28 (.slice (some ra) L.length oc) none (some (I (if Int.ofNat 20 < Int.ofNat L.length then Int.ofNat 20 else Int.ofNat L.length))) none).map (·, g2)).trans (by rw [hy1]; rfl)⟩
        rintro y ⟨hy2, hy3⟩
        obtain ⟨ca, cc, hce⟩ := hy2.shape
        rw [List.length_map] at hce
        subst hce
        refine ok_go 1 ?_
        exact sy_next 0 _ g2 (by kernel_rfl) (by kernel_rfl) (ih (i + 1, IntKind.i64.wrap (1 + IntKind.i64.wrap ((IntKind.u64.wrap k).tmod (IntKind.u64.wrap (IntKind.i64.wrap (4 + 1))))), L.take 20, ca, cc) _ g2 ⟨hlt, hr.sublist (List.take_sublist ..), fun y hy => hlb y (List.mem_of_mem_take hy), by dsimp only; rw [List.length_take]; omega, hy2, hy3, X.trans (X2)⟩ (show 2 - (i + 1) < 2 - i by omega) ⟨by kernel_rfl, by kernel_rfl, by kernel_rfl, by kernel_rfl, (by kernel_rfl : _ = I (IntKind.wrap .i64 (Int.ofNat (i + 1)))).trans (by rw [hw]), trivial⟩)
      · refine sy_no 0 (b := decide (k < 1)) (by kernel_rfl) (decide_eq_false h0) ?_
        refine ok_go 3 ?_
        refine sy_yes 0 (b := decide (k > 5)) (by kernel_rfl) (decide_eq_true (hk.resolve_left h0)) ?_
        refine ok_go 16 ?_
        refine sy_any 0 (p := fun y => Rds g2 y ((L.take 20).map J) ∧ WfS y) (h' := g2) ?_ ?_
        · rcases hsl with ⟨rfl, rfl, rfl⟩ | ⟨ra, y, rfl, hy1, hy2, hy3⟩
          · exact ⟨.slice none 0 0, ⟨.inl ⟨⟨_, rfl⟩, rfl⟩, rfl, rfl⟩, by kernel_rfl⟩
          · exact ⟨y, ⟨hy2.ext (X2), hy3⟩, (by kernel_rfl : _ = (sliceOp Tryz.prog 28 (.slice (some ra) L.length oc) none (some (I (if Int.ofNat 20 < Int.ofNat L.length then Int.ofNat 20 else Int.ofNat L.length))) none).map (·, g2)).trans (by rw [hy1]; rfl)⟩
        rintro y ⟨hy2, hy3⟩
        obtain ⟨ca, cc, hce⟩ := hy2.shape
        rw [List.length_map] at hce
        subst hce
        refine ok_go 1 ?_
        exact sy_next 0 _ g2 (by kernel_rfl) (by kernel_rfl) (ih (i + 1, IntKind.i64.wrap (1 + IntKind.i64.wrap ((IntKind.u64.wrap k).tmod (IntKind.u64.wrap (IntKind.i64.wrap (4 + 1))))), L.take 20, ca, cc) _ g2 ⟨hlt, hr.sublist (List.take_sublist ..), fun y hy => hlb y (List.mem_of_mem_take hy), by dsimp only; rw [List.length_take]; omega, hy2, hy3, X.trans (X2)⟩ (show 2 - (i + 1) < 2 - i by omega) ⟨by kernel_rfl, by kernel_rfl, by kernel_rfl, by kernel_rfl, (by kernel_rfl : _ = I (IntKind.wrap .i64 (Int.ofNat (i + 1)))).trans (by rw [hw]), trivial⟩)
    · obtain ⟨K, rfl⟩ := Int.eq_ofNat_of_zero_le (show 0 ≤ k by omega)
      have hK1 : 1 ≤ K := by
        have : ¬ (K : Int) < 1 := fun h => hk (.inl h)
        omega
      have hK5 : K ≤ 5 := by
        have : ¬ (K : Int) > 5 := fun h => hk (.inr h)
        omega
      by_cases h60 : 60 < L.length
      · obtain ⟨_, g2, e2, rfl, X2⟩ := flw_long 100000 (m + 9) (by decide) N (by omega) K hK1 hK5 (fun j => decide (j ∈ L)) (by rw [hLe]; exact h60) (.slice oa L.length oc) g R0
        refine ok_go 0 ?_
        refine sy_call 0 (by kernel_rfl) e2 ?_
        refine ok_go 4 ?_
        refine sy_no 0 (b := decide (Int.ofNat K < 1)) (by kernel_rfl) (decide_eq_false (by show ¬ (K : Int) < 1; omega)) ?_
        refine ok_go 3 ?_
        refine sy_no 0 (b := decide (Int.ofNat K > 5)) (by kernel_rfl) (decide_eq_false (by show ¬ (5 : Int) < (K : Int); omega)) ?_
        refine ok_go 2 ?_
        refine sy_yes 0 (b := decide (Int.ofNat L.length > 60)) (by kernel_rfl) (decide_eq_true (by show (60 : Int) < (L.length : Int); omega)) ?_
        refine ok_go 16 ?_
        refine sy_any 0 (p := fun y => Rds g2 y ((L.take 20).map J) ∧ WfS y) (h' := g2) ?_ ?_
        · rcases hsl with ⟨rfl, rfl, rfl⟩ | ⟨ra, y, rfl, hy1, hy2, hy3⟩
          · exact ⟨.slice none 0 0, ⟨.inl ⟨⟨_, rfl⟩, rfl⟩, rfl, rfl⟩, by kernel_rfl⟩
          · exact ⟨y, ⟨hy2.ext (X2), hy3⟩, (by kernel_rfl : _ = (sliceOp Tryz.prog 28 (.slice (some ra) L.length oc) none (some (I (if Int.ofNat 20 < Int.ofNat L.length then Int.ofNat 20 else Int.ofNat L.length))) none).map (·, g2)).trans (by rw [hy1]; rfl)⟩
        rintro y ⟨hy2, hy3⟩
        obtain ⟨ca, cc, hce⟩ := hy2.shape
        rw [List.length_map] at hce
        subst hce
        refine ok_go 1 ?_
        exact sy_next 0 _ g2 (by kernel_rfl) (by kernel_rfl) (ih (i + 1, IntKind.i64.wrap (1 + IntKind.i64.wrap ((IntKind.u64.wrap (Int.ofNat K)).tmod (IntKind.u64.wrap (IntKind.i64.wrap (4 + 1))))), L.take 20, ca, cc) _ g2 ⟨hlt, hr.sublist (List.take_sublist ..), fun y hy => hlb y (List.mem_of_mem_take hy), by dsimp only; rw [List.length_take]; omega, hy2, hy3, X.trans (X2)⟩ (show 2 - (i + 1) < 2 - i by omega) ⟨by kernel_rfl, by kernel_rfl, by kernel_rfl, by kernel_rfl, (by kernel_rfl : _ = I (IntKind.wrap .i64 (Int.ofNat (i + 1)))).trans (by rw [hw]), trivial⟩)
      · obtain ⟨_, g2, e2, X2, hfl⟩ := flw_of 100000 (m + 8 - K) (by decide) N (by omega) K hK1 hK5 (fun j => decide (j ∈ L)) (by rw [hLe]; omega) (.slice oa L.length oc) g R0
        rw [show m + 8 - K + K + 3 = m + 11 by omega] at e2
        rw [hLe] at hfl
        refine ok_go 0 ?_
        by_cases h24 : L.length ≤ 24
        · obtain ⟨_, g3, e3, X3, hrf⟩ := rflw_of 100000 (m + 5 - K) (by decide) N (by omega) L hr hlb (by omega) (.slice oa L.length oc) K hK5 g2 (R.ext X2)
          rw [show m + 5 - K + K + 6 = m + 11 by omega] at e3
          rcases hfl with ⟨hn, rfl⟩ | ⟨fl, w, hs, rfl, hrw, hwf2⟩
          · rcases hrf with ⟨_, rfl⟩ | ⟨fl, u, h1, _, _⟩
            · refine sy_call 0 (by kernel_rfl) e2 ?_
              refine ok_go 4 ?_
              refine sy_no 0 (b := decide (Int.ofNat K < 1)) (by kernel_rfl) (decide_eq_false (by show ¬ (K : Int) < 1; omega)) ?_
              refine ok_go 3 ?_
              refine sy_no 0 (b := decide (Int.ofNat K > 5)) (by kernel_rfl) (decide_eq_false (by show ¬ (5 : Int) < (K : Int); omega)) ?_
              refine ok_go 2 ?_
              refine sy_no 0 (b := decide (Int.ofNat L.length > 60)) (by kernel_rfl) (decide_eq_false (by show ¬ (60 : Int) < (L.length : Int); omega)) ?_
              refine ok_go 4 ?_
              refine sy_yes 0 (b := decide (Int.ofNat L.length ≤ 24)) (by kernel_rfl) (decide_eq_true (by show (L.length : Int) ≤ 24; omega)) ?_
              refine ok_go 0 ?_
              refine sy_call 0 (by kernel_rfl) e3 ?_
              refine ok_go 20 ?_
              refine sy_any 0 (p := fun y => Rds g3 y ((L.take 20).map J) ∧ WfS y) (h' := g3) ?_ ?_
              · rcases hsl with ⟨rfl, rfl, rfl⟩ | ⟨ra, y, rfl, hy1, hy2, hy3⟩
                · exact ⟨.slice none 0 0, ⟨.inl ⟨⟨_, rfl⟩, rfl⟩, rfl, rfl⟩, by kernel_rfl⟩
                · exact ⟨y, ⟨hy2.ext (X2.trans X3), hy3⟩, (by kernel_rfl : _ = (sliceOp Tryz.prog 28 (.slice (some ra) L.length oc) none (some (I (if Int.ofNat 20 < Int.ofNat L.length then Int.ofNat 20 else Int.ofNat L.length))) none).map (·, g3)).trans (by rw [hy1]; rfl)⟩
              rintro y ⟨hy2, hy3⟩
              obtain ⟨ca, cc, hce⟩ := hy2.shape
              rw [List.length_map] at hce
              subst hce
              refine ok_go 1 ?_
              exact sy_next 0 _ g3 (by kernel_rfl) (by kernel_rfl) (ih (i + 1, IntKind.i64.wrap (1 + IntKind.i64.wrap ((IntKind.u64.wrap (Int.ofNat K)).tmod (IntKind.u64.wrap (IntKind.i64.wrap (4 + 1))))), L.take 20, ca, cc) _ g3 ⟨hlt, hr.sublist (List.take_sublist ..), fun y hy => hlb y (List.mem_of_mem_take hy), by dsimp only; rw [List.length_take]; omega, hy2, hy3, X.trans (X2.trans X3)⟩ (show 2 - (i + 1) < 2 - i by omega) ⟨by kernel_rfl, by kernel_rfl, by kernel_rfl, by kernel_rfl, (by kernel_rfl : _ = I (IntKind.wrap .i64 (Int.ofNat (i + 1)))).trans (by rw [hw]), trivial⟩)
            · rw [hn] at h1; cases h1
          · rcases hrf with ⟨h1, _⟩ | ⟨fl2, u, h1, rfl, hru⟩
            · rw [hs] at h1; cases h1
            · rw [hs] at h1
              cases h1
              obtain ⟨f1, f2, t, f3, f4⟩ := srF_some hs rfl
              have e4 := sameT (m + 10) fl (by omega) w u g3 (hrw.ext X3) hru
              obtain ⟨pa, pc, hp⟩ := hrw.shape
              obtain ⟨ra, rc, hr2⟩ := hru.shape
              subst hp
              subst hr2
              refine sy_call 0 (by kernel_rfl) e2 ?_
              refine ok_go 4 ?_
              refine sy_no 0 (b := decide (Int.ofNat K < 1)) (by kernel_rfl) (decide_eq_false (by show ¬ (K : Int) < 1; omega)) ?_
              refine ok_go 3 ?_
              refine sy_no 0 (b := decide (Int.ofNat K > 5)) (by kernel_rfl) (decide_eq_false (by show ¬ (5 : Int) < (K : Int); omega)) ?_
              refine ok_go 2 ?_
              refine sy_no 0 (b := decide (Int.ofNat L.length > 60)) (by kernel_rfl) (decide_eq_false (by show ¬ (60 : Int) < (L.length : Int); omega)) ?_
              refine ok_go 4 ?_
              refine sy_yes 0 (b := decide (Int.ofNat L.length ≤ 24)) (by kernel_rfl) (decide_eq_true (by show (L.length : Int) ≤ 24; omega)) ?_
              refine ok_go 0 ?_
              refine sy_call 0 (by kernel_rfl) e3 ?_
              refine ok_go 11 ?_
              refine sy_call 0 (by kernel_rfl) e4 ?_
              refine ok_go 8 ?_
              refine sy_any 0 (p := fun y => Rds g3 y ((L.take 20).map J) ∧ WfS y) (h' := g3) ?_ ?_
              · rcases hsl with ⟨rfl, rfl, rfl⟩ | ⟨ra, y, rfl, hy1, hy2, hy3⟩
                · exact ⟨.slice none 0 0, ⟨.inl ⟨⟨_, rfl⟩, rfl⟩, rfl, rfl⟩, by kernel_rfl⟩
                · exact ⟨y, ⟨hy2.ext (X2.trans X3), hy3⟩, (by kernel_rfl : _ = (sliceOp Tryz.prog 28 (.slice (some ra) L.length oc) none (some (I (if Int.ofNat 20 < Int.ofNat L.length then Int.ofNat 20 else Int.ofNat L.length))) none).map (·, g3)).trans (by rw [hy1]; rfl)⟩
              rintro y ⟨hy2, hy3⟩
              obtain ⟨ca, cc, hce⟩ := hy2.shape
              rw [List.length_map] at hce
              subst hce
              refine ok_go 1 ?_
              exact sy_next 0 _ g3 (by kernel_rfl) (by kernel_rfl) (ih (i + 1, IntKind.i64.wrap (1 + IntKind.i64.wrap ((IntKind.u64.wrap (Int.ofNat K)).tmod (IntKind.u64.wrap (IntKind.i64.wrap (4 + 1))))), L.take 20, ca, cc) _ g3 ⟨hlt, hr.sublist (List.take_sublist ..), fun y hy => hlb y (List.mem_of_mem_take hy), by dsimp only; rw [List.length_take]; omega, hy2, hy3, X.trans (X2.trans X3)⟩ (show 2 - (i + 1) < 2 - i by omega) ⟨by kernel_rfl, by kernel_rfl, by kernel_rfl, by kernel_rfl, (by kernel_rfl : _ = I (IntKind.wrap .i64 (Int.ofNat (i + 1)))).trans (by rw [hw]), trivial⟩)
        · rcases hfl with ⟨hn, rfl⟩ | ⟨fl, w, hs, rfl, hrw, hwf2⟩
          · refine sy_call 0 (by kernel_rfl) e2 ?_
            refine ok_go 4 ?_
            refine sy_no 0 (b := decide (Int.ofNat K < 1)) (by kernel_rfl) (decide_eq_false (by show ¬ (K : Int) < 1; omega)) ?_
            refine ok_go 3 ?_
            refine sy_no 0 (b := decide (Int.ofNat K > 5)) (by kernel_rfl) (decide_eq_false (by show ¬ (5 : Int) < (K : Int); omega)) ?_
            refine ok_go 2 ?_
            refine sy_no 0 (b := decide (Int.ofNat L.length > 60)) (by kernel_rfl) (decide_eq_false (by show ¬ (60 : Int) < (L.length : Int); omega)) ?_
            refine ok_go 4 ?_
            refine sy_no 0 (b := decide (Int.ofNat L.length ≤ 24)) (by kernel_rfl) (decide_eq_false (by show ¬ (L.length : Int) ≤ 24; omega)) ?_
            refine ok_go 18 ?_
            refine sy_any 0 (p := fun y => Rds g2 y ((L.take 20).map J) ∧ WfS y) (h' := g2) ?_ ?_
            · rcases hsl with ⟨rfl, rfl, rfl⟩ | ⟨ra, y, rfl, hy1, hy2, hy3⟩
              · exact ⟨.slice none 0 0, ⟨.inl ⟨⟨_, rfl⟩, rfl⟩, rfl, rfl⟩, by kernel_rfl⟩
              · exact ⟨y, ⟨hy2.ext (X2), hy3⟩, (by kernel_rfl : _ = (sliceOp Tryz.prog 28 (.slice (some ra) L.length oc) none (some (I (if Int.ofNat 20 < Int.ofNat L.length then Int.ofNat 20 else Int.ofNat L.length))) none).map (·, g2)).trans (by rw [hy1]; rfl)⟩
            rintro y ⟨hy2, hy3⟩
            obtain ⟨ca, cc, hce⟩ := hy2.shape
            rw [List.length_map] at hce
            subst hce
            refine ok_go 1 ?_
            exact sy_next 0 _ g2 (by kernel_rfl) (by kernel_rfl) (ih (i + 1, IntKind.i64.wrap (1 + IntKind.i64.wrap ((IntKind.u64.wrap (Int.ofNat K)).tmod (IntKind.u64.wrap (IntKind.i64.wrap (4 + 1))))), L.take 20, ca, cc) _ g2 ⟨hlt, hr.sublist (List.take_sublist ..), fun y hy => hlb y (List.mem_of_mem_take hy), by dsimp only; rw [List.length_take]; omega, hy2, hy3, X.trans (X2)⟩ (show 2 - (i + 1) < 2 - i by omega) ⟨by kernel_rfl, by kernel_rfl, by kernel_rfl, by kernel_rfl, (by kernel_rfl : _ = I (IntKind.wrap .i64 (Int.ofNat (i + 1)))).trans (by rw [hw]), trivial⟩)
          · obtain ⟨f1, f2, t, f3, f4⟩ := srF_some hs rfl
            rw [List.nil_append] at f4
            subst f4
            have hfb : ∀ y ∈ fl, y < 2 ^ N := fun y hy => hlb y (f3.subset hy)
            obtain ⟨_, g3, e3, he3, X3⟩ := risfl_ok 100000 (m + 7) (by decide) N (by omega) L (by omega) hlb (.slice oa L.length oc) fl (by omega) (by intro h; rw [h] at f1; simp at f1; omega) hfb w g2 (R.ext X2) hrw (rchk_nat 100000 (m + 9) (by decide) N (by omega) L (by omega) hr hlb _ g2 (R.ext X2)) (rchk_nat 100000 (m + 9) (by decide) N (by omega) fl (by omega) (hr.sublist f3) hfb _ g2 hrw)
            rw [f2, decide_eq_true fun x hx => f3.subset hx] at he3
            subst he3
            obtain ⟨pa, pc, hp⟩ := hrw.shape
            rw [List.length_map, f1] at hp
            subst hp
            refine sy_call 0 (by kernel_rfl) e2 ?_
            refine ok_go 4 ?_
            refine sy_no 0 (b := decide (Int.ofNat K < 1)) (by kernel_rfl) (decide_eq_false (by show ¬ (K : Int) < 1; omega)) ?_
            refine ok_go 3 ?_
            refine sy_no 0 (b := decide (Int.ofNat K > 5)) (by kernel_rfl) (decide_eq_false (by show ¬ (5 : Int) < (K : Int); omega)) ?_
            refine ok_go 2 ?_
            refine sy_no 0 (b := decide (Int.ofNat L.length > 60)) (by kernel_rfl) (decide_eq_false (by show ¬ (60 : Int) < (L.length : Int); omega)) ?_
            refine ok_go 4 ?_
            refine sy_no 0 (b := decide (Int.ofNat L.length ≤ 24)) (by kernel_rfl) (decide_eq_false (by show ¬ (L.length : Int) ≤ 24; omega)) ?_
            refine ok_go 7 ?_
            refine sy_call 0 (by kernel_rfl) e3 ?_
            refine ok_go 14 ?_
            refine sy_no 0 (b := Int.ofNat K != Int.ofNat K) (by kernel_rfl) (bne_self_eq_false _) ?_
            refine ok_go 4 ?_
            refine sy_any 0 (p := fun y => Rds g3 y ((L.take 20).map J) ∧ WfS y) (h' := g3) ?_ ?_
            · rcases hsl with ⟨rfl, rfl, rfl⟩ | ⟨ra, y, rfl, hy1, hy2, hy3⟩
              · exact ⟨.slice none 0 0, ⟨.inl ⟨⟨_, rfl⟩, rfl⟩, rfl, rfl⟩, by kernel_rfl⟩
              · exact ⟨y, ⟨hy2.ext (X2.trans X3), hy3⟩, (by kernel_rfl : _ = (sliceOp Tryz.prog 28 (.slice (some ra) L.length oc) none (some (I (if Int.ofNat 20 < Int.ofNat L.length then Int.ofNat 20 else Int.ofNat L.length))) none).map (·, g3)).trans (by rw [hy1]; rfl)⟩
            rintro y ⟨hy2, hy3⟩
            obtain ⟨ca, cc, hce⟩ := hy2.shape
            rw [List.length_map] at hce
            subst hce
            refine ok_go 1 ?_
            exact sy_next 0 _ g3 (by kernel_rfl) (by kernel_rfl) (ih (i + 1, IntKind.i64.wrap (1 + IntKind.i64.wrap ((IntKind.u64.wrap (Int.ofNat K)).tmod (IntKind.u64.wrap (IntKind.i64.wrap (4 + 1))))), L.take 20, ca, cc) _ g3 ⟨hlt, hr.sublist (List.take_sublist ..), fun y hy => hlb y (List.mem_of_mem_take hy), by dsimp only; rw [List.length_take]; omega, hy2, hy3, X.trans (X2.trans X3)⟩ (show 2 - (i + 1) < 2 - i by omega) ⟨by kernel_rfl, by kernel_rfl, by kernel_rfl, by kernel_rfl, (by kernel_rfl : _ = I (IntKind.wrap .i64 (Int.ofNat (i + 1)))).trans (by rw [hw]), trivial⟩)
  · intro hlt
    have hi2 : i = 2 := Nat.le_antisymm hi (no_nat (b := 2) hlt)
    clear ih
    have hgb : g.get b = some (.cells [u1, .slice ya ys.length yc] 75 false) := (X.get b hb).trans hg
    obtain ⟨fv, g2, e2, ⟨R2, hwf2⟩, X2⟩ := raw2_of 100000 (m + 10) 8 (by decide) ys _ g (hy.ext X) hwf
    have hzl : (ys.take 8).length ≤ 64 := by rw [List.length_take]; omega
    refine ok_go 1 ?_
    refine sy_load 0 (r := loadT Tryz.prog g 28 (ptr b 1)) (h' := g) (v := .slice ya ys.length yc) (by kernel_rfl) (load1 (by kernel_rfl) hgb rfl) ?_
    refine ok_go 0 ?_
    refine sy_call 0 (by kernel_rfl) e2 ?_
    refine ok_go 0 ?_
    generalize ys.take 8 = zs at *
    obtain ⟨fa, fc, hfe⟩ := R2.shape
    rw [List.length_map] at hfe
    subst hfe
    refine sy_loop 0 100000 g2 (α := Nat × List Int × Option Addr × Nat) (fun y => [(0, J N), (5, ptr b 0), (7, .slice oa L.length oc), (16, .slice y.2.2.1 y.2.1.length y.2.2.2), (17, J y.1)]) (fun y g' => y.1 ≤ 2 ∧ y.2.1.length ≤ 64 ∧ Rds g' (.slice y.2.2.1 y.2.1.length y.2.2.2) (y.2.1.map I) ∧ WfS (.slice y.2.2.1 y.2.1.length y.2.2.2) ∧ g.Ext g') (fun y _ => 2 - y.1) (0, zs, fa, fc) (by kernel_rfl) (by kernel_rfl)
      ⟨by kernel_rfl, by kernel_rfl, by kernel_rfl, by kernel_rfl, by kernel_rfl, trivial⟩ (show 2 - 0 < 100000 by omega) ⟨Nat.zero_le _, hzl, R2, hwf2, X2⟩ ?_
    clear e2 R2 hwf2 X2 hzl
    rintro m2 ⟨r, zs, fa, fc⟩ F2 g2 ⟨hr2, hzl, R2, hwf2, X2⟩ ih
    dsimp only at hr2 hzl R2 hwf2 X2
    have hw : IntKind.wrap .i64 (Int.ofNat (r + 1)) = Int.ofNat (r + 1) := wrap_nat (by omega)
    refine ok_go 1 ?_
    refine sy_test 0 (decide (Int.ofNat r < 2)) (by kernel_rfl) ?_ ?_
    · intro hlr
      have hlr : r < 2 := ok_nat (b := 2) hlr
      obtain ⟨bb, e3, _, g3, e4, rfl, X3⟩ := both_isfl 100000 (m + 7) (by decide) N (by omega) L hr hlb (by omega) (.slice oa L.length oc) zs (by omega) _ g2 (R.ext X2) hwf2 R2
      refine ok_go 0 ?_
      refine sy_call 0 (by kernel_rfl) e3 ?_
      refine ok_go 0 ?_
      refine sy_call 0 (by kernel_rfl) e4 ?_
      refine ok_go 1 ?_
      refine sy_no 0 (b := !(bb == bb)) (by kernel_rfl) (by rw [beq_self_eq_true]; rfl) ?_
      have XB := X.trans (X2.trans X3)
      have W := Sto.start g3
      refine ok_go 0 ?_
      refine sy_loop 0 100000 g3 (α := Nat × Nat × List Nat × Option Addr × Nat) (fun y => [(0, J N), (5, ptr b 0), (7, .slice oa L.length oc), (16, .slice y.2.2.2.1 y.2.2.1.length y.2.2.2.2), (17, J r), (18, J y.1)]) (fun y g' => (y.1 ≤ L.length ∧ y.2.2.1.length ≤ y.1) ∧ .slice y.2.2.2.1 y.2.2.1.length y.2.2.2.2 = oslV y.2.1 y.2.2.1.length ∧ Sto g3 g' (oent y.2.1 3 (y.2.2.1.map J))) (fun y _ => L.length - y.1) (0, 0, [], none, 0) (by kernel_rfl) (by kernel_rfl)
        ⟨by kernel_rfl, by kernel_rfl, by kernel_rfl, by kernel_rfl, by kernel_rfl, by kernel_rfl, trivial⟩ (show L.length - 0 < 100000 by omega) ⟨⟨Nat.zero_le _, Nat.le_refl _⟩, rfl, W⟩ ?_
      clear W
      rintro m3 ⟨j, q, s, sa, sc⟩ F3 g4 ⟨⟨hj, hsj⟩, hos, W⟩ ih2
      dsimp only at hj hsj hos W
      have hwj : IntKind.wrap .i64 (Int.ofNat (j + 1)) = Int.ofNat (j + 1) := wrap_nat (by omega)
      have XC := XB.trans W.ext
      have hgb4 : g4.get b = some (.cells [u1, .slice ya ys.length yc] 75 false) := (XC.get b hb).trans hg
      refine ok_go 2 ?_
      refine sy_test 0 (decide (Int.ofNat j < Int.ofNat L.length)) (by kernel_rfl) ?_ ?_
      · intro hlj
        have hlj : j < L.length := ok_nat hlj
        refine ok_go 1 ?_
        refine sy_load 0 (r := loadT Tryz.prog g4 28 (ptr b 1)) (h' := g4) (v := .slice ya ys.length yc) (by kernel_rfl) (load1 (by kernel_rfl) hgb4 rfl) ?_
        refine ok_go 2 ?_
        by_cases hjy : j < ys.length
        · obtain ⟨p, hp1, hp2⟩ := rdI (hy.ext XC) hjy
          generalize ys[j] = yj at *
          refine sy_yes 0 (b := decide (Int.ofNat j < Int.ofNat ys.length)) (by kernel_rfl) (decide_eq_true (by show (j : Int) < (ys.length : Int); omega)) ?_
          refine ok_go 2 ?_
          refine sy_load 0 (r := loadT Tryz.prog g4 28 (ptr b 1)) (h' := g4) (v := .slice ya ys.length yc) (by kernel_rfl) (load1 (by kernel_rfl) hgb4 rfl) ?_
          refine ok_go 2 ?_
          refine sy_load 0 (r := indexAddrOp Tryz.prog 28 (.slice ya ys.length yc) (J j)) (h' := g4) (by kernel_rfl) hp1 ?_
          refine ok_go 1 ?_
          refine sy_load 0 (r := loadT Tryz.prog g4 3 p) (h' := g4) (by kernel_rfl) hp2 ?_
          refine ok_go 5 ?_
          by_cases hm : (yj.tmod 3 == 0) = true
          · obtain ⟨p2, h21, h22⟩ := rdN ((R.ext X2).ext (X3.trans W.ext)) hlj
            generalize L[j] = x at *
            refine sy_yes 0 (b := yj.tmod 3 == 0) (by kernel_rfl) hm ?_
            refine ok_go 0 ?_
            refine sy_load 0 (r := indexAddrOp Tryz.prog 28 (.slice oa L.length oc) (J j)) (h' := g4) (by kernel_rfl) h21 ?_
            refine ok_go 0 ?_
            refine sy_load 0 (r := loadT Tryz.prog g4 3 p2) (h' := g4) (by kernel_rfl) h22 ?_
            refine ow_new 0 W (AObj.cells [Value.int IntKind.i64 (Int.ofNat x)] 3 false) (fun q => Value.slice (some { block := q, off := 0 }) 1 2) (by kernel_rfl) fun k1 nk1 Wk1 => ?_
            have W := Wk1
            have W : Sto g3 k1 ((g4.next, .cells [J x] 3 false) :: ([] ++ oent q 3 (s.map J))) := W
            refine ow_app (P := Tryz.prog) (t := 28) (e := 3) (z := 1) (c := s.length) (i := q) 0 W slz28 (by rw [List.length_map, Nat.mul_one]) rfl rfl (by omega) (by rw [← hos]; kernel_rfl) fun k2 sl nk2 hsl hsc W => ?_
            obtain ⟨oa2, oc2, ho2⟩ := osl_shape k1.next (s.length + 1)
            rw [ho2] at hsl
            subst hsl
            have W : Sto g3 k2 (oent k1.next 3 ((s ++ [x]).map J)) := by rw [List.map_append]; exact W
            have hlx : (s ++ [x]).length = s.length + 1 := by rw [List.length_append, List.length_singleton]
            refine ok_go 1 ?_
            exact sy_next 0 _ k2 (by kernel_rfl) (by kernel_rfl) (ih2 (j + 1, k1.next, s ++ [x], oa2, oc2) _ k2 ⟨⟨hlj, by dsimp only; omega⟩, by dsimp only; rw [hlx]; exact ho2.symm, W⟩ (show L.length - (j + 1) < L.length - j by omega) ⟨by kernel_rfl, by kernel_rfl, by kernel_rfl, (by kernel_rfl : _ = Value.slice oa2 (s.length + 1) oc2).trans (by dsimp only; rw [hlx]), by kernel_rfl, (by kernel_rfl : _ = I (IntKind.wrap .i64 (Int.ofNat (j + 1)))).trans (by rw [hwj]), trivial⟩)
          · refine sy_no 0 (b := yj.tmod 3 == 0) (by kernel_rfl) (Bool.eq_false_iff.2 hm) ?_
            refine ok_go 1 ?_
            exact sy_next 0 _ g4 (by kernel_rfl) (by kernel_rfl) (ih2 (j + 1, q, s, sa, sc) _ g4 ⟨⟨hlj, by dsimp only; omega⟩, hos, W⟩ (show L.length - (j + 1) < L.length - j by omega) ⟨by kernel_rfl, by kernel_rfl, by kernel_rfl, by kernel_rfl, by kernel_rfl, (by kernel_rfl : _ = I (IntKind.wrap .i64 (Int.ofNat (j + 1)))).trans (by rw [hwj]), trivial⟩)
        · refine sy_no 0 (b := decide (Int.ofNat j < Int.ofNat ys.length)) (by kernel_rfl) (decide_eq_false (by show ¬ (j : Int) < (ys.length : Int); omega)) ?_
          refine ok_go 9 ?_
          exact sy_next 0 _ g4 (by kernel_rfl) (by kernel_rfl) (ih2 (j + 1, q, s, sa, sc) _ g4 ⟨⟨hlj, by dsimp only; omega⟩, hos, W⟩ (show L.length - (j + 1) < L.length - j by omega) ⟨by kernel_rfl, by kernel_rfl, by kernel_rfl, by kernel_rfl, by kernel_rfl, (by kernel_rfl : _ = I (IntKind.wrap .i64 (Int.ofNat (j + 1)))).trans (by rw [hwj]), trivial⟩)
      · intro hlj
        have hlj : j = L.length := Nat.le_antisymm hj (no_nat hlj)
        subst hlj
        have hRs : Rds g4 (.slice sa s.length sc) (s.map J) := by
          rw [hos]
          have := lst_rds W
          rwa [List.length_map] at this
        have hws : WfS (.slice sa s.length sc) := by rw [hos]; exact wf_osl _ _
        refine ok_go 1 ?_
        exact sy_next 0 _ g4 (by kernel_rfl) (by kernel_rfl) (ih (r + 1, s.map Int.ofNat, sa, sc) _ g4 ⟨hlr, by dsimp only; rw [List.length_map]; omega, by dsimp only; rw [List.length_map, List.map_map]; exact hRs, by dsimp only; rw [List.length_map]; exact hws, X2.trans (X3.trans W.ext)⟩ (show 2 - (r + 1) < 2 - r by omega) ⟨by kernel_rfl, by kernel_rfl, by kernel_rfl, (by kernel_rfl : _ = Value.slice sa s.length sc).trans (by dsimp only; rw [List.length_map]), (by kernel_rfl : _ = I (IntKind.wrap .i64 (Int.ofNat (r + 1)))).trans (by rw [hw]), trivial⟩)
    · intro hlr
      refine ok_go 1 ?_
      exact sy_done 0 (v := .bool true) (h := g2) (by kernel_rfl) rfl
theorem law8 (m : Nat) (z : Int) (xs ws ys : List Int) (hxs : xs.length < 2 ^ 63) (hws : ws.length < 2 ^ 63) (hys : ys.length < 2 ^ 63) (x : Value) (wa ya : Option Addr) (wc yc : Nat) (h : Hp) (hx : Rds h x (xs.map I)) (hw : Rds h (.slice wa ws.length wc) (ws.map I)) (hy : Rds h (.slice ya ys.length yc) (ys.map I)) (hwf : WfS (.slice ya ys.length yc)) : ∃ H, Ev 100000 (m + 12) 8 [I z, x, .agg #[.slice wa ws.length wc, .slice ya ys.length yc]] h = some (.bool true, H) := by
  refine yesT ?_
  obtain ⟨N, hN8, hZ⟩ := f_size z
  obtain ⟨xa, xc, hxe⟩ := hx.shape
  rw [List.length_map] at hxe
  subst hxe
  have h2N : 2 ^ N ≤ 256 := Nat.pow_le_pow_right (by decide) hN8
  have W := Sto.start h
  refine ow_new 0 W (AObj.cells [.slice wa ws.length wc, .slice ya ys.length yc] 75 false) (fun q => ptr q 0) (by kernel_rfl) fun g1 ng1 W => ?_
  generalize h.next = b at *
  obtain ⟨v1, g2, e1, f, q1, hcn, hv1, W2⟩ := tame2_of 100000 (m + 10) (by decide) N 64 (by omega) (by decide) xs hxs _ g1 (hx.ext W.ext)
  have R1 := lst_rd W2
  subst hv1
  have hwf1 := wf_osl q1 (lst f (2 ^ N)).length
  have hri := lst_rise f (2 ^ N)
  have hlm : ∀ y ∈ lst f (2 ^ N), y < 2 ^ N := fun y hy => (lst_mem.1 hy).1
  have eN : J N = I (zF z) := by rw [hZ]
  generalize hL : lst f (2 ^ N) = L at *
  obtain ⟨oa, oc, ho⟩ := osl_shape q1 L.length
  rw [ho] at e1 R1 hwf1
  rw [eN] at e1
  have W := W.call W2.ext
  have hw2 := hw.ext W.ext
  have hInv : ∀ k, Inv8 N g2 (0, k, L, oa, oc) g2 := fun k => ⟨Nat.zero_le _, hri, hlm, hcn, R1, hwf1, Hp.Ext.refl _⟩
  have hstep := step8 m N hN8 ys hys (.slice wa ws.length wc) ya yc b g2 (W.lt 0 rfl) (W.get 0 rfl) (hy.ext W.ext) hwf
  refine ok_go 1 ?_
  refine sy_call 0 (by kernel_rfl) e1 ?_
  refine ow_load (P := Tryz.prog) (T := 28) (off := 0) 1 0 W rfl rfl (by kernel_rfl) (by kernel_rfl) ?_
  refine ok_go 2 ?_
  by_cases h0 : ws.length = 0
  · refine sy_no 0 (b := decide (Int.ofNat ws.length > 0)) (by kernel_rfl) (decide_eq_false (by show ¬ (0 : Int) < (ws.length : Int); omega)) ?_
    refine sy_loopF 0 100000 g2 (val8 N b) (Inv8 N g2) (fun x _ => 2 - x.1) (0, 0, L, oa, oc) (fam8 m) (by kernel_rfl) (by kernel_rfl) (fam8A m _ _ _ z wa ya _ _ _ _ _ _ _ _ b xa oa)
      ⟨(by kernel_rfl : _ = I (zF z)).trans (by rw [hZ]), by kernel_rfl, by kernel_rfl, by kernel_rfl, by kernel_rfl, trivial⟩ (show 2 - 0 < 100000 by omega) (hInv _) hstep
  · obtain ⟨p, hp1, hp2⟩ := rdI hw2 (k := 0) (by omega)
    refine sy_yes 0 (b := decide (Int.ofNat ws.length > 0)) (by kernel_rfl) (decide_eq_true (by show (0 : Int) < (ws.length : Int); omega)) ?_
    refine ow_load (P := Tryz.prog) (T := 28) (off := 0) 1 0 W rfl rfl (by kernel_rfl) (by kernel_rfl) ?_
    refine sy_load 0 (r := indexAddrOp Tryz.prog 28 (.slice wa ws.length wc) (J 0)) (h' := g2) (by kernel_rfl) hp1 ?_
    refine ok_go 0 ?_
    refine sy_load 0 (r := loadT Tryz.prog g2 3 p) (h' := g2) (by kernel_rfl) hp2 ?_
    refine sy_loopF 0 100000 g2 (val8 N b) (Inv8 N g2) (fun x _ => 2 - x.1) (0, ws[0], L, oa, oc) (fam8 m) (by kernel_rfl) (by kernel_rfl) (fam8B m _ _ _ z _ p wa ya _ _ _ _ _ _ _ _ b xa oa)
      ⟨(by kernel_rfl : _ = I (zF z)).trans (by rw [hZ]), by kernel_rfl, by kernel_rfl, by kernel_rfl, by kernel_rfl, trivial⟩ (show 2 - 0 < 100000 by omega) (hInv _) hstep
end Go.Proofs.YtkfbfgcflnkllaaGreatDoor
namespace Go.Proofs.YtkfbfgcflnkllaaGreatDoor
open Go Go.Eng Nim Go.ChangeShapes
set_option maxRecDepth 100000
theorem u75 : Tryz.prog.underlying 75 = some (.array 2 28) := by kernel_rfl
theorem c75 : Tryz.prog.cellsOf 75 = 2 := by kernel_rfl
theorem c28 : Tryz.prog.cellsOf 28 = 1 := by kernel_rfl
section
variable {HH : Type} {enc : TypeId × Value → HH} {B : Prot} {w0 w : World}
theorem openIntsArgX {E : Env} {h : Hp} (H : HpOK Tryz.prog B w0 E h w) (hB : ∀ k, k < w.heap.size → B.ro k) {v0 : Value} {base : Nat} {d : DataW HH} {p : List MemPlace} (hval : Value.okWide Tryz.prog w .any base 28 v0)
    (ht : DataW.Trod enc Tryz.prog w 0 (fun _ => true) true 28 v0 d p) :
    ∃ (E' : Env) (h' : Hp) (xa : Option Addr) (xc : Nat) (zs : List Int), HpOK Tryz.prog B w0 E' h' w ∧ con E' (.slice xa zs.length xc) = v0 ∧ sc h'.next (.slice xa zs.length xc) = true ∧ Rds h' (.slice xa zs.length xc) (zs.map I) ∧ WfS (.slice xa zs.length xc) ∧ zs.length < 2 ^ 63 ∧ Agree h.next E E' ∧ h.Ext h' := by
  obtain ⟨fuel, ht⟩ := ht
  have hsl : ∃ a l c, v0 = .slice a l c := by
    unfold Value.okWide at hval
    rw [u28] at hval
    simp only [Cell.okWide, u28, Cell.ok] at hval
    cases v0 <;> first | exact ⟨_, _, _, rfl⟩ | simp at hval
  obtain ⟨a0, l0, c0, rfl⟩ := hsl
  have hcells : (Value.slice a0 l0 c0).cells.toList = [.slice a0 l0 c0] := rfl
  rw [hcells] at ht
  obtain ⟨E', h', v, r, j1, j2, j3, j4, j5, j6, j7, j8, j9⟩ := openInts H hB ht
  obtain ⟨xa, xc, hs⟩ := j6.shape
  rw [List.length_map] at hs
  subst hs
  exact ⟨E', h', xa, xc, r, j1, j4, j5, j6, j9, j8, j2, j3⟩
theorem openPairArg {E : Env} {h : Hp} (H : HpOK Tryz.prog B w0 E h w) (hB : ∀ k, k < w.heap.size → B.ro k) {v0 : Value} {base : Nat} {d : DataW HH} {p : List MemPlace} (hval : Value.okWide Tryz.prog w .any base 75 v0)
    (ht : DataW.Trod enc Tryz.prog w 0 (fun _ => true) true 75 v0 d p) :
    ∃ (E' : Env) (h' : Hp) (wa : Option Addr) (wc : Nat) (ws : List Int) (ya : Option Addr) (yc : Nat) (ys : List Int), HpOK Tryz.prog B w0 E' h' w ∧ con E' (.agg #[.slice wa ws.length wc, .slice ya ys.length yc]) = v0 ∧ sc h'.next (.agg #[.slice wa ws.length wc, .slice ya ys.length yc]) = true ∧
      Rds h' (.slice wa ws.length wc) (ws.map I) ∧ ws.length < 2 ^ 63 ∧ Rds h' (.slice ya ys.length yc) (ys.map I) ∧ WfS (.slice ya ys.length yc) ∧ ys.length < 2 ^ 63 ∧ Agree h.next E E' ∧ h.Ext h' := by
  obtain ⟨fuel, ht⟩ := ht
  unfold Value.okWide at hval
  rw [u75] at hval
  obtain ⟨cs, rfl, hsz, _⟩ := hval
  rw [c75] at hsz
  have hcells : (Value.agg cs).cells.toList = cs.toList := rfl
  rw [hcells] at ht
  obtain ⟨xs, m, _, _, _, hxl, hel⟩ := DataW.trod_array u75 ht
  obtain ⟨l⟩ := cs
  have hsz : l.length = 2 := hsz
  match l, hsz with
  | [c0, c1], _ =>
    have g0 := hel 0 (by decide)
    have g1 := hel 1 (by decide)
    rw [List.getElem?_eq_getElem (show 0 < xs.length by omega), c28] at g0
    rw [List.getElem?_eq_getElem (show 1 < xs.length by omega), c28] at g1
    obtain ⟨E1, h1, v, r, j1, j2, j3, j4, j5, j6, j7, j8, j9⟩ := openInts H hB (c := c0) g0
    obtain ⟨E2, h2, v', r', k1, k2, k3, k4, k5, k6, k7, k8, k9⟩ := openInts j1 hB (c := c1) g1
    obtain ⟨wa, wc, hs⟩ := j6.shape
    rw [List.length_map] at hs
    subst hs
    obtain ⟨ya, yc, hs⟩ := k6.shape
    rw [List.length_map] at hs
    subst hs
    refine ⟨E2, h2, wa, wc, r, ya, yc, r', k1, ?_, ?_, j6.ext k3, j8, k6, k9, k8, j2.trans k2 j3.next, j3.trans k3⟩
    · show Value.agg ⟨[con E2 (.slice wa r.length wc), con E2 (.slice ya r'.length yc)]⟩ = _
      rw [k4, ← con_congr k2 _ j5, j4]
    · show (sc h2.next (.slice wa r.length wc) && (sc h2.next (.slice ya r'.length yc) && true)) = true
      rw [k5, sc_mono k3.next _ j5]; rfl
end
theorem said8 (z : Int) (xs : List Int) (hxs : xs.length < 2 ^ 63) (xa : Option Addr) (xc : Nat) (ws ys : List Int) (hws : ws.length < 2 ^ 63) (hys : ys.length < 2 ^ 63) (wa : Option Addr) (wc : Nat) (ya : Option Addr) (yc : Nat) (h : Hp) (hx : Rds h (.slice xa xs.length xc) (xs.map I)) (hw : Rds h (.slice wa ws.length wc) (ws.map I)) (hy : Rds h (.slice ya ys.length yc) (ys.map I)) (hwf : WfS (.slice ya ys.length yc)) :
    ∃ H, evInv Tryz.prog orc 100000 1000 (.fn 8 [.int .i64 z, .slice xa xs.length xc, .agg #[.slice wa ws.length wc, .slice ya ys.length yc]]) h = some (.bool true, H) :=
  law8 988 z xs ws ys hxs hws hys _ wa ya wc yc h hx hw hy hwf
end Go.Proofs.YtkfbfgcflnkllaaGreatDoor
