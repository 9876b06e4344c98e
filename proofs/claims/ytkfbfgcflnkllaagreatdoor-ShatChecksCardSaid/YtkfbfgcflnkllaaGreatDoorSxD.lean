/- Families: what Check says, and the reference's. -/
import Derived.Test.YtkfbfgcflnkllaaGreatDoorProg
import Derived.KernelRfl
import Derived.Test.YtkfbfgcflnkllaaGreatDoorSyF
import Derived.Test.YtkfbfgcflnkllaaGreatDoorSxC
import Derived.Test.YtkfbfgcflnkllaaGreatDoorSyD
import Derived.ChangeSlices
import Derived.ChangeArms
namespace Go.Proofs.YtkfbfgcflnkllaaGreatDoor
open Go Go.Eng Nim
set_option maxRecDepth 100000
set_option maxHeartbeats 8000000
theorem rdI {h : Hp} {rv : Value} {zs : List Int} (hr : Rds h rv (zs.map I)) {k : Nat} (hk : k < zs.length) : ∃ p, indexAddrOp Tryz.prog 28 rv (J k) = some p ∧ loadT Tryz.prog h 3 p = some (I zs[k]) :=
  hr.read (e := 3) (by kernel_rfl) (by kernel_rfl) (by kernel_rfl) (by rw [List.getElem?_map, List.getElem?_eq_getElem hk]; rfl)
theorem rdN {h : Hp} {rv : Value} {r : List Nat} (hr : Rds h rv (r.map J)) {k : Nat} (hk : k < r.length) : ∃ p, indexAddrOp Tryz.prog 28 rv (J k) = some p ∧ loadT Tryz.prog h 3 p = some (J r[k]) :=
  hr.read (e := 3) (by kernel_rfl) (by kernel_rfl) (by kernel_rfl) (by rw [List.getElem?_map, List.getElem?_eq_getElem hk]; rfl)
theorem all_I (l : List Int) : (l.map I).all scalar = true := List.all_eq_true.2 fun v hv => by obtain ⟨n, _, rfl⟩ := List.mem_map.1 hv; rfl
theorem all_J (l : List Nat) : (l.map J).all scalar = true := List.all_eq_true.2 fun v hv => by obtain ⟨n, _, rfl⟩ := List.mem_map.1 hv; rfl
/-- What a cut of an argument, appended to none, comes to. -/
theorem raw_of (lf m : Nat) (k : Nat) (hk : k < 16777216) (zs : List Int) (x : Value) (h : Hp) (hx : Rds h x (zs.map I)) (hwf : WfS x) :
    ∃ v h', Ev lf (m + 1) 46 [x, J k] h = some (v, h') ∧ Rds h' v ((zs.take k).map I) ∧ h.Ext h' := by
  refine fnS_ok (Q := fun v h' => Rds h' v ((zs.take k).map I) ∧ h.Ext h') ?_
  have W := Sto.start h
  obtain ⟨xa, xc, hxs⟩ := hx.shape
  rw [List.length_map] at hxs
  subst hxs
  obtain ⟨K, hK, hK1, hK2, hK3⟩ : ∃ K : Nat, (if Int.ofNat k < Int.ofNat zs.length then Int.ofNat k else Int.ofNat zs.length) = Int.ofNat K ∧ K ≤ zs.length ∧ zs.take K = zs.take k ∧ K ≤ k := by
    by_cases h20 : k < zs.length
    · exact ⟨k, if_pos (by show (k : Int) < (zs.length : Int); omega), by omega, rfl, Nat.le_refl _⟩
    · exact ⟨zs.length, if_neg (by show ¬ (k : Int) < (zs.length : Int); omega), Nat.le_refl _, by rw [List.take_length, List.take_of_length_le (by omega)], by omega⟩
  obtain ⟨y, hy1, hy2⟩ := cut_row hwf hx (K := K) (by rw [List.length_map]; exact hK1)
  rw [← List.map_take, hK2] at hy2
  have hy1 : sliceOp Tryz.prog 28 (.slice xa zs.length xc) none (some (.int .i64 (Int.ofNat K))) none = some y := hy1
  rw [← hK] at hy1
  refine ok_go 2 ?_
  refine sy_any 0 (p := fun y => Rds h y ((zs.take k).map I)) (h' := h) ?_ ?_
  · cases xa with
    | none =>
      obtain ⟨h1, h2⟩ := hwf
      obtain rfl : zs = [] := List.eq_nil_of_length_eq_zero h1
      subst h2
      exact ⟨.slice none 0 0, .inl ⟨⟨_, rfl⟩, by rw [List.take_nil]; rfl⟩, by kernel_rfl⟩
    | some ra =>
      refine ⟨y, hy2, (by kernel_rfl : _ = (sliceOp Tryz.prog 28 (.slice (some ra) zs.length xc) none (some (.int .i64 (if Int.ofNat k < Int.ofNat zs.length then Int.ofNat k else Int.ofNat zs.length))) none).map (·, h)).trans ?_⟩
      rw [hy1]
      rfl
  intro y hy2
  obtain ⟨ya, yc, rfl⟩ := hy2.shape
  refine ok_go 0 ?_
  refine ow_rds 0 W slz28 hy2 (all_I _) (by rw [List.length_map, List.length_take]; omega) (by kernel_rfl) fun g2 sl2 ng2 hsl2 hsc2 W => ?_
  have RV : Rds g2 sl2 ((zs.take k).map I) := by
    rw [hsl2]
    exact osl_rd fun p hp => W.hold p (List.mem_append_right _ hp)
  obtain ⟨oa, oc, hos⟩ := RV.shape
  subst hos
  refine ok_go 0 ?_
  exact sy_done 0 (v := _) (h := g2) (by kernel_rfl) ⟨RV, W.ext⟩
/-- The number ahead of number i. -/
def lastI (zs : List Int) (i : Nat) : Int := if i = 0 then -1 else zs.getD (i - 1) 0
def badAt (n : Nat) (zs : List Int) (i : Nat) : Prop := zs.getD i 0 ≤ lastI zs i ∨ zs.getD i 0 ≥ 2 ^ n
def GoodTo (n : Nat) (zs : List Int) (k : Nat) : Prop := ∀ i, i < k → ¬ badAt n zs i
/-- What Check says: the first bad place, or none. -/
def FamR (n : Int) (zs : List Int) (e : Nat) : Prop := ((n < 0 ∨ 10 < n) ∧ e = 1) ∨ ∃ N : Nat, n = Int.ofNat N ∧ N ≤ 10 ∧ ((e = 80 ∧ ∃ i, i < zs.length ∧ GoodTo N zs i ∧ badAt N zs i) ∨ (e = 0 ∧ GoodTo N zs zs.length))
theorem FamR.uniq {n : Int} {zs : List Int} {e f : Nat} (h1 : FamR n zs e) (h2 : FamR n zs f) : e = f := by
  rcases h1 with ⟨a, rfl⟩ | ⟨N, rfl, hN, h1⟩ <;> rcases h2 with ⟨b, rfl⟩ | ⟨M, hM, hM2, h2⟩
  · rfl
  · subst hM
    have : ¬ ((Int.ofNat M) < 0 ∨ 10 < Int.ofNat M) := by rintro (h | h) <;> simp at h <;> omega
    exact absurd a this
  · have : ¬ ((Int.ofNat N) < 0 ∨ 10 < Int.ofNat N) := by rintro (h | h) <;> simp at h <;> omega
    exact absurd b this
  · cases hM
    rcases h1 with ⟨rfl, i, hi, _, hb⟩ | ⟨rfl, hg⟩ <;> rcases h2 with ⟨rfl, j, hj, _, hb2⟩ | ⟨rfl, hg2⟩
    · rfl
    · exact absurd hb (hg2 i hi)
    · exact absurd hb2 (hg j hj)
    · rfl
theorem FamR.ex (n : Int) (zs : List Int) : ∃ e, FamR n zs e := by
  by_cases h : n < 0 ∨ 10 < n
  · exact ⟨1, .inl ⟨h, rfl⟩⟩
  · obtain ⟨N, rfl⟩ := Int.eq_ofNat_of_zero_le (show 0 ≤ n by omega)
    have hN : N ≤ 10 := by simp at h; omega
    by_cases hg : GoodTo N zs zs.length
    · exact ⟨0, .inr ⟨N, rfl, hN, .inr ⟨rfl, hg⟩⟩⟩
    · have key : ∀ k, k ≤ zs.length → GoodTo N zs k ∨ ∃ i, i < k ∧ GoodTo N zs i ∧ badAt N zs i := fun k => by
        induction k with
        | zero => exact fun _ => .inl fun i hi => absurd hi (Nat.not_lt_zero i)
        | succ k ih =>
          intro hk
          rcases ih (by omega) with h | ⟨i, h1, h2, h3⟩
          · by_cases hb : badAt N zs k
            · exact .inr ⟨k, Nat.lt_succ_self k, h, hb⟩
            · refine .inl fun i hi => ?_
              rcases Nat.lt_succ_iff_lt_or_eq.1 hi with h' | rfl
              · exact h i h'
              · exact hb
          · exact .inr ⟨i, by omega, h2, h3⟩
      rcases key _ (Nat.le_refl _) with h | ⟨i, h1, h2, h3⟩
      · exact absurd h hg
      · exact ⟨80, .inr ⟨N, rfl, hN, .inl ⟨rfl, i, h1, h2, h3⟩⟩⟩
theorem chk_of (lf m : Nat) (n : Int) (zs : List Int) (hz : zs.length < 100000) (hlf : zs.length < lf) (x : Value) (h : Hp) (hx : Rds h x (zs.map I)) :
    ∃ e, FamR n zs e ∧ Ev lf (m + 1) 57 [I n, x] h = some (J e, h) := by
  suffices ∃ v h', Ev lf (m + 1) 57 [I n, x] h = some (v, h') ∧ ∃ e, FamR n zs e ∧ v = J e ∧ h' = h by
    obtain ⟨v, h', e1, e, e2, rfl, rfl⟩ := this
    exact ⟨e, e2, e1⟩
  refine fnS_ok (Q := fun v h' => ∃ e, FamR n zs e ∧ v = J e ∧ h' = h) ?_
  obtain ⟨xa, xc, hxs⟩ := hx.shape
  rw [List.length_map] at hxs
  subst hxs
  have W := Sto.start h
  by_cases h0 : n < 0
  · refine ok_go 1 ?_
    refine sy_yes 0 (b := decide (n < 0)) (by kernel_rfl) (decide_eq_true h0) ?_
    refine ok_go 3 ?_
    exact sy_done 0 (v := J 1) (h := h) (by kernel_rfl) ⟨1, .inl ⟨.inl h0, rfl⟩, rfl, rfl⟩
  refine ok_go 1 ?_
  refine sy_no 0 (b := decide (n < 0)) (by kernel_rfl) (decide_eq_false h0) ?_
  refine ok_go 3 ?_
  by_cases h10 : n > 10
  · refine sy_yes 0 (b := decide (n > 10)) (by kernel_rfl) (decide_eq_true h10) ?_
    refine ok_go 0 ?_
    exact sy_done 0 (v := J 1) (h := h) (by kernel_rfl) ⟨1, .inl ⟨.inr h10, rfl⟩, rfl, rfl⟩
  refine sy_no 0 (b := decide (n > 10)) (by kernel_rfl) (decide_eq_false h10) ?_
  obtain ⟨N, rfl⟩ := Int.eq_ofNat_of_zero_le (show 0 ≤ n by omega)
  have hN : N ≤ 10 := by have : ¬ (10 : Int) < (N : Int) := h10; omega
  have hsh := one_shl N (by omega)
  have hpw : Int.ofNat (2 ^ N) = (2 : Int) ^ N := by simp
  refine ok_go 1 ?_
  refine sy_loop 0 lf h (α := Nat) (fun i => [(0, J N), (5, I (lastI zs i)), (14, .slice xa zs.length xc), (15, J zs.length), (16, J i)]) (fun i g => i ≤ zs.length ∧ GoodTo N zs i ∧ g = h) (fun i _ => zs.length - i) 0 (by kernel_rfl) (by kernel_rfl)
    ⟨by kernel_rfl, by kernel_rfl, by kernel_rfl, by kernel_rfl, by kernel_rfl, trivial⟩ (show zs.length - 0 < lf by omega) ⟨Nat.zero_le _, fun i hi => absurd hi (Nat.not_lt_zero i), rfl⟩ ?_
  rintro m1 i F1 g ⟨hi, hG, rfl⟩ ih
  have hw : IntKind.wrap .i64 (Int.ofNat (i + 1)) = Int.ofNat (i + 1) := wrap_nat (by omega)
  refine ok_go 1 ?_
  refine sy_test 0 (decide (Int.ofNat i < Int.ofNat zs.length)) (by kernel_rfl) ?_ ?_
  · intro hlt
    have hlt : i < zs.length := ok_nat hlt
    obtain ⟨p, hp1, hp2⟩ := rdI hx hlt
    have hgd : zs.getD i 0 = zs[i] := by rw [List.getD_eq_getElem?_getD, List.getElem?_eq_getElem hlt]; rfl
    have hla : lastI zs (i + 1) = zs[i] := by unfold lastI; rw [if_neg (by omega), Nat.add_sub_cancel, hgd]
    refine ok_go 0 ?_
    refine sy_load 0 (r := indexAddrOp Tryz.prog 28 (.slice xa zs.length xc) (J i)) (h' := g) (by kernel_rfl) hp1 ?_
    refine ok_go 0 ?_
    refine sy_load 0 (r := loadT Tryz.prog g 3 p) (h' := g) (by kernel_rfl) hp2 ?_
    refine ok_go 1 ?_
    by_cases hb1 : zs[i] ≤ lastI zs i
    · refine sy_yes 0 (b := decide (zs[i] ≤ lastI zs i)) (by kernel_rfl) (decide_eq_true hb1) ?_
      refine ok_go 6 ?_
      exact sy_done 0 (v := J 80) (h := g) (by kernel_rfl) ⟨80, .inr ⟨N, rfl, hN, .inl ⟨rfl, i, hlt, hG, .inl (by rw [hgd]; exact hb1)⟩⟩, rfl, rfl⟩
    · refine sy_no 0 (b := decide (zs[i] ≤ lastI zs i)) (by kernel_rfl) (decide_eq_false hb1) ?_
      refine ok_go 8 ?_
      by_cases hb2 : zs[i] ≥ Int.ofNat (2 ^ N)
      · refine sy_yes 0 (b := decide (zs[i] ≥ IntKind.i64.wrap (1 * 2 ^ min (IntKind.u64.wrap (Int.ofNat N)).toNat IntKind.i64.bits))) (by kernel_rfl) (by rw [hsh]; exact decide_eq_true hb2) ?_
        refine ok_go 0 ?_
        exact sy_done 0 (v := J 80) (h := g) (by kernel_rfl) ⟨80, .inr ⟨N, rfl, hN, .inl ⟨rfl, i, hlt, hG, .inr (by rw [hgd, ← hpw]; exact hb2)⟩⟩, rfl, rfl⟩
      · refine sy_no 0 (b := decide (zs[i] ≥ IntKind.i64.wrap (1 * 2 ^ min (IntKind.u64.wrap (Int.ofNat N)).toNat IntKind.i64.bits))) (by kernel_rfl) (by rw [hsh]; exact decide_eq_false hb2) ?_
        refine ok_go 1 ?_
        refine sy_next 0 _ g (by kernel_rfl) (by kernel_rfl) (ih (i + 1) _ g ⟨hlt, fun j hj => ?_, rfl⟩ (show zs.length - (i + 1) < zs.length - i by omega) ⟨by kernel_rfl, (by kernel_rfl : _ = I zs[i]).trans (by rw [hla]), by kernel_rfl, by kernel_rfl, (by kernel_rfl : _ = Value.int .i64 (IntKind.wrap .i64 (Int.ofNat (i + 1)))).trans (by rw [hw]), trivial⟩)
        rcases Nat.lt_succ_iff_lt_or_eq.1 hj with h | rfl
        · exact hG j h
        · rintro (h | h)
          · rw [hgd] at h; exact hb1 h
          · rw [hgd, ← hpw] at h
            exact hb2 h
  · intro hlt
    have hlt : i = zs.length := Nat.le_antisymm hi (no_nat hlt)
    subst hlt
    refine ok_go 0 ?_
    exact sy_done 0 (v := J 0) (h := g) (by kernel_rfl) ⟨0, .inr ⟨N, rfl, hN, .inr ⟨rfl, hG⟩⟩, rfl, rfl⟩
end Go.Proofs.YtkfbfgcflnkllaaGreatDoor
namespace Go.Proofs.YtkfbfgcflnkllaaGreatDoor
open Go Go.Eng Nim
set_option maxRecDepth 100000
set_option maxHeartbeats 8000000
theorem rchk_of (lf m : Nat) (n : Int) (zs : List Int) (hz : zs.length < 100000) (hlf : zs.length < lf) (x : Value) (h : Hp) (hx : Rds h x (zs.map I)) :
    ∃ e, FamR n zs e ∧ Ev lf (m + 1) 54 [I n, x] h = some (J e, h) := by
  suffices ∃ v h', Ev lf (m + 1) 54 [I n, x] h = some (v, h') ∧ ∃ e, FamR n zs e ∧ v = J e ∧ h' = h by
    obtain ⟨v, h', e1, e, e2, rfl, rfl⟩ := this
    exact ⟨e, e2, e1⟩
  refine fnS_ok (Q := fun v h' => ∃ e, FamR n zs e ∧ v = J e ∧ h' = h) ?_
  obtain ⟨xa, xc, hxs⟩ := hx.shape
  rw [List.length_map] at hxs
  subst hxs
  have W := Sto.start h
  by_cases h0 : n < 0
  · refine ok_go 1 ?_
    refine sy_yes 0 (b := decide (n < 0)) (by kernel_rfl) (decide_eq_true h0) ?_
    refine ok_go 3 ?_
    exact sy_done 0 (v := J 1) (h := h) (by kernel_rfl) ⟨1, .inl ⟨.inl h0, rfl⟩, rfl, rfl⟩
  refine ok_go 1 ?_
  refine sy_no 0 (b := decide (n < 0)) (by kernel_rfl) (decide_eq_false h0) ?_
  refine ok_go 3 ?_
  by_cases h10 : n > 10
  · refine sy_yes 0 (b := decide (n > 10)) (by kernel_rfl) (decide_eq_true h10) ?_
    refine ok_go 0 ?_
    exact sy_done 0 (v := J 1) (h := h) (by kernel_rfl) ⟨1, .inl ⟨.inr h10, rfl⟩, rfl, rfl⟩
  refine sy_no 0 (b := decide (n > 10)) (by kernel_rfl) (decide_eq_false h10) ?_
  obtain ⟨N, rfl⟩ := Int.eq_ofNat_of_zero_le (show 0 ≤ n by omega)
  have hN : N ≤ 10 := by have : ¬ (10 : Int) < (N : Int) := h10; omega
  have hsh := one_shl N (by omega)
  have hpw : Int.ofNat (2 ^ N) = (2 : Int) ^ N := by simp
  refine ok_go 0 ?_
  refine sy_loop 0 lf h (α := Nat) (fun i => [(0, J N), (1, .slice xa zs.length xc), (5, J i)]) (fun i g => i ≤ zs.length ∧ GoodTo N zs i ∧ g = h) (fun i _ => zs.length - i) 0 (by kernel_rfl) (by kernel_rfl)
    ⟨by kernel_rfl, by kernel_rfl, by kernel_rfl, trivial⟩ (show zs.length - 0 < lf by omega) ⟨Nat.zero_le _, fun i hi => absurd hi (Nat.not_lt_zero i), rfl⟩ ?_
  rintro m1 i F1 g ⟨hi, hG, rfl⟩ ih
  have hw : IntKind.wrap .i64 (Int.ofNat (i + 1)) = Int.ofNat (i + 1) := wrap_nat (by omega)
  refine ok_go 2 ?_
  refine sy_test 0 (decide (Int.ofNat i < Int.ofNat zs.length)) (by kernel_rfl) ?_ ?_
  · intro hlt
    have hlt : i < zs.length := ok_nat hlt
    obtain ⟨p, hp1, hp2⟩ := rdI hx hlt
    have hgd : zs.getD i 0 = zs[i] := by rw [List.getD_eq_getElem?_getD, List.getElem?_eq_getElem hlt]; rfl
    have bad : ∀ {t : SA}, badAt N zs i → doneP (goS 0 t) = some (J 80, g) → Ok (fun v h' => ∃ e, FamR (Int.ofNat N) zs e ∧ v = J e ∧ h' = g) t := fun hb hd =>
      sy_done 0 (v := J 80) (h := g) hd ⟨80, .inr ⟨N, rfl, hN, .inl ⟨rfl, i, hlt, hG, hb⟩⟩, rfl, rfl⟩
    have hb0 : zs[i] < 0 → badAt N zs i := fun hz0 => by
      refine .inl ?_
      rw [hgd]
      unfold lastI
      split
      · omega
      · have := hG (i - 1) (by omega)
        have h3 : ¬ zs.getD (i - 1) 0 < 0 := fun hneg => by
          refine this (.inl ?_)
          have hne := fun k (_ : k < i) => hG k
          unfold lastI
          split
          · omega
          · have := hG (i - 1 - 1) (by omega)
            exact absurd hneg (by
              have key : ∀ k, k < i → 0 ≤ zs.getD k 0 := fun k => by
                induction k with
                | zero =>
                  intro hk
                  have := hG 0 hk
                  unfold badAt lastI at this
                  simp only [if_true] at this
                  omega
                | succ k ihk =>
                  intro hk
                  have h1 := ihk (by omega)
                  have := hG (k + 1) hk
                  unfold badAt lastI at this
                  rw [if_neg (by omega), Nat.add_sub_cancel] at this
                  omega
              have := key (i - 1) (by omega)
              omega)
        omega
    refine ok_go 0 ?_
    refine sy_load 0 (r := indexAddrOp Tryz.prog 28 (.slice xa zs.length xc) (J i)) (h' := g) (by kernel_rfl) hp1 ?_
    refine ok_go 0 ?_
    refine sy_load 0 (r := loadT Tryz.prog g 3 p) (h' := g) (by kernel_rfl) hp2 ?_
    refine ok_go 1 ?_
    by_cases hz0 : zs[i] < 0
    · refine sy_yes 0 (b := decide (zs[i] < 0)) (by kernel_rfl) (decide_eq_true hz0) ?_
      refine ok_go 14 ?_
      exact bad (hb0 hz0) (by kernel_rfl)
    refine sy_no 0 (b := decide (zs[i] < 0)) (by kernel_rfl) (decide_eq_false hz0) ?_
    refine ok_go 2 ?_
    refine sy_load 0 (r := indexAddrOp Tryz.prog 28 (.slice xa zs.length xc) (J i)) (h' := g) (by kernel_rfl) hp1 ?_
    refine ok_go 1 ?_
    refine sy_load 0 (r := loadT Tryz.prog g 3 p) (h' := g) (by kernel_rfl) hp2 ?_
    refine ok_go 8 ?_
    by_cases hb2 : zs[i] ≥ Int.ofNat (2 ^ N)
    · refine sy_yes 0 (b := decide (zs[i] ≥ IntKind.i64.wrap (1 * 2 ^ min (IntKind.u64.wrap (Int.ofNat N)).toNat IntKind.i64.bits))) (by kernel_rfl) (by rw [hsh]; exact decide_eq_true hb2) ?_
      refine ok_go 5 ?_
      exact bad (.inr (by rw [hgd, ← hpw]; exact hb2)) (by kernel_rfl)
    refine sy_no 0 (b := decide (zs[i] ≥ IntKind.i64.wrap (1 * 2 ^ min (IntKind.u64.wrap (Int.ofNat N)).toNat IntKind.i64.bits))) (by kernel_rfl) (by rw [hsh]; exact decide_eq_false hb2) ?_
    refine ok_go 3 ?_
    have next : badAt N zs i ∨ GoodTo N zs (i + 1) := by
      by_cases hb : badAt N zs i
      · exact .inl hb
      · refine .inr fun j hj => ?_
        rcases Nat.lt_succ_iff_lt_or_eq.1 hj with h | rfl
        · exact hG j h
        · exact hb
    by_cases hi0 : i = 0
    · subst hi0
      refine ok_go 15 ?_
      refine sy_next 0 _ g (by kernel_rfl) (by kernel_rfl) (ih 1 _ g ⟨hlt, next.resolve_left ?_, rfl⟩ (show zs.length - 1 < zs.length - 0 by omega) ⟨by kernel_rfl, by kernel_rfl, by kernel_rfl, trivial⟩)
      rintro (h | h)
      · rw [hgd] at h
        exact hz0 (by have h : zs[0] ≤ -1 := h; omega)
      · rw [hgd, ← hpw] at h
        exact hb2 h
    · obtain ⟨k, rfl⟩ : ∃ k, i = k + 1 := ⟨i - 1, by omega⟩
      have hk1 : IntKind.wrap .i64 (Int.ofNat (k + 1) - 1) = Int.ofNat k := wrap_sub (a := k + 1) (b := 1) (by omega) (by omega)
      obtain ⟨p2, hp3, hp4⟩ := rdI hx (show k < zs.length by omega)
      have hla : lastI zs (k + 1) = zs[k] := by unfold lastI; rw [if_neg (by omega), Nat.add_sub_cancel, List.getD_eq_getElem?_getD, List.getElem?_eq_getElem (by omega)]; rfl
      refine sy_yes 0 (b := decide (Int.ofNat (k + 1) > 0)) (by kernel_rfl) (decide_eq_true (by show (0 : Int) < ((k + 1 : Nat) : Int); omega)) ?_
      refine ok_go 4 ?_
      refine sy_load 0 (r := indexAddrOp Tryz.prog 28 (.slice xa zs.length xc) (I (IntKind.wrap .i64 (Int.ofNat (k + 1) - 1)))) (h' := g) (by kernel_rfl) (by rw [hk1]; exact hp3) ?_
      refine ok_go 1 ?_
      refine sy_load 0 (r := loadT Tryz.prog g 3 p2) (h' := g) (by kernel_rfl) hp4 ?_
      refine ok_go 3 ?_
      refine sy_load 0 (r := indexAddrOp Tryz.prog 28 (.slice xa zs.length xc) (J (k + 1))) (h' := g) (by kernel_rfl) hp1 ?_
      refine ok_go 1 ?_
      refine sy_load 0 (r := loadT Tryz.prog g 3 p) (h' := g) (by kernel_rfl) hp2 ?_
      refine ok_go 5 ?_
      by_cases hb3 : zs[k] ≥ zs[k + 1]
      · refine sy_yes 0 (b := decide (zs[k] ≥ zs[k + 1])) (by kernel_rfl) (decide_eq_true hb3) ?_
        refine ok_go 0 ?_
        exact bad (.inl (by rw [hgd, hla]; exact hb3)) (by kernel_rfl)
      · refine sy_no 0 (b := decide (zs[k] ≥ zs[k + 1])) (by kernel_rfl) (decide_eq_false hb3) ?_
        refine ok_go 1 ?_
        refine sy_next 0 _ g (by kernel_rfl) (by kernel_rfl) (ih (k + 1 + 1) _ g ⟨hlt, next.resolve_left ?_, rfl⟩ (show zs.length - (k + 1 + 1) < zs.length - (k + 1) by omega) ⟨by kernel_rfl, by kernel_rfl, (by kernel_rfl : _ = Value.int .i64 (IntKind.wrap .i64 (Int.ofNat (k + 1 + 1)))).trans (by rw [hw]), trivial⟩)
        rintro (h | h)
        · rw [hgd, hla] at h; exact hb3 h
        · rw [hgd, ← hpw] at h; exact hb2 h
  · intro hlt
    have hlt : i = zs.length := Nat.le_antisymm hi (no_nat hlt)
    subst hlt
    refine ok_go 0 ?_
    exact sy_done 0 (v := J 0) (h := g) (by kernel_rfl) ⟨0, .inr ⟨N, rfl, hN, .inr ⟨rfl, hG⟩⟩, rfl, rfl⟩
end Go.Proofs.YtkfbfgcflnkllaaGreatDoor
namespace Go.Proofs.YtkfbfgcflnkllaaGreatDoor
open Go Go.Eng Nim
set_option maxRecDepth 100000
set_option maxHeartbeats 4000000
theorem bad32 (lf m : Nat) (n : Int) (a : Option Addr) (N c : Nat) (z : Int) (e : Nat) (he : (Int.ofNat e != 0) = true) (h : Hp) (ck : ∀ g, h.Ext g → Ev lf m 57 [I n, .slice a N c] g = some (J e, g)) : ∃ v h', Ev lf (m + 1) 32 [I n, .slice a N c, I z] h = some (v, h') ∧ v = .tuple #[.slice none 0 0, J e] ∧ h.Ext h' := by
  refine fnS_ok (Q := fun v h' => v = .tuple #[.slice none 0 0, J e] ∧ h.Ext h') ?_
  have W := Sto.start h
  have ck1 := ck _ W.ext
  refine sy_call 0 (by kernel_rfl) (ck1) ?_
  refine sy_yes 1 (b := Int.ofNat e != 0) (by kernel_rfl) ?_ ?_
  · exact he
  refine sy_done 0 (v := Value.tuple { toList := [Value.slice none 0 0, Value.int IntKind.i64 (Int.ofNat e)] }) (h := h) (by kernel_rfl) ?_
  exact ⟨rfl, W.ext⟩
theorem bad34 (lf m : Nat) (n : Int) (a : Option Addr) (N c : Nat) (e : Nat) (he : (Int.ofNat e != 0) = true) (h : Hp) (ck : ∀ g, h.Ext g → Ev lf m 57 [I n, .slice a N c] g = some (J e, g)) : ∃ v h', Ev lf (m + 1) 34 [I n, .slice a N c] h = some (v, h') ∧ v = .tuple #[.slice none 0 0, J e] ∧ h.Ext h' := by
  refine fnS_ok (Q := fun v h' => v = .tuple #[.slice none 0 0, J e] ∧ h.Ext h') ?_
  have W := Sto.start h
  have ck1 := ck _ W.ext
  refine sy_call 0 (by kernel_rfl) (ck1) ?_
  refine sy_yes 1 (b := Int.ofNat e != 0) (by kernel_rfl) ?_ ?_
  · exact he
  refine sy_done 0 (v := Value.tuple { toList := [Value.slice none 0 0, Value.int IntKind.i64 (Int.ofNat e)] }) (h := h) (by kernel_rfl) ?_
  exact ⟨rfl, W.ext⟩
theorem bad35 (lf m : Nat) (n : Int) (a : Option Addr) (N c : Nat) (e : Nat) (he : (Int.ofNat e != 0) = true) (h : Hp) (ck : ∀ g, h.Ext g → Ev lf m 57 [I n, .slice a N c] g = some (J e, g)) : ∃ v h', Ev lf (m + 1) 35 [I n, .slice a N c] h = some (v, h') ∧ v = .tuple #[J 0, J 0, J e] ∧ h.Ext h' := by
  refine fnS_ok (Q := fun v h' => v = .tuple #[J 0, J 0, J e] ∧ h.Ext h') ?_
  have W := Sto.start h
  have ck1 := ck _ W.ext
  refine sy_call 0 (by kernel_rfl) (ck1) ?_
  refine sy_yes 1 (b := Int.ofNat e != 0) (by kernel_rfl) ?_ ?_
  · exact he
  refine ok_go 1 ?_
  refine sy_done 0 (v := Value.tuple { toList := [Value.int IntKind.i64 (Int.ofNat 0), Value.int IntKind.i64 (Int.ofNat 0), Value.int IntKind.i64 (Int.ofNat e)] }) (h := h) (by kernel_rfl) ?_
  exact ⟨rfl, W.ext⟩
theorem bad38 (lf m : Nat) (n : Int) (a : Option Addr) (N c : Nat) (z : Int) (e : Nat) (he : (Int.ofNat e != 0) = true) (h : Hp) (ck : ∀ g, h.Ext g → Ev lf m 57 [I n, .slice a N c] g = some (J e, g)) : ∃ v h', Ev lf (m + 1) 38 [I n, .slice a N c, I z] h = some (v, h') ∧ v = .tuple #[.slice none 0 0, J e] ∧ h.Ext h' := by
  refine fnS_ok (Q := fun v h' => v = .tuple #[.slice none 0 0, J e] ∧ h.Ext h') ?_
  have W := Sto.start h
  have ck1 := ck _ W.ext
  refine sy_call 0 (by kernel_rfl) (ck1) ?_
  refine sy_yes 1 (b := Int.ofNat e != 0) (by kernel_rfl) ?_ ?_
  · exact he
  refine sy_done 0 (v := Value.tuple { toList := [Value.slice none 0 0, Value.int IntKind.i64 (Int.ofNat e)] }) (h := h) (by kernel_rfl) ?_
  exact ⟨rfl, W.ext⟩
theorem bad40 (lf m : Nat) (n : Int) (a : Option Addr) (N c : Nat) (e : Nat) (he : (Int.ofNat e != 0) = true) (h : Hp) (ck : ∀ g, h.Ext g → Ev lf m 57 [I n, .slice a N c] g = some (J e, g)) : ∃ v h', Ev lf (m + 1) 40 [I n, .slice a N c] h = some (v, h') ∧ v = .tuple #[.slice none 0 0, J e] ∧ h.Ext h' := by
  refine fnS_ok (Q := fun v h' => v = .tuple #[.slice none 0 0, J e] ∧ h.Ext h') ?_
  have W := Sto.start h
  have ck1 := ck _ W.ext
  refine sy_call 0 (by kernel_rfl) (ck1) ?_
  refine sy_yes 1 (b := Int.ofNat e != 0) (by kernel_rfl) ?_ ?_
  · exact he
  refine sy_done 0 (v := Value.tuple { toList := [Value.slice none 0 0, Value.int IntKind.i64 (Int.ofNat e)] }) (h := h) (by kernel_rfl) ?_
  exact ⟨rfl, W.ext⟩
theorem bad19 (lf m : Nat) (n : Int) (a : Option Addr) (N c : Nat) (b : Bool) (e : Nat) (he : (Int.ofNat e != 0) = true) (h : Hp) (ck : ∀ g, h.Ext g → Ev lf m 57 [I n, .slice a N c] g = some (J e, g)) : ∃ v h', Ev lf (m + 1) 19 [I n, .slice a N c, .bool b] h = some (v, h') ∧ v = .tuple #[.slice none 0 0, J e] ∧ h.Ext h' := by
  refine fnS_ok (Q := fun v h' => v = .tuple #[.slice none 0 0, J e] ∧ h.Ext h') ?_
  have W := Sto.start h
  have ck1 := ck _ W.ext
  refine sy_call 0 (by kernel_rfl) (ck1) ?_
  refine sy_yes 1 (b := Int.ofNat e != 0) (by kernel_rfl) ?_ ?_
  · exact he
  refine sy_done 0 (v := Value.tuple { toList := [Value.slice none 0 0, Value.int IntKind.i64 (Int.ofNat e)] }) (h := h) (by kernel_rfl) ?_
  exact ⟨rfl, W.ext⟩
theorem bad43 (lf m : Nat) (n : Int) (a : Option Addr) (N c : Nat) (z : Int) (e : Nat) (he : (Int.ofNat e != 0) = true) (h : Hp) (ck : ∀ g, h.Ext g → Ev lf m 57 [I n, .slice a N c] g = some (J e, g)) : ∃ v h', Ev lf (m + 1) 43 [I n, .slice a N c, I z] h = some (v, h') ∧ v = .tuple #[.slice none 0 0, .bool false, J e] ∧ h.Ext h' := by
  refine fnS_ok (Q := fun v h' => v = .tuple #[.slice none 0 0, .bool false, J e] ∧ h.Ext h') ?_
  have W := Sto.start h
  refine ow_new 0 W (AObj.cells [Value.slice a N c] 28 false) (fun q => Value.pointer (some { block := q, off := 0 })) (by kernel_rfl) fun g1 ng1 Wg1 => ?_
  have W := Wg1
  refine ow_new 0 W (AObj.cells [Value.int IntKind.i64 z] 3 false) (fun q => Value.pointer (some { block := q, off := 0 })) (by kernel_rfl) fun g2 ng2 Wg2 => ?_
  have W := Wg2
  refine ow_new 0 W (AObj.cells [Value.slice none 0 0] 28 false) (fun q => Value.pointer (some { block := q, off := 0 })) (by kernel_rfl) fun g3 ng3 Wg3 => ?_
  have W := Wg3
  refine ow_load (P := Tryz.prog) (T := 28) (off := 0) 0 2 W rfl rfl (by kernel_rfl) (by kernel_rfl) ?_
  have ck1 := ck _ W.ext
  refine sy_call 0 (by kernel_rfl) (ck1) ?_
  refine sy_yes 1 (b := Int.ofNat e != 0) (by kernel_rfl) ?_ ?_
  · exact he
  refine ow_store (P := Tryz.prog) (T := 28) (off := 0) (v := Value.slice none 0 0) 0 0 W rfl (Nat.le_of_ble_eq_true (by kernel_rfl)) (by kernel_rfl) (by first | rfl | assumption) (by kernel_rfl) fun k1 nk1 Wk1 => ?_
  have W := Wk1
  refine ow_load (P := Tryz.prog) (T := 28) (off := 0) 0 0 W rfl rfl (by kernel_rfl) (by kernel_rfl) ?_
  refine sy_done 0 (v := Value.tuple { toList := [Value.slice none 0 0, Value.bool false, Value.int IntKind.i64 (Int.ofNat e)] }) (h := k1) (by kernel_rfl) ?_
  exact ⟨rfl, W.ext⟩
theorem bad51 (lf m : Nat) (n : Int) (a : Option Addr) (N c : Nat) (e : Nat) (he : (Int.ofNat e != 0) = true) (h : Hp) (ck : ∀ g, h.Ext g → Ev lf m 57 [I n, .slice a N c] g = some (J e, g)) : ∃ v h', Ev lf (m + 1) 51 [I n, .slice a N c] h = some (v, h') ∧ v = .tuple #[J 0, J 0, .bool false, J e] ∧ h.Ext h' := by
  refine fnS_ok (Q := fun v h' => v = .tuple #[J 0, J 0, .bool false, J e] ∧ h.Ext h') ?_
  have W := Sto.start h
  have ck1 := ck _ W.ext
  refine sy_call 0 (by kernel_rfl) (ck1) ?_
  refine sy_yes 1 (b := Int.ofNat e != 0) (by kernel_rfl) ?_ ?_
  · exact he
  refine sy_done 0 (v := Value.tuple { toList := [Value.int IntKind.i64 (Int.ofNat 0), Value.int IntKind.i64 (Int.ofNat 0), Value.bool false, Value.int IntKind.i64 (Int.ofNat e)] }) (h := h) (by kernel_rfl) ?_
  exact ⟨rfl, W.ext⟩
theorem bad53 (lf m : Nat) (n : Int) (a : Option Addr) (N c : Nat) (e : Nat) (he : (Int.ofNat e != 0) = true) (h : Hp) (ck : ∀ g, h.Ext g → Ev lf m 57 [I n, .slice a N c] g = some (J e, g)) : ∃ v h', Ev lf (m + 1) 53 [I n, .slice a N c] h = some (v, h') ∧ v = .tuple #[.slice none 0 0, J e] ∧ h.Ext h' := by
  refine fnS_ok (Q := fun v h' => v = .tuple #[.slice none 0 0, J e] ∧ h.Ext h') ?_
  have W := Sto.start h
  have ck1 := ck _ W.ext
  refine sy_call 0 (by kernel_rfl) (ck1) ?_
  refine sy_yes 1 (b := Int.ofNat e != 0) (by kernel_rfl) ?_ ?_
  · exact he
  refine sy_done 0 (v := Value.tuple { toList := [Value.slice none 0 0, Value.int IntKind.i64 (Int.ofNat e)] }) (h := h) (by kernel_rfl) ?_
  exact ⟨rfl, W.ext⟩
theorem bad48 (lf m : Nat) (n : Int) (a : Option Addr) (N c : Nat) (e : Nat) (he : (Int.ofNat e != 0) = true) (h : Hp) (ck : ∀ g, h.Ext g → Ev lf m 57 [I n, .slice a N c] g = some (J e, g)) : ∃ v h', Ev lf (m + 1) 48 [I n, .slice a N c] h = some (v, h') ∧ v = .tuple #[J 0, J 0, .bool false, J e] ∧ h.Ext h' := by
  refine fnS_ok (Q := fun v h' => v = .tuple #[J 0, J 0, .bool false, J e] ∧ h.Ext h') ?_
  have W := Sto.start h
  have ck1 := ck _ W.ext
  refine sy_call 0 (by kernel_rfl) (ck1) ?_
  refine sy_yes 1 (b := Int.ofNat e != 0) (by kernel_rfl) ?_ ?_
  · exact he
  refine sy_done 0 (v := Value.tuple { toList := [Value.int IntKind.i64 (Int.ofNat 0), Value.int IntKind.i64 (Int.ofNat 0), Value.bool false, Value.int IntKind.i64 (Int.ofNat e)] }) (h := h) (by kernel_rfl) ?_
  exact ⟨rfl, W.ext⟩
theorem bad49 (lf m : Nat) (n : Int) (a : Option Addr) (N c : Nat) (e : Nat) (he : (Int.ofNat e != 0) = true) (h : Hp) (ck : ∀ g, h.Ext g → Ev lf m 57 [I n, .slice a N c] g = some (J e, g)) : ∃ v h', Ev lf (m + 1) 49 [I n, .slice a N c] h = some (v, h') ∧ v = .tuple #[.agg #[.bool false, .slice none 0 0, .slice none 0 0], J e] ∧ h.Ext h' := by
  refine fnS_ok (Q := fun v h' => v = .tuple #[.agg #[.bool false, .slice none 0 0, .slice none 0 0], J e] ∧ h.Ext h') ?_
  have W := Sto.start h
  refine ow_new 0 W (AObj.cells [Value.bool false, Value.slice none 0 0, Value.slice none 0 0] 49 false) (fun q => Value.pointer (some { block := q, off := 0 })) (by kernel_rfl) fun g1 ng1 Wg1 => ?_
  have W := Wg1
  have ck1 := ck _ W.ext
  refine sy_call 0 (by kernel_rfl) (ck1) ?_
  refine sy_yes 1 (b := Int.ofNat e != 0) (by kernel_rfl) ?_ ?_
  · exact he
  refine ow_storeA (P := Tryz.prog) (T := 49) (v := Value.agg { toList := [Value.bool false, Value.slice none 0 0, Value.slice none 0 0] }) 1 0 W ([Value.bool false, Value.slice none 0 0, Value.slice none 0 0]) rfl rfl rfl (by kernel_rfl) (by first | rfl | (repeat' (first | exact rfl | assumption | apply sc_cons))) (by kernel_rfl) fun k1 nk1 Wk1 => ?_
  have W := Wk1
  refine ow_loadA (P := Tryz.prog) (T := 49) (z := 3) 0 0 W rfl (by kernel_rfl) (by kernel_rfl) rfl (by kernel_rfl) ?_
  refine sy_done 0 (v := Value.tuple { toList := [Value.agg { toList := [Value.bool false, Value.slice none 0 0, Value.slice none 0 0] }, Value.int IntKind.i64 (Int.ofNat e)] }) (h := k1) (by kernel_rfl) ?_
  exact ⟨rfl, W.ext⟩
theorem bad47 (lf m : Nat) (n : Int) (a : Option Addr) (N c : Nat) (y : Value) (e : Nat) (he : (Int.ofNat e != 0) = true) (h : Hp) (ck : ∀ g, h.Ext g → Ev lf m 57 [I n, .slice a N c] g = some (J e, g)) : ∃ v h', Ev lf (m + 1) 47 [I n, .slice a N c, y] h = some (v, h') ∧ v = .bool false ∧ h.Ext h' := by
  refine fnS_ok (Q := fun v h' => v = .bool false ∧ h.Ext h') ?_
  have W := Sto.start h
  have ck1 := ck _ W.ext
  refine sy_call 0 (by kernel_rfl) (ck1) ?_
  refine sy_yes 1 (b := Int.ofNat e != 0) (by kernel_rfl) ?_ ?_
  · exact he
  refine ok_go 9 ?_
  refine sy_done 0 (v := Value.bool false) (h := h) (by kernel_rfl) ?_
  exact ⟨rfl, W.ext⟩
end Go.Proofs.YtkfbfgcflnkllaaGreatDoor
namespace Go.Proofs.YtkfbfgcflnkllaaGreatDoor
open Go Go.Eng Nim
set_option maxRecDepth 100000
set_option maxHeartbeats 8000000
theorem load_agg {P : Program} {h : Hp} {T : TypeId} {z i off : Nat} {cs vs : List Value} {e : TypeId} {o : Bool} (ha : isAggT P T = some true) (hs : sizeT P T = some z) (hg : h.get i = some (.cells cs e o)) (ht : takeN z (cs.drop off) = some vs) : loadT P h T (ptr i off) = some (.agg vs.toArray) := by
  simp only [loadT, ha, hs, loadN, hg, ht]
theorem sign0 (lf m : Nat) (h : Hp) : ∃ v h', Ev lf (m + 2) 27 [.agg #[.bool false, .slice none 0 0, .slice none 0 0]] h = some (v, h') ∧ v = J 0 ∧ h.Ext h' := by
  have e1 : ∀ h, ∃ v h', Ev lf (m + 1) 68 [.agg #[.bool false, .slice none 0 0]] h = some (v, h') ∧ v = J 0 ∧ h.Ext h' := fun h => by
    refine fnS_ok (Q := fun v h' => v = J 0 ∧ h.Ext h') ?_
    have W := Sto.start h
    refine ow_new 0 W (AObj.cells [Value.bool false, Value.slice none 0 0] 47 false) (fun q => Value.pointer (some { block := q, off := 0 })) (by kernel_rfl) fun g1 ng1 Wg1 => ?_
    have W := Wg1
    refine ow_load (P := Tryz.prog) (T := 4) (off := 0) 1 0 W rfl rfl (by kernel_rfl) (by kernel_rfl) ?_
    refine ow_load (P := Tryz.prog) (T := 45) (off := 1) 2 0 W rfl rfl (by kernel_rfl) (by kernel_rfl) ?_
    refine ok_go 3 ?_
    refine sy_done 0 (v := Value.int IntKind.i64 (Int.ofNat 0)) (h := g1) (by kernel_rfl) ?_
    exact ⟨rfl, W.ext⟩
  refine fnS_ok (Q := fun v h' => v = J 0 ∧ h.Ext h') ?_
  have W := Sto.start h
  refine ow_new 0 W (AObj.cells [Value.bool false, Value.slice none 0 0, Value.slice none 0 0] 49 false) (fun q => Value.pointer (some { block := q, off := 0 })) (by kernel_rfl) fun g1 ng1 Wg1 => ?_
  have W := Wg1
  refine ok_go 1 ?_
  refine sy_load 0 (r := loadT Tryz.prog g1 47 (ptr h.next 0)) (h' := g1) (v := .agg #[.bool false, .slice none 0 0]) (by kernel_rfl) (load_agg (z := 2) (by kernel_rfl) (by kernel_rfl) (W.get 0 rfl) rfl) ?_
  obtain ⟨y2, q2, ec2, rc2⟩ := e1 (g1)
  refine sy_call 0 (by kernel_rfl) ec2 ?_
  obtain ⟨rfl, X⟩ := rc2
  have W := W.call X
  refine sy_done 0 (v := Value.int IntKind.i64 (Int.ofNat 0)) (h := q2) (by kernel_rfl) ?_
  exact ⟨rfl, W.ext⟩
theorem lawC (z : Int) (zs : List Int) (x : Value) (zm : Int) (m : Nat) (h : Hp) (hx : Rds h x (zs.map I)) (hwf : WfS x) : ∃ H, Ev 100000 (m + 4) 13 [I z, x, I zm] h = some (.bool true, H) := by
  refine fn_val ?_
  obtain ⟨xa, xc, hxs⟩ := hx.shape
  rw [List.length_map] at hxs
  have W := Sto.start h
  obtain ⟨ov, g1, e1, RO, X1⟩ := raw_of 100000 (m + 2) 1030 (by decide) zs x h hx hwf
  subst hxs
  have hol : (zs.take 1030).length ≤ 1030 := by rw [List.length_take]; omega
  generalize zs.take 1030 = ys at *
  obtain ⟨oa, oc, rfl⟩ := RO.shape
  rw [List.length_map] at RO e1
  refine ok_go 0 ?_
  refine sy_call 0 (by kernel_rfl) e1 ?_
  have W := W.call X1
  have X0 := Hp.Ext.refl g1
  obtain ⟨e, he, e2⟩ := rchk_of 100000 (m + 2) z ys (by omega) (by omega) _ g1 RO
  have ck : ∀ k h, Rds h (.slice oa ys.length oc) (ys.map I) → Ev 100000 (k + 1) 57 [I z, .slice oa ys.length oc] h = some (J e, h) := fun k h hr => by
    obtain ⟨f, hf, e3⟩ := chk_of 100000 k z ys (by omega) (by omega) _ h hr
    rw [hf.uniq he] at e3
    exact e3
  refine ok_go 0 ?_
  refine sy_call 0 (by kernel_rfl) e2 ?_
  refine ok_go 0 ?_
  refine sy_call 0 (by kernel_rfl) (ck (m + 2) g1 RO) ?_
  refine ok_go 1 ?_
  refine sy_no 0 (b := Int.ofNat e != Int.ofNat e) (by kernel_rfl) (bne_self_eq_false _) ?_
  refine ok_go 1 ?_
  by_cases h0 : e = 0
  · refine sy_yes 0 (b := Int.ofNat e == 0) (by kernel_rfl) (by rw [h0]; rfl) ?_
    refine ok_go 1 ?_
    exact sy_done 0 (v := .bool true) (h := g1) (by kernel_rfl) rfl
  refine sy_no 0 (b := Int.ofNat e == 0) (by kernel_rfl) (beq_eq_false_iff_ne.2 fun h => h0 (Int.ofNat.inj h)) ?_
  have hne : (Int.ofNat e != 0) = true := bne_iff_ne.2 fun h => h0 (Int.ofNat.inj h)
  have hee : (Int.ofNat e == Int.ofNat e) = true := beq_self_eq_true _
  obtain ⟨_, q2, c32, rfl, Y32⟩ := bad32 100000 (m + 2) z oa ys.length oc zm e hne g1 (fun g X => ck (m + 1) g (RO.ext (X0.trans X)))
  have X0 := X0.trans Y32
  refine ok_go 0 ?_
  refine sy_call 0 (by kernel_rfl) c32 ?_
  obtain ⟨_, q3, c34, rfl, Y34⟩ := bad34 100000 (m + 2) z oa ys.length oc  e hne q2 (fun g X => ck (m + 1) g (RO.ext (X0.trans X)))
  have X0 := X0.trans Y34
  refine ok_go 2 ?_
  refine sy_call 0 (by kernel_rfl) c34 ?_
  obtain ⟨_, q4, c35, rfl, Y35⟩ := bad35 100000 (m + 2) z oa ys.length oc  e hne q3 (fun g X => ck (m + 1) g (RO.ext (X0.trans X)))
  have X0 := X0.trans Y35
  refine ok_go 2 ?_
  refine sy_call 0 (by kernel_rfl) c35 ?_
  obtain ⟨_, q5, c38, rfl, Y38⟩ := bad38 100000 (m + 2) z oa ys.length oc zm e hne q4 (fun g X => ck (m + 1) g (RO.ext (X0.trans X)))
  have X0 := X0.trans Y38
  refine ok_go 3 ?_
  refine sy_call 0 (by kernel_rfl) c38 ?_
  obtain ⟨_, q6, c40, rfl, Y40⟩ := bad40 100000 (m + 2) z oa ys.length oc  e hne q5 (fun g X => ck (m + 1) g (RO.ext (X0.trans X)))
  have X0 := X0.trans Y40
  refine ok_go 2 ?_
  refine sy_call 0 (by kernel_rfl) c40 ?_
  obtain ⟨_, q7, c19, rfl, Y19⟩ := bad19 100000 (m + 2) z oa ys.length oc (zm.tmod 2 == 0) e hne q6 (fun g X => ck (m + 1) g (RO.ext (X0.trans X)))
  have X0 := X0.trans Y19
  refine ok_go 4 ?_
  refine sy_call 0 (by kernel_rfl) c19 ?_
  obtain ⟨_, q8, c43, rfl, Y43⟩ := bad43 100000 (m + 2) z oa ys.length oc zm e hne q7 (fun g X => ck (m + 1) g (RO.ext (X0.trans X)))
  have X0 := X0.trans Y43
  refine ok_go 2 ?_
  refine sy_call 0 (by kernel_rfl) c43 ?_
  obtain ⟨_, q9, c51, rfl, Y51⟩ := bad51 100000 (m + 2) z oa ys.length oc  e hne q8 (fun g X => ck (m + 1) g (RO.ext (X0.trans X)))
  have X0 := X0.trans Y51
  refine ok_go 3 ?_
  refine sy_call 0 (by kernel_rfl) c51 ?_
  obtain ⟨_, q10, c53, rfl, Y53⟩ := bad53 100000 (m + 2) z oa ys.length oc  e hne q9 (fun g X => ck (m + 1) g (RO.ext (X0.trans X)))
  have X0 := X0.trans Y53
  refine ok_go 4 ?_
  refine sy_call 0 (by kernel_rfl) c53 ?_
  obtain ⟨_, q11, c48, rfl, Y48⟩ := bad48 100000 (m + 2) z oa ys.length oc  e hne q10 (fun g X => ck (m + 1) g (RO.ext (X0.trans X)))
  have X0 := X0.trans Y48
  refine ok_go 2 ?_
  refine sy_call 0 (by kernel_rfl) c48 ?_
  obtain ⟨_, q12, c49, rfl, Y49⟩ := bad49 100000 (m + 2) z oa ys.length oc  e hne q11 (fun g X => ck (m + 1) g (RO.ext (X0.trans X)))
  have X0 := X0.trans Y49
  refine ok_go 4 ?_
  refine sy_call 0 (by kernel_rfl) c49 ?_
  have W := Sto.start q12
  refine ok_go 2 ?_
  refine ow_new 0 W (AObj.cells [Value.bool false, Value.slice none 0 0, Value.slice none 0 0] 49 false) (fun q => Value.pointer (some { block := q, off := 0 })) (by kernel_rfl) fun b1 nb1 Wb1 => ?_
  have W := Wb1
  refine ow_storeA (P := Tryz.prog) (T := 49) (v := Value.agg { toList := [Value.bool false, Value.slice none 0 0, Value.slice none 0 0] }) 0 0 W ([Value.bool false, Value.slice none 0 0, Value.slice none 0 0]) rfl rfl rfl (by kernel_rfl) (by first | rfl | (repeat' (first | exact rfl | assumption | apply sc_cons))) (by kernel_rfl) fun b2 nb2 Wb2 => ?_
  have W := Wb2
  refine ok_go 1 ?_
  have Xb := W.ext
  refine sy_yes 0 (b := Int.ofNat e == Int.ofNat e) (by kernel_rfl) hee ?_
  refine ok_go 4 ?_
  refine sy_yes 0 (b := Int.ofNat e == Int.ofNat e) (by kernel_rfl) hee ?_
  refine ok_go 4 ?_
  refine sy_yes 0 (b := Int.ofNat e == Int.ofNat e) (by kernel_rfl) hee ?_
  refine ok_go 4 ?_
  refine sy_yes 0 (b := Int.ofNat e == Int.ofNat e) (by kernel_rfl) hee ?_
  refine ok_go 4 ?_
  refine sy_yes 0 (b := Int.ofNat e == Int.ofNat e) (by kernel_rfl) hee ?_
  refine ok_go 4 ?_
  refine sy_yes 0 (b := Int.ofNat e == Int.ofNat e) (by kernel_rfl) hee ?_
  refine ok_go 4 ?_
  refine sy_yes 0 (b := Int.ofNat e == Int.ofNat e) (by kernel_rfl) hee ?_
  refine ok_go 4 ?_
  refine sy_yes 0 (b := Int.ofNat e == Int.ofNat e) (by kernel_rfl) hee ?_
  refine ok_go 4 ?_
  refine sy_yes 0 (b := Int.ofNat e == Int.ofNat e) (by kernel_rfl) hee ?_
  refine ok_go 4 ?_
  refine sy_yes 0 (b := Int.ofNat e == Int.ofNat e) (by kernel_rfl) hee ?_
  refine ok_go 4 ?_
  refine sy_yes 0 (b := Int.ofNat e == Int.ofNat e) (by kernel_rfl) hee ?_
  refine ok_go 48 ?_
  refine ow_loadA (P := Tryz.prog) (T := 49) (z := 3) 0 0 W rfl (by kernel_rfl) (by kernel_rfl) rfl (by kernel_rfl) ?_
  refine ok_go 1 ?_
  obtain ⟨_, q20, c27, rfl, Y27⟩ := sign0 100000 (m + 1) b2
  refine sy_call 0 (by kernel_rfl) c27 ?_
  refine ok_go 7 ?_
  obtain ⟨_, q21, c47, rfl, Y47⟩ := bad47 100000 (m + 2) z oa ys.length oc (.slice oa ys.length oc) e hne q20 (fun g X => ck (m + 1) g (RO.ext (X0.trans (Xb.trans (Y27.trans X)))))
  refine sy_call 0 (by kernel_rfl) c47 ?_
  refine ok_go 6 ?_
  refine sy_done 0 (v := Value.bool true) (h := q21) (by kernel_rfl) ?_
  rfl
end Go.Proofs.YtkfbfgcflnkllaaGreatDoor
namespace Go.Proofs.YtkfbfgcflnkllaaGreatDoor
open Go Go.Eng Nim Go.ChangeShapes
set_option maxRecDepth 100000
section
variable {HH : Type} {enc : TypeId × Value → HH} {B : Prot} {w0 w : World}
theorem cell_block {w : World} {a : Addr} {v : Value} (h : w.cell? a = some v) : ∃ arr e fz, w.heap[a.block]? = some (.cells arr e fz) ∧ a.spot = none ∧ arr[a.off]? = some v := by
  unfold World.cell? at h
  split at h
  · rename_i c e fz hb
    split at h
    · cases h
    · rename_i hs
      refine ⟨c, e, fz, hb, ?_, h⟩
      cases hq : a.spot with
      | none => rfl
      | some q => rw [hq] at hs; simp at hs
  · cases h
theorem add_spot {a : Addr} (h : a.spot = none) (i : Nat) : a.add i = ⟨a.block, a.off + i, none⟩ := by
  obtain ⟨b, o, s⟩ := a
  simp only at h
  subst h
  unfold Addr.add
  split
  · rename_i h0; subst h0; rfl
  · rfl
/-- A slice in memory, as the evaluator sees it: the cells one by one. -/
theorem openCells {E : Env} {h : Hp} (H : HpOK Tryz.prog B w0 E h w) (hB : ∀ k, k < w.heap.size → B.ro k) {a : Addr} {len cap : Nat} (cs : List Value) (hl : cs.length = len) (hc0 : 0 < cap → a.spot = none)
    (hlc : len ≤ cap) (hcell : ∀ i v, cs[i]? = some v → w.cell? (a.add i) = some (con E v)) (hs : scL h.next cs = true) (h1 : ∀ v ∈ cs, scalar v = true) :
    ∃ E' h' v, HpOK Tryz.prog B w0 E' h' w ∧ Agree h.next E E' ∧ h.Ext h' ∧ con E' v = .slice (some a) len cap ∧ sc h'.next v = true ∧ Rds h' v cs ∧ scalar v = true ∧ WfS v := by
  subst hl
  cases cs with
  | nil =>
    refine ⟨E.ext h.next a.block 0, ⟨h.objs, h.next + 1⟩, .slice (some ⟨h.next, a.off, a.spot⟩) 0 (2 * cap), H.bump a.block, Env.ext_agree _ _ _ _, ⟨Nat.le_succ _, fun j _ => rfl⟩, ?_, by simp [sc], ?_, rfl, ?_⟩
    · obtain ⟨b, o, s⟩ := a
      cases s with
      | none => simp [con, conCap]
      | some q =>
        have hc : cap = 0 := Nat.eq_zero_of_not_pos fun hp => by have := hc0 hp; simp at this
        subst hc
        simp [con, conCap, conOff, conSpot]
    · cases hsp : a.spot with
      | none => exact .inr ⟨h.next, a.off, _, rfl, fun hn => absurd rfl hn⟩
      | some q =>
        have hc : cap = 0 := Nat.eq_zero_of_not_pos fun hp => by have := hc0 hp; rw [hsp] at this; cases this
        subst hc
        exact .inl ⟨⟨_, rfl⟩, rfl⟩
    · cases hsp : a.spot with
      | none => exact .inl ⟨rfl, Nat.zero_le _⟩
      | some q =>
        have hc : cap = 0 := Nat.eq_zero_of_not_pos fun hp => by have := hc0 hp; rw [hsp] at this; cases this
        subst hc
        exact .inr ⟨rfl, rfl⟩
  | cons v r =>
    have h0 := hcell 0 v rfl
    have hsp : a.spot = none := hc0 (by simp at hlc; omega)
    obtain ⟨arr, e, fz, hb, _, ha⟩ := cell_block h0
    rw [add_spot hsp] at ha hb
    have ha0 : a.off + 0 < arr.size := (Array.getElem?_eq_some_iff.1 ha).1
    have hR := H.newRo (m := a.block) (off := a.off) (cs := v :: r) (hB _ (Array.getElem?_eq_some_iff.1 hb).1) hb (by omega) (fun i u hu => by
      have hi := hcell i u hu
      obtain ⟨arr', e', fz', hb', _, ha'⟩ := cell_block hi
      rw [add_spot hsp] at hb' ha'
      rw [hb] at hb'
      cases hb'
      exact ha') hs h1
    refine ⟨_, _, .slice (some ⟨h.next, a.off, none⟩) (r.length + 1) (2 * cap), hR, Env.ext_agree _ _ _ _, Hp.Ext.new _ _, ?_, by simp [sc, Hp.new], .inr ⟨h.next, a.off, _, rfl, fun _ => ⟨Nat.lt_succ_self _, ?_⟩⟩, rfl, .inl ⟨rfl, by simp at hlc; omega⟩⟩
    · obtain ⟨b, o, s⟩ := a
      simp only at hsp
      subst hsp
      simp [con, conCap]
    · unfold loadN
      rw [get_new]
      have hble : Nat.ble a.off a.off = true := Nat.ble_eq_true_of_le (Nat.le_refl _)
      simp only [hble, Nat.sub_self, List.drop_zero]
      exact takeN_all (v :: r)
theorem openInts {E : Env} {h : Hp} (H : HpOK Tryz.prog B w0 E h w) (hB : ∀ k, k < w.heap.size → B.ro k) {fuel : Nat} {c : Value} {x : DataW HH × List MemPlace}
    (ht : DataW.trod enc Tryz.prog w 0 (fun _ => true) true fuel 28 [c] = some x) :
    ∃ (E' : Env) (h' : Hp) (v : Value) (r : List Int), HpOK Tryz.prog B w0 E' h' w ∧ Agree h.next E E' ∧ h.Ext h' ∧ con E' v = c ∧ sc h'.next v = true ∧ Rds h' v (r.map I) ∧ scalar v = true ∧ r.length < 2 ^ 63 ∧ WfS v := by
  rcases open_ints (k := .i64) u28 (by kernel_rfl) (by kernel_rfl) ht with ⟨hc, _⟩ | ⟨a, len, cap, zs, hc, _, hlc, hcm, hzl, _, hcell, hwf⟩
  · simp only [List.cons.injEq, and_true] at hc
    subst hc
    exact ⟨E, h, .slice none 0 0, [], H, Agree.refl _ _, Hp.Ext.refl _, by simp [con], rfl, .inl ⟨⟨none, rfl⟩, rfl⟩, rfl, by decide, ⟨rfl, rfl⟩⟩
  · simp only [List.cons.injEq, and_true] at hc
    subst hc
    simp only [if_true] at hzl
    obtain ⟨E', h', v, k1, k2, k3, k4, k5, k6, k7, k8⟩ := openCells H hB (a := a) (len := len) (cap := cap) ((zs.take len).map I) (by simp; omega) (fun hp => by
        have := hcell 0 (by omega)
        obtain ⟨_, _, _, _, h2, _⟩ := cell_block this
        unfold Addr.add at h2
        simpa using h2) hlc (fun i v hv => by
        have hil : i < len ∧ i < zs.length := by
          have := (List.getElem?_eq_some_iff.1 hv).1
          simp at this
          exact ⟨by omega, by omega⟩
        have := hcell i hil.2
        rw [this]
        rw [List.getElem?_map, List.getElem?_take, if_pos hil.1, List.getElem?_eq_getElem hil.2] at hv
        simp only [Option.map_some, Option.some.injEq] at hv
        subst hv
        rw [List.getD_eq_getElem?_getD, List.getElem?_eq_getElem hil.2]
        simp [con]) (by rw [scL_iff]; intro v hv; obtain ⟨z, _, rfl⟩ := List.mem_map.1 hv; rfl) (fun v hv => by obtain ⟨z, _, rfl⟩ := List.mem_map.1 hv; rfl)
    refine ⟨E', h', v, zs.take len, k1, k2, k3, k4, k5, k6, k7, ?_, k8⟩
    have : maxLen = 2 ^ 63 - 1 := rfl
    rw [List.length_take]
    omega
theorem openIntsArg {E : Env} {h : Hp} (H : HpOK Tryz.prog B w0 E h w) (hB : ∀ k, k < w.heap.size → B.ro k) {v0 : Value} {base : Nat} {d : DataW HH} {p : List MemPlace} (hval : Value.okWide Tryz.prog w .any base 28 v0)
    (ht : DataW.Trod enc Tryz.prog w 0 (fun _ => true) true 28 v0 d p) :
    ∃ (E' : Env) (h' : Hp) (xa : Option Addr) (xc : Nat) (zs : List Int), HpOK Tryz.prog B w0 E' h' w ∧ con E' (.slice xa zs.length xc) = v0 ∧ sc h'.next (.slice xa zs.length xc) = true ∧ Rds h' (.slice xa zs.length xc) (zs.map I) ∧ WfS (.slice xa zs.length xc) ∧ zs.length < 2 ^ 63 := by
  obtain ⟨fuel, ht⟩ := ht
  have hsl : ∃ a l c, v0 = .slice a l c := by
    unfold Value.okWide at hval
    rw [u28] at hval
    simp only [Cell.okWide, u28, Cell.ok] at hval
    cases v0 <;> first | exact ⟨_, _, _, rfl⟩ | simp at hval
  obtain ⟨a0, l0, c0, rfl⟩ := hsl
  have hcells : (Value.slice a0 l0 c0).cells.toList = [.slice a0 l0 c0] := rfl
  rw [hcells] at ht
  obtain ⟨E', h', v, r, j1, j2, j3, j4, j5, j6, j7, j8, j9⟩ := openInts H hB ht
  obtain ⟨xa, xc, hs⟩ := j6.shape
  rw [List.length_map] at hs
  subst hs
  exact ⟨E', h', xa, xc, r, j1, j4, j5, j6, j9, j8⟩
end
end Go.Proofs.YtkfbfgcflnkllaaGreatDoor
namespace Go.Proofs.YtkfbfgcflnkllaaGreatDoor
open Go Go.Eng Nim
theorem said13 (z : Int) (zs : List Int) (_ : zs.length < 2 ^ 63) (xa : Option Addr) (xc : Nat) (zm : Int) (h : Hp) (hx : Rds h (.slice xa zs.length xc) (zs.map I)) (hwf : WfS (.slice xa zs.length xc)) : ∃ H, evInv Tryz.prog orc 100000 1000 (.fn 13 [.int .i64 z, .slice xa zs.length xc, .int .i64 zm]) h = some (.bool true, H) :=
  lawC z zs _ zm 996 h hx hwf
end Go.Proofs.YtkfbfgcflnkllaaGreatDoor
